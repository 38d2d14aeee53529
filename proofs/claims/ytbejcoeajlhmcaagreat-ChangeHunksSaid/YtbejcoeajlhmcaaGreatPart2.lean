/- Walks. -/
import Derived.Test.YtbejcoeajlhmcaaGreatPart1
import Derived.WalkKit
import Derived.ProofKit
import Derived.OpenShut
import Derived.ShutString
import Derived.ChangeOld
import Derived.Below
import Derived.SizedLaws
import Derived.SliceStrings
import Derived.Carry
import Derived.Laws.IdiomStrings
import Derived.Laws.IdiomCopy
import Derived.Lib.AppendStr
import Derived.ChangeKeysEq
import Derived.RangeFuncLeaves
import Derived.RangeFuncRecord
import Derived.RangeFuncKeeps
import Derived.OrdersIn
import Derived.Lib.AppendZerosOnto
import Derived.Lib.Overlaps
import Derived.Test.YtbejcoeajlhmcaaGreatProg
import Derived.Maps.RangeRun
import Derived.DeepKeys4
set_option linter.unusedVariables false
set_option linter.unusedSimpArgs false
set_option linter.unusedSectionVars false

namespace Go.SL
open Go.RowKit
section
variable {P:Program}{w0:World}{n:Nat}{T:TT}{S:SS}
theorem add_own (r j:Nat):(⟨r,0,none⟩:Addr).add j=⟨r,j,none⟩:=by rw[Addr.add_lit];simp
theorem Yields.ixO {sz:Nat}{x i:PV}{r len cap j:Nat}{k:IntKind}{z:Int}(hx:x.val T=some (.slice (some ⟨r,0,none⟩) len cap)) (hi:i.val T=some (.int k z)) (hz:z=(j:Int)) (h:j<len) :
  Yields P w0 n (.ixS sz x i) T S (.pointer (some ⟨r,j*sz,none⟩)):=by
 have:=Yields.bO (P:=P) (w0:=w0) (n:=n) (S:=S) (sz:=sz) hx hi hz h
 rwa [add_own] at this
theorem Yields.ixO1 {x i:PV}{r len cap j:Nat}{k:IntKind}{z:Int}(hx:x.val T=some (.slice (some ⟨r,0,none⟩) len cap)) (hi:i.val T=some (.int k z)) (hz:z=(j:Int)) (h:j<len) :
  Yields P w0 n (.ixS 1 x i) T S (.pointer (some ⟨r,j,none⟩)):=by
 have:=Yields.dY (P:=P) (w0:=w0) (n:=n) (S:=S) hx hi hz h
 rwa [add_own] at this
theorem made1 (z:Value) (hz:z.cells=#[z]) (m:Nat):(madeCells z.cells (m*1)).toList=List.replicate m z:=by rw[hz,Nat.mul_one,toList_madeCells_one]
theorem setAt_get (c:List Value) (k:Nat) (v:Value) (h:k<c.length) (p:Nat):(setAt c k [v])[p]? = if p=k then some v else c[p]?:=by
 induction c generalizing k p with
 |nil=>simp at h
 |cons x c ih=>
  cases k with
  |zero=>cases p<;>simp[setAt,setAt_nil]
  |succ k=>
   simp only[setAt];cases p with
   |zero=>simp
   |succ p=>simp[ih k (by simpa using h) p]
theorem az {r E tot:Nat}{c:List Value}(h:(r,AO.cells c E tot)∈S.flatten) {j:Nat}{v:Value}(hj:c[j]? = some v):Cell w0 S ⟨r,j,none⟩ v:=by
 have:=(Rd.own (w0:=w0) h).at hj
 rwa [add_own] at this
theorem cutV0 (A:Option Addr) (cap sz h:Nat):cutV A cap sz 0 h=.slice A h cap:=by
 unfold cutV;have:A.map (fun a=>a.add (0*sz))=A:=by cases A<;>simp[Addr.add]
 rw[this];simp
theorem Rd.pre {A:Option Addr}{cs cs':List Value}(h:Rd w0 S A cs) (hp:cs' <+: cs):Rd w0 S A cs':=by
 obtain⟨r,rfl⟩:=hp;intro j v hj;have hlt:=(List.getElem?_eq_some_iff.1 hj).1
 exact h j v (by rw[List.getElem?_append_left hlt];exact hj)
theorem Sub.cL {S' S:SS}(h:Sub S' S):Sub ([]::S') S:=⟨fun p hp=>h.mem p (by simpa using hp),fun hn=>by simpa using h.nodup hn⟩
theorem inBlk_n {k:Nat}{Q:Exit->TT->SS->Prop}:inBlk k Q .normal T S=Q .normal T S:=rfl
end
end Go.SL
namespace Go.SL
open Go Go.RowKit
section
variable {P:Program}{w0:World}{n:Nat}{T:TT}{S:SS}{rs:List Nat}{v:Value}{f:FuncId}{args:List PV}{vs:List Value}{d d0 d1 d2 d3 d4:Option Nat}{v0 v1 v2 v3 v4:Value}{po o0 o1 o2 o3 o4:PO}{r:List PI}{y:PC}
theorem zR {R:Value → Prop}(h:resV T rs=some v) (k:R v):(Exit.ret=Exit.normal∨Exit.ret=Exit.ret) ∧ ∃v,resV T rs=some v ∧ R v:=⟨.inr rfl,v,h,k⟩
theorem OL.q {K:TT → SS → Prop}(hv:valsP T args=some vs) (h:FC P w0 f vs S (fun u S'=>u=v ∧ S'=S)) (k:OL P w0 n r (put d v T) S K):OL P w0 n (⟨d,none,.call f args⟩::r) T S K:=OL.call trivial hv h (by rintro _ _ ⟨rfl,rfl⟩;exact k)
theorem OL.x {K:TT → SS → Prop}(h:Yields P w0 n po T S v) (k:OL P w0 n r (put d v T) S K):OL P w0 n (⟨d,none,po⟩::r) T S K:=OL.ak trivial h k
theorem QK.x {K:TT → Prop}(h:Yields P w0 n po T S v) (k:QK P w0 n S r (put d v T) K):QK P w0 n S (⟨d,none,po⟩::r) T K:=QK.ak trivial h k
theorem OL.c {K:TT → SS → Prop}{K':Value → SS → Prop}(h:OW P w0 n po T S K') (k:∀v S',K' v S' → OL P w0 n r (put d v T) S' K):OL P w0 n (⟨d,none,po⟩::r) T S K:=OL.cons trivial h k
theorem OL.l {post:Value → SS → Prop}{K:TT → SS → Prop}(hv:valsP T args=some vs) (h:FC P w0 f vs S post) (k:∀v S',post v S' → OL P w0 n r (put d v T) S' K):OL P w0 n (⟨d,none,.call f args⟩::r) T S K:=OL.call trivial hv h k
theorem QK.l {K:TT → Prop}(hv:valsP T args=some vs) (h:FC P w0 f vs S (fun v' S'=>v'=v ∧ S'=S)) (k:QK P w0 n S r (put d v T) K):QK P w0 n S (⟨d,none,.call f args⟩::r) T K:=QK.call trivial hv h k
theorem OL.n1 {K:TT → SS → Prop}(h0:bJ o0 T=some v0) (k:K (put d0 v0 T) S):OL P w0 n [⟨d0,none,o0⟩] T S K:=OL.dp h0 (OL.nil k)
theorem PW.s1 {Q:Exit → TT → SS → Prop}(h0:bJ o0 T=some v0) (k:PW P w0 n y (put d0 v0 T) S Q):PW P w0 n (.seq (.ops [⟨d0,none,o0⟩]) y) T S Q:=PW.ae (OL.dp h0 (OL.nil k))
theorem OL.p2 {K:TT → SS → Prop}(h0:bJ o0 T=some v0) (h1:bJ o1 (put d0 v0 T)=some v1) (k:OL P w0 n r (put d1 v1 (put d0 v0 T)) S K):OL P w0 n (⟨d0,none,o0⟩::⟨d1,none,o1⟩::r) T S K:=OL.dp h0 (OL.dp h1 (k))
theorem OL.n2 {K:TT → SS → Prop}(h0:bJ o0 T=some v0) (h1:bJ o1 (put d0 v0 T)=some v1) (k:K (put d1 v1 (put d0 v0 T)) S):OL P w0 n [⟨d0,none,o0⟩,⟨d1,none,o1⟩] T S K:=OL.dp h0 (OL.dp h1 (OL.nil k))
theorem PW.s2 {Q:Exit → TT → SS → Prop}(h0:bJ o0 T=some v0) (h1:bJ o1 (put d0 v0 T)=some v1) (k:PW P w0 n y (put d1 v1 (put d0 v0 T)) S Q):PW P w0 n (.seq (.ops [⟨d0,none,o0⟩,⟨d1,none,o1⟩]) y) T S Q:=PW.ae (OL.dp h0 (OL.dp h1 (OL.nil k)))
theorem OL.p3 {K:TT → SS → Prop}(h0:bJ o0 T=some v0) (h1:bJ o1 (put d0 v0 T)=some v1) (h2:bJ o2 (put d1 v1 (put d0 v0 T))=some v2) (k:OL P w0 n r (put d2 v2 (put d1 v1 (put d0 v0 T))) S K):OL P w0 n (⟨d0,none,o0⟩::⟨d1,none,o1⟩::⟨d2,none,o2⟩::r) T S K:=OL.dp h0 (OL.dp h1 (OL.dp h2 (k)))
theorem OL.n3 {K:TT → SS → Prop}(h0:bJ o0 T=some v0) (h1:bJ o1 (put d0 v0 T)=some v1) (h2:bJ o2 (put d1 v1 (put d0 v0 T))=some v2) (k:K (put d2 v2 (put d1 v1 (put d0 v0 T))) S):OL P w0 n [⟨d0,none,o0⟩,⟨d1,none,o1⟩,⟨d2,none,o2⟩] T S K:=OL.dp h0 (OL.dp h1 (OL.dp h2 (OL.nil k)))
theorem PW.s3 {Q:Exit → TT → SS → Prop}(h0:bJ o0 T=some v0) (h1:bJ o1 (put d0 v0 T)=some v1) (h2:bJ o2 (put d1 v1 (put d0 v0 T))=some v2) (k:PW P w0 n y (put d2 v2 (put d1 v1 (put d0 v0 T))) S Q):PW P w0 n (.seq (.ops [⟨d0,none,o0⟩,⟨d1,none,o1⟩,⟨d2,none,o2⟩]) y) T S Q:=PW.ae (OL.dp h0 (OL.dp h1 (OL.dp h2 (OL.nil k))))
theorem OL.p4 {K:TT → SS → Prop}(h0:bJ o0 T=some v0) (h1:bJ o1 (put d0 v0 T)=some v1) (h2:bJ o2 (put d1 v1 (put d0 v0 T))=some v2) (h3:bJ o3 (put d2 v2 (put d1 v1 (put d0 v0 T)))=some v3) (k:OL P w0 n r (put d3 v3 (put d2 v2 (put d1 v1 (put d0 v0 T)))) S K):OL P w0 n (⟨d0,none,o0⟩::⟨d1,none,o1⟩::⟨d2,none,o2⟩::⟨d3,none,o3⟩::r) T S K:=OL.dp h0 (OL.dp h1 (OL.dp h2 (OL.dp h3 (k))))
theorem OL.n4 {K:TT → SS → Prop}(h0:bJ o0 T=some v0) (h1:bJ o1 (put d0 v0 T)=some v1) (h2:bJ o2 (put d1 v1 (put d0 v0 T))=some v2) (h3:bJ o3 (put d2 v2 (put d1 v1 (put d0 v0 T)))=some v3) (k:K (put d3 v3 (put d2 v2 (put d1 v1 (put d0 v0 T)))) S):OL P w0 n [⟨d0,none,o0⟩,⟨d1,none,o1⟩,⟨d2,none,o2⟩,⟨d3,none,o3⟩] T S K:=OL.dp h0 (OL.dp h1 (OL.dp h2 (OL.dp h3 (OL.nil k))))
theorem PW.s4 {Q:Exit → TT → SS → Prop}(h0:bJ o0 T=some v0) (h1:bJ o1 (put d0 v0 T)=some v1) (h2:bJ o2 (put d1 v1 (put d0 v0 T))=some v2) (h3:bJ o3 (put d2 v2 (put d1 v1 (put d0 v0 T)))=some v3) (k:PW P w0 n y (put d3 v3 (put d2 v2 (put d1 v1 (put d0 v0 T)))) S Q):PW P w0 n (.seq (.ops [⟨d0,none,o0⟩,⟨d1,none,o1⟩,⟨d2,none,o2⟩,⟨d3,none,o3⟩]) y) T S Q:=PW.ae (OL.dp h0 (OL.dp h1 (OL.dp h2 (OL.dp h3 (OL.nil k)))))
theorem QK.n1 {K:TT → Prop}(h0:bJ o0 T=some v0) (k:K (put d0 v0 T)):QK P w0 n S [⟨d0,none,o0⟩] T K:=QK.dp h0 (QK.nil k)
theorem QK.p2 {K:TT → Prop}(h0:bJ o0 T=some v0) (h1:bJ o1 (put d0 v0 T)=some v1) (k:QK P w0 n S r (put d1 v1 (put d0 v0 T)) K):QK P w0 n S (⟨d0,none,o0⟩::⟨d1,none,o1⟩::r) T K:=QK.dp h0 (QK.dp h1 (k))
theorem QK.n2 {K:TT → Prop}(h0:bJ o0 T=some v0) (h1:bJ o1 (put d0 v0 T)=some v1) (k:K (put d1 v1 (put d0 v0 T))):QK P w0 n S [⟨d0,none,o0⟩,⟨d1,none,o1⟩] T K:=QK.dp h0 (QK.dp h1 (QK.nil k))
theorem QK.p3 {K:TT → Prop}(h0:bJ o0 T=some v0) (h1:bJ o1 (put d0 v0 T)=some v1) (h2:bJ o2 (put d1 v1 (put d0 v0 T))=some v2) (k:QK P w0 n S r (put d2 v2 (put d1 v1 (put d0 v0 T))) K):QK P w0 n S (⟨d0,none,o0⟩::⟨d1,none,o1⟩::⟨d2,none,o2⟩::r) T K:=QK.dp h0 (QK.dp h1 (QK.dp h2 (k)))
theorem QK.p4 {K:TT → Prop}(h0:bJ o0 T=some v0) (h1:bJ o1 (put d0 v0 T)=some v1) (h2:bJ o2 (put d1 v1 (put d0 v0 T))=some v2) (h3:bJ o3 (put d2 v2 (put d1 v1 (put d0 v0 T)))=some v3) (k:QK P w0 n S r (put d3 v3 (put d2 v2 (put d1 v1 (put d0 v0 T)))) K):QK P w0 n S (⟨d0,none,o0⟩::⟨d1,none,o1⟩::⟨d2,none,o2⟩::⟨d3,none,o3⟩::r) T K:=QK.dp h0 (QK.dp h1 (QK.dp h2 (QK.dp h3 (k))))
end
end Go.SL

namespace Go.SL
open Go.ChangeShapes Go.WideShapes Go.ChangeAt Go.RowKit
section
variable {H:Type}{enc:TypeId×Value->H}{P:Program}{W:World}
theorem trodAll_below (hl:laidOutB P=true) {W':World}(hb:Below W.heap.size W W'):∀{ts:List TypeId}{vs:List Value}{ds:List (DataW H)}{ps:List MemPlace},ts.all (fun t=>P.readableRec t && decide (t<P.types.size))=true ->
  DataW.TrodAll enc P W 0 (fun _=>true) true ts vs ds ps->DataW.TrodAll enc P W' 0 (fun b=>decide (b<W.heap.size)) true ts vs ds ps
 |[],[],[],ps,_,h=>h
 |t::ts,v::vs,d::ds,ps,hr,h=>by
  obtain⟨p,q,h1,h2,rfl⟩:=h;simp only[List.all_cons,Bool.and_eq_true,decide_eq_true_eq] at hr;obtain⟨m,hm⟩:=h1;exact⟨p,q,Below.trod hl hr.1.1 hr.1.2 ⟨m,hm⟩ hb (DataW.trod_lt m _ _ _ hm),trodAll_below hl hb hr.2 h2,rfl⟩
theorem split_rows {α:Type}{f:α->List Value}{R:α->Prop}{m:Nat}:∀(len:Nat) (cs:List Value),cs.length=len*m->(∀i,i<len->∃x,(cs.drop (i*m)).take m=f x/\R x)->∃l:List α,l.length=len/\cs=l.flatMap f/\∀x∈l,R x
 |0,cs,hl,_=>⟨[],rfl,by simpa using hl,by simp⟩
 |len+1,cs,hl,h=>by
  obtain⟨x,hx,hR⟩:=h 0 (by omega)
  obtain⟨l,h1,h2,h3⟩:=split_rows (f:=f) (R:=R) (m:=m) len (cs.drop m) (by rw[List.length_drop,hl,Nat.succ_mul];omega) (fun i hi=>by
   obtain⟨y,hy,hy2⟩:=h (i+1) (by omega)
   exact⟨y,by rw[List.drop_drop,show m+i*m=(i+1)*m by rw[Nat.succ_mul];omega];exact hy,hy2⟩)
  refine⟨x::l,by simp[h1],?_,by simpa using ⟨hR,h3⟩⟩
  rw[List.flatMap_cons,<- h2,<- hx];simp
theorem arg_list {α:Type}{f:α->List Value}{R:α->Prop}{t e:TypeId}{A:Option Addr}{len cap j:Nat}{d:DataW H}{ps:List MemPlace}{ts:List TypeId}{ds:List (DataW H)}(hu:P.underlying t=some (.slice e))
  (hQ:∀n cs y,DataW.trod enc P W 0 (fun _=>true) true n e cs=some y->cs.length=P.cellsOf e->∃x,cs=f x/\R x)
  (h:DataW.Trod enc P W 0 (fun _=>true) true t (.slice A len cap) d ps) (hsz:(DataW.weightsEach P ts ds).all (·<=reachBytes)=true) (ht:ts[j]? = some t) (hd:ds[j]? = some d) :
  ∃l:List α,l.length=len/\Rd W [] A (l.flatMap f)/\(∀x∈l,R x)/\len*P.bytesOf e<=reachBytes/\len<=cap:=by
 obtain⟨fuel,h⟩:=h;rcases DataW.trod_slice hu h with⟨h0,_⟩|⟨a,len',cap',elems,rest,n,_,hcs,hx,hb,hl,hm,hlen,hel,_,_⟩
 ·simp[Value.cells] at h0;obtain⟨rfl,rfl,rfl⟩:=h0;exact⟨[],rfl,Rd.nil,by simp,by simp,by simp⟩
 simp[Value.cells] at hcs;obtain⟨rfl,rfl,rfl⟩:=hcs;have hw:=sized_slice (P:=P) hsz ht (elems:=elems.map (·.1)) (spare:=rest.map (·.1)) (by rw[hd];simpa using congrArg Prod.fst hx) hu
 generalize hmm:P.cellsOf e=m at *
 have row:∀i,i<len->∃cs',cs'.length=m/\(∀q,q<m->W.cell? (a.add (i*m+q))=cs'[q]?)/\∃x,cs'=f x/\R x:=by
  intro i hi;have:=hel i hi
  have hs:elems[i]? = some (elems[i]'(by omega)):=List.getElem?_eq_getElem (by omega)
  rw[hs,Option.bind_eq_some_iff] at this;obtain⟨cs',hc,ht'⟩:=this;obtain⟨_,hlc,hcell⟩:=World.cells?_some hc;refine⟨cs',hlc,fun q hq=>?_,hQ _ _ _ ht' hlc⟩
  rw[<- aZ];exact hcell q hq
 have cellAt:∀j,j<len*m->∃v,W.cell? (a.add j)=some v:=by
  intro j hj;have hm0:0<m:=Nat.pos_of_ne_zero fun e=>by subst e;omega
  have hi:j / m<len:=Nat.div_lt_of_lt_mul (by rw[Nat.mul_comm];exact hj)
  have hq:=Nat.mod_lt j hm0
  obtain⟨cs',h1,h2,_⟩:=row (j / m) hi;have:=h2 (j % m) hq
  rw[Nat.mul_comm,Nat.div_add_mod] at this;exact⟨_,by rw[this];exact List.getElem?_eq_getElem (by omega)⟩
 let cs:=(List.range (len*m)).map fun j=>(W.cell? (a.add j)).getD undef
 have hcs:∀j,j<len*m->cs[j]? = W.cell? (a.add j):=by
  intro j hj;obtain⟨v,hv⟩:=cellAt j hj;simp[cs,hj,hv]
 have hcl:cs.length=len*m:=by simp[cs]
 obtain⟨l,h1,h2,h3⟩:=split_rows (f:=f) (R:=R) (m:=m) len cs hcl (fun i hi=>by
  obtain⟨cs',g1,g2,x,g3,g4⟩:=row i hi;refine⟨x,?_,g4⟩;rw[<- g3];apply List.ext_getElem?;intro q;by_cases hq:q<m
  ·have:(i+1)*m<=len*m:=Nat.mul_le_mul_right _ hi
   rw[Nat.succ_mul] at this;rw[List.getElem?_take_of_lt hq,List.getElem?_drop,hcs _ (by omega),g2 q hq]
  rw[List.getElem?_eq_none (by simp;omega),List.getElem?_eq_none (by omega)])
 refine⟨l,h1,?_,h3,?_,hl⟩
 ·rw[<- h2];intro j v hj;have hlt:j<len*m:=by have:=(List.getElem?_eq_some_iff.1 hj).1;omega
  rw[hcs j hlt] at hj;exact⟨a,rfl,.inl hj⟩
 refine Nat.le_trans (Nat.mul_le_mul_right _ ?_) hw;simp;omega
def Fits:CK->Value->Prop
 |.int k,v=>∃n,v=.int k n/\(Lit.int k n).wf=true
 |.str,v=>∃s:ByteArray,v=.string s/\s.size<=maxLen
 |.bool,v=>∃b,v=.bool b
theorem trod_ck {t:TypeId}{c:CK}{n:Nat}{cs:List Value}{y:DataW H×List MemPlace}(hc:ckOf P t=some c) (h:DataW.trod enc P W 0 (fun _=>true) true n t cs=some y):∃v,cs=[v]/\Fits c v:=by
 unfold ckOf at hc;split at hc
 ·rename_i k hk;cases hc;obtain⟨m,rfl,_,hw⟩:=DataW.trod_int hk h;exact⟨_,rfl,m,rfl,hw⟩
 ·rename_i hk;cases hc;obtain⟨s,rfl,_,hw⟩:=DataW.trod_string hk h;exact⟨_,rfl,s,rfl,hw⟩
 ·rename_i hk;cases hc;obtain⟨b,rfl,_⟩:=DataW.trod_bool hk h;exact⟨_,rfl,b,rfl⟩
 cases hc
theorem FC.below {k:FuncId}{args:List Value}{v:Value}(h:FC P W k args [] (fun u _=>u=v)):Calls P k args.toArray W fun e w'=>e=.returned v/\Below W.heap.size W w':=
 (h W ⟨Below.refl _ _,by simp,by simp,.inr (Nat.le_refl _)⟩).mono fun e w' ⟨u,S',he,hr,hu⟩=>⟨by rw[he,hu],hr.below⟩
end
end Go.SL

namespace Go.SL
open Go.RowKit
section
variable {P:Program}{w0:World}{n:Nat}{T:TT}{S:SS}
theorem Yields.cF {x:PV}{a:Addr}(hx:x.val T=some (.pointer (some a))):Yields P w0 n (.cF x) T S (.pointer (some a)):=by
 intro o ac w hco hs hr;obtain⟨y,ho,rfl⟩:=aM P hco;simp[execOp,ho,hs.eval hx]
theorem ptrB_spec {t:TypeId}(h:ptrB P t=true):∃e,P.underlying t=some (.pointer e):=by
 unfold ptrB at h;split at h
 ·exact⟨_,by assumption⟩
 simp at h
theorem Yields.eqPn {neg:Bool}{x y:PV}{A:Option Addr}(hx:x.val T=some (.pointer A)) (hy:y.val T=some (.pointer none)):Yields P w0 n (.eqP neg x y) T S (.bool (if neg then A.isSome else A.isNone)):=by
 intro o ac w hco hs hr;obtain⟨t,a,b,u,ho,rfl,rfl,hp⟩:=aM P hco;obtain⟨e,he⟩:=ptrB_spec hp;have heq:(Op.equalIn 10000 t (.pointer A) (.pointer none)).run P w=.ok A.isNone w:=by
  unfold Op.equalIn;cases A<;>simp[run_underlying he]
 cases neg
 ·simp[execOp,ho,hs.eval hx,hs.eval hy,eqGuard,binOp,Op.equal,Op.maxDepth,heq]
 simp[execOp,ho,hs.eval hx,hs.eval hy,eqGuard,binOp,Op.equal,Op.maxDepth,heq]
def bd (l:List UInt8):List Value:=l.map fun b=>.int .u8 (b.toNat:Int)
theorem bytesC_length (l:List UInt8):(bd l).length=l.length:=by simp[bd]
theorem bytesC_all (l:List UInt8):(bd l).all (·.oneCell')=true:=by
 rw[List.all_eq_true];intro u hu;obtain⟨b,_,rfl⟩:=List.mem_map.1 hu;rfl
theorem Yields.slA {len:Nat}{x:PV}{a:Addr}(hx:x.val T=some (.pointer (some a))):Yields P w0 n (.slA len x) T S (.slice (some a) len len):=by
 intro o ac w hco hs hr;obtain⟨t,y,e,ie,ho,rfl,hu,hi⟩:=aM P hco;have hb:=run_bounds (P:=P) false len len none none 0 len (.inr ⟨rfl,rfl⟩) (.inr ⟨rfl,rfl⟩) (Nat.zero_le _) (Nat.le_refl _) w
 have hsz:(sizeOf e).run P w=.ok ie.size w:=by simp[sizeOf,typeInfo,program,hi,Sem.run]
 simp only[execOp,ho,hs.eval hx,Instr.sliceAt,Option.map_none];simp[run_underlying hu,Instr.sureAddr,hb,hsz];cases len<;>simp[Addr.add]
theorem Yields.ixA {len sz j:Nat}{x i:PV}{a:Addr}{k:IntKind}{z:Int}(hx:x.val T=some (.pointer (some a))) (hi:i.val T=some (.int k z)) (hz:z=(j:Int)) (h:j<len):Yields P w0 n (.ixA len sz x i) T S (.pointer (some (a.add (j*sz)))):=by
 intro o ac w hco hs hr;obtain⟨t,y,y2,e,ie,ho,rfl,rfl,hu,hie,rfl⟩:=aM P hco;subst hz;have hsz:(sizeOf e).run P w=.ok ie.size w:=by simp[sizeOf,typeInfo,program,hie,Sem.run]
 simp only[execOp,ho,hs.eval hx,hs.eval hi,Instr.indexAt];simp[run_underlying hu,Instr.sureAddr,asIntOf,hsz,h]
theorem Yields.mkF {f:FuncId}{caps:List PV}{vs:List Value}(hv:valsP T caps=some vs):Yields P w0 n (.mkF f caps) T S (.func (.func f) #[] vs.toArray):=by
 intro o ac w hco hs hr;obtain⟨fi,cs,ho,hfi,rfl⟩:=aM P hco;have hfi':fi=#[]:=by apply Array.toList_inj.1;simpa using hfi
 subst hfi';have hargs:cs.map ac.eval=vs.toArray:=by
  have:=valsP_spec hs hv
  rw[<- this,<- Array.toArray_toList (xs:=cs.map ac.eval),Array.toList_map]
 simp[execOp,ho,Instr.makeFunc,hargs]
theorem OW.callv {f:PV}{g:FuncId}{args:List PV}{fi ca:List Value}{vs:List Value}{post:Value->SS->Prop}(hf:f.val T=some (.func (.func g) fi.toArray ca.toArray)) (hok:fnOk P g=true) (hv:valsP T args=some vs)
  (h:FC P w0 g (fi++vs++ca) S post):OW P w0 n (.callv f args) T S post:=by
 intro op ac w Q hco hs hr;obtain⟨cl,y,ho,hca,rfl,rfl⟩:=aM P hco;have hargs:cl.args.map ac.eval=vs.toArray:=by
  have:=valsP_spec hs hv
  rw[<- this,<- Array.toArray_toList (xs:=cl.args.map ac.eval),Array.toList_map]
 have hrun:(execOp ac.eval op).run P w=.ok (.enter g (fi++vs++ca).toArray) w:=by
  unfold fnOk at hok;split at hok
  ·rename_i fn hfn;simp only[Bool.and_eq_true,bne_iff_ne,ne_eq] at hok;have hb:¬fn.body=none:=by intro hh;simp[hh] at hok
   simp only[execOp,ho,resolve,hca,hs.eval hf,Deferred.ofValue];simp[invoke,callFunc,program,Sem.run,hfn,hok.1,hb,hargs]
  simp at hok
 unfold Oper.wp;rw[hrun];refine(h w hr).mono ?_;rintro e w' ⟨v,S',rfl,hr',hp⟩;exact⟨v,S',rfl,hr',hp⟩
theorem OW.bsl0 {E:TypeId}:OW P w0 n (.bsl0 E) T S (fun v S'=>∃r,v=.slice (some ⟨r,0,none⟩) 0 0/\S'=[(r,.cells [] E 0)]::S):=by
 intro op a w Q hco hs hr;obtain⟨t,l,qs,i,ho,rfl,hq,hu,hi⟩:=aM P hco;have hq':qs=#[]:=by apply Array.toList_inj.1;simpa using hq
 subst hq';have hrun:(execOp a.eval op).run P w=.ok (.value (.slice (some ⟨w.heap.size,0,none⟩) 0 0)) (w.alloc (.cells #[] E)):=by
  have hsz:(sizeOf E).run P w=.ok i.size w:=by simp[sizeOf,typeInfo,program,hi,Sem.run]
  simp[execOp,ho,Instr.buildSlice,run_underlying hu,hsz,Instr.fill,newRow,newObj,Sem.run];rw[show Array.range 0=#[] from by simp[Array.range],Array.map_empty]
 unfold Oper.wp;rw[hrun];exact⟨_,_,rfl,by simpa using hr.alloc #[] E,w.heap.size,rfl,rfl⟩
def KnownC (P:Program) (k:FuncId) (pc:PC) (n s:Nat) (m:Option Nat):Prop:=
 ∃fn c t,P.funcs[k]? = some fn/\fn.body=some c/\cC P fn.ntmps c=some pc/\fn.ntmps=n/\fn.results=#[.cell s t]/\aggOf P t=some m
def ReadsAs (w0:World) (S:SS) (m:Option Nat) (a:Addr) (v:Value):Prop:=match m with
 |none=>Cell w0 S a v
 |some m=>∃cs:List Value,v=.agg cs.toArray/\cs.length=m/\∀j u,cs[j]? = some u->Cell w0 S (a.add j) u
theorem FC.ofC {k:FuncId}{pc:PC}{s:Nat}{m:Option Nat}{args:List Value}{post:Value->SS->Prop}(hk:KnownC P k pc n s m) (hn:args.length<=n)
  (h:PW P w0 n pc (bo 0 args) S (fun e T' S'=>(e=.normal∨e=.ret)/\∃a v,look T' s=some (.pointer (some a))/\ReadsAs w0 S' m a v/\∃S'',Sub S'' S'/\post v S'')):FC P w0 k args S post:=by
 obtain⟨fn,c,t,hf,hb,hc,rfl,hres,hm⟩:=hk;intro w hw;refine calls_of_wp hf hb (wp_mono (h c hc _ w (argT_sat hn) hw) ?_);rintro e a' w' ⟨T',S',hs',hr',he,a,v,hl,hv,S'',hsub,hp⟩;have ht:=hs'.get s _ hl
 have hload:(loadVar t a).run P w'=.ok v w':=by
  cases m with
  |none=>
   obtain⟨d,hu,hd⟩:=aggOf_none hm;have:=hr'.cell hv
   simp[loadVar,dO hu,hd,load,Sem.run,this]
  |some m=>
   obtain⟨cs,rfl,hcl,hcs⟩:=hv;obtain⟨d,i,hu,hd,hi,hsz⟩:=aggOf_some hm;have hload:=run_loadCells_list (P:=P) w' a cs (fun j v hj=>hr'.cell (hcs j v hj))
   rw[hcl] at hload;simp[loadVar,dO hu,hd,sizeOf,typeInfo,program,hi,hsz,hload,Sem.run]
 have hrun:(results fn a'.tmps).run P w'=.ok v w':=by
  simp[results,hres,ht,asAddr,hload]
 rcases he with rfl|rfl
 ·exact⟨hs'.defers,v,hrun,v,S'',rfl,hr'.bZ hsub,hp⟩
 exact⟨hs'.defers,v,hrun,v,S'',rfl,hr'.bZ hsub,hp⟩
end
section
variable {P:Program}{w0:World}{n:Nat}{T:TT}{S:SS}
theorem Yields.binRaw {op:BinOp}{x y:PV}{u v r:Value}(hx:x.val T=some u) (hy:y.val T=some v) (hg:∀t a b w,(eqGuard op t a b u v).run P w=.ok () w) (h:∀t w,(binOp op t u v).run P w=.ok r w):Yields P w0 n (.bin op x y) T S r:=by
 intro o ac w hco hs hr;obtain⟨t,c,d,z,ho,rfl,rfl,hp⟩:=aM P hco;simp only[execOp,ho,hs.eval hx,hs.eval hy];simp[hg,h]
theorem Yields.quo {x y:PV}{k:IntKind}{a b:Int}(hx:x.val T=some (.int k a)) (hy:y.val T=some (.int k b)) (hb:b≠0):Yields P w0 n (.bin .quo x y) T S (.int k (k.wrap (a.tdiv b))):=
 Yields.binRaw hx hy (fun t a b w=>by simp[eqGuard]) (fun t w=>by simp[binOp,Op.intDiv,hb])
end
section
variable {P:Program}{w0:World}{n:Nat}{T:TT}{S:SS}
theorem Yields.ixA1 {len j:Nat}{x i:PV}{a:Addr}{k:IntKind}{z:Int}(hx:x.val T=some (.pointer (some a))) (hi:i.val T=some (.int k z)) (hz:z=(j:Int)) (h:j<len):Yields P w0 n (.ixA len 1 x i) T S (.pointer (some (a.add j))):=by
 have:=Yields.ixA (P:=P) (w0:=w0) (n:=n) (S:=S) (sz:=1) hx hi hz h
 simpa using this
end
end Go.SL

namespace Go.SL
open Go.ChangeShapes Go.WideShapes Go.ChangeAt Go.RowKit
section
variable {H:Type}{enc:TypeId×Value->H}{P:Program}{W:World}
def structShape (P:Program) (g:TypeId->Option (List CK)):Nat->List Field->Option (List CK)
 |_,[]=>some []
 |off,f::fs=>match g f.type with
  |some s=>if f.offset=off/\P.cellsOf f.type=s.length then(structShape P g (off+s.length) fs).map (s++·) else none
  |none=>none
def deepOf (P:Program):Nat->TypeId->Option (List CK)
 |0,_=>none
 |d+1,t=>match ckOf P t with
  |some c=>some [c]
  |none=>match P.underlying t with
   |some (.struct fs)=>structShape P (deepOf P d) 0 fs.toList
   |some (.array n e)=>match deepOf P d e with
    |some s=>if P.cellsOf e=s.length then some ((List.replicate n s).flatten) else none
    |none=>none
   |_=>none
def cM:List CK->List Value->Prop
 |[],[]=>True
 |c::cs,v::vs=>Fits c v/\cM cs vs
 |_,_=>False
theorem cM.append {s t:List CK}{a b:List Value}(h1:cM s a) (h2:cM t b):cM (s++t) (a++b):=by
 induction s generalizing a with
 |nil=>cases a with
  |nil=>exact h2
  |cons v a=>exact h1.elim
 |cons c s ih=>cases a with
  |nil=>exact h1.elim
  |cons v a=>exact⟨h1.1,ih h1.2⟩
theorem struct_fits {g:TypeId->Option (List CK)}{cs:List Value}{n:Nat}{xs:List (DataW H×List MemPlace)}
  (hg:∀t s l y,g t=some s->DataW.trod enc P W 0 (fun _=>true) true n t l=some y->l.length=s.length->cM s l) :
  ∀(fs:List Field) (off i:Nat) (sh:List CK),structShape P g off fs=some sh->off+sh.length<=cs.length->(∀(j:Nat) (f:Field),fs[j]? = some f->∃y,DataW.trod enc P W 0 (fun _=>true) true n f.type ((cs.drop f.offset).take (P.cellsOf f.type))=some y)->cM sh ((cs.drop off).take sh.length)
 |[],off,i,sh,h,_,_=>by
  simp[structShape] at h;subst h;simp[cM]
 |f::fs,off,i,sh,h,hl,hx=>by
  simp only[structShape] at h;split at h
  ·rename_i s hs;split at h
   ·rename_i hc;obtain⟨r,hr,rfl⟩:=Option.map_eq_some_iff.1 h;obtain⟨y,hy⟩:=hx 0 f rfl;simp only[List.length_append] at hl;have h1:=hg _ _ _ _ hs hy (by rw[hc.1,hc.2];simp;omega)
    rw[hc.1,hc.2] at h1;have h2:=struct_fits (cs:=cs) (xs:=xs) hg fs (off+s.length) i r hr (by omega) (fun j f' hj=>hx (j+1) f' (by simpa using hj))
    have e:(cs.drop off).take (s++r).length=(cs.drop off).take s.length++(cs.drop (off+s.length)).take r.length:=by
     rw[List.length_append,List.take_add,List.drop_drop]
    show cM (s++r) _
    rw[e];exact h1.append h2
   cases h
  cases h
theorem arr_fits {s:List CK}:∀(n:Nat) (cs:List Value),cs.length=n*s.length->(∀i,i<n->cM s ((cs.drop (i*s.length)).take s.length))->cM (List.replicate n s).flatten cs
 |0,cs,hl,_=>by
  have:cs=[]:=List.eq_nil_of_length_eq_zero (by simpa using hl)
  subst this;simp[cM]
 |n+1,cs,hl,h=>by
  have h0:=h 0 (by omega)
  rw[Nat.zero_mul,List.drop_zero] at h0;have h1:=arr_fits (s:=s) n (cs.drop s.length) (by rw[List.length_drop,hl,Nat.succ_mul];omega) (fun i hi=>by
   have:=h (i+1) (by omega)
   rwa [List.drop_drop,show s.length+i*s.length=(i+1)*s.length by rw[Nat.succ_mul];omega])
  rw[List.replicate_succ,List.flatten_cons];have:=h0.append h1
  rwa [List.take_append_drop] at this
theorem deep_fits (d:Nat):∀(n:Nat) (t:TypeId) (sh:List CK) (cs:List Value) (y:DataW H×List MemPlace),deepOf P d t=some sh->DataW.trod enc P W 0 (fun _=>true) true n t cs=some y->cs.length=sh.length->cM sh cs:=by
 induction d with
 |zero=>intro n t sh cs y h;simp[deepOf] at h
 |succ d ih=>
  intro n t sh cs y h ht hlen;simp only[deepOf] at h;split at h
  ·rename_i c hc;cases h;obtain⟨v,rfl,hf⟩:=trod_ck hc ht;exact⟨hf,trivial⟩
  split at h
  ·rename_i fs hu;obtain⟨xs,m,_,_,hl,hlx,hx⟩:=DataW.trod_struct hu ht;have:=struct_fits (enc:=enc) (P:=P) (W:=W) (n:=m) (cs:=cs) (xs:=xs) (g:=fun t=>(deepOf P d t)) ?_ fs.toList 0 0 sh h (by omega) ?_
   ·rw[List.drop_zero,<- hlen,List.take_length] at this;exact this
   ·exact fun t s l y h1 h2 h3=>ih m t s l y h1 h2 h3
   intro j f hj;have h1:=hx j f (by rw[<- Array.getElem?_toList];exact hj)
   have hjl:j<xs.length:=by have:=(List.getElem?_eq_some_iff.1 hj).1;rw[hlx];simpa using this
   rw[List.getElem?_eq_getElem hjl] at h1;exact⟨_,h1⟩
  ·rename_i k e hu;split at h
   ·rename_i s hs;split at h
    ·rename_i hc;cases h;obtain⟨xs,m,_,_,hl,hlx,hx⟩:=DataW.trod_array hu ht;have hlen2:cs.length=k*s.length:=by rw[hlen];simp
     refine arr_fits k cs hlen2 (fun i hi=>?_)
     have h1:=hx i hi
     rw[List.getElem?_eq_getElem (by omega),hc] at h1
     refine ih m e s _ _ hs h1 ?_;have h2:(i+1)*s.length<=k*s.length:=Nat.mul_le_mul_right _ hi
     rw[Nat.succ_mul] at h2;simp;omega
    cases h
   cases h
  cases h
end
end Go.SL

namespace Go.SL
open Go.RowKit Go.ChangeShapes Go.WideShapes Go.ChangeAt
section
variable {H:Type}{enc:TypeId×Value->H}{P:Program}{W:World}
theorem nil_cap {t e:TypeId}{A:Option Addr}{len cap:Nat}{d:DataW H}{ps:List MemPlace}(hu:P.underlying t=some (.slice e)) (h:DataW.Trod enc P W 0 (fun _=>true) true t (.slice A len cap) d ps):A=none->cap=0:=by
 obtain⟨fuel,h⟩:=h;rcases DataW.trod_slice hu h with⟨h0,_⟩|⟨a,len',cap',elems,rest,n,_,hcs,_⟩
 ·simp[Value.cells] at h0;exact fun _=>h0.2.2
 simp[Value.cells] at hcs;intro e;rw[hcs.1] at e;cases e
end
end Go.SL

namespace Go.SL
open Go.RowKit
section
variable {P:Program}{w0:World}{n:Nat}{T:TT}{S:SS}
theorem constNil2 {y:Operand}(h:constNil y=2):y=.const (.slice none 0 0):=by
 unfold constNil at h;split at h
 ·cases h
 ·rfl
 cases h
theorem Yields.mkI {t:TypeId}{x:PV}{v:Value}(hx:x.val T=some v):Yields P w0 n (.more (.mkI t x)) T S (.iface t v):=by
 intro o a w hco hs hr;obtain⟨y,d,ho,rfl,hu,hd⟩:=aM P hco;have:(Instr.makeInterface t v).run P w=.ok (.iface t v) w:=by
  unfold Instr.makeInterface;simp only[Sem.run_bind,run_underlying hu,Result.andThen_ok];cases d<;>(first|rfl|exact absurd rfl (hd _))
 simp[execOp,ho,hs.eval hx,this]
theorem Yields.slNil {neg:Bool}{x:PV}{A:Option Addr}{l c:Nat}(hx:x.val T=some (.slice A l c)):Yields P w0 n (.more (.slNil neg x)) T S (.bool (if neg then A.isSome else A.isNone)):=by
 intro o a w hco hs hr;obtain⟨t,y,z,u,e,ho,rfl,hz,hu⟩:=aM P hco;obtain rfl:=constNil2 hz;have he:a.eval (.const (.slice none 0 0))=.slice none 0 0:=rfl
 have heq0:∀d,(Op.equalIn (d+1) t (.slice A l c) (.slice none 0 0)).run P w=.ok A.isNone w:=by
  intro d;cases A<;>simp[Op.equalIn,run_underlying hu]
 have heq:(Op.equal t (.slice A l c) (.slice none 0 0)).run P w=.ok A.isNone w:=heq0 9999
 cases neg
 ·simp only[execOp,ho,Bool.false_eq_true,if_false,hs.eval hx,he];simp[eqGuard,binOp,heq]
 simp only[execOp,ho,if_true,hs.eval hx,he];simp[eqGuard,binOp,heq]
theorem Yields.bldA {zero:List Value}{parts:List (Nat×Nat×PV)}{cs:List Value}(h:dw T zero parts=some cs):Yields P w0 n (.more (.bldA zero parts)) T S (.agg cs.toArray):=by
 intro o a w hco hs hr;obtain⟨t,qs,m,e,i,ie,z,ho,hu,hi,hie,hz,rfl,hpa⟩:=aM P hco;have hfill:=fill_spec hs (place:=fun j=>some (j*ie.size,ie.size)) (cells:=z.cells) hpa h
 simp only[execOp,ho];have hb:P.built t (qs.map fun(i,x)=>(i,a.eval x)).toList=some cs.toArray:=by
  unfold Program.built;simp only[hi,hu,hz,hie];simp only[Array.toList_map];exact hfill
 have:=run_build (P:=P) w t _ cs.toArray hb
 simp only[Sem.run_bind,this,Result.andThen_ok];rfl
theorem OW.aD {x:PV}{b o l c k E tot:Nat}{cs:List Value}(hx:x.val T=some (.slice (some ⟨b,o,none⟩) l c)) (hk:S[k]? = some [(b,.cells cs E tot)]) :
  OW P w0 n (.more (.aD x)) T S (fun v S'=>v=.slice (some ⟨b,o,none⟩) l c/\S'=S.set k [(b,.ro cs)]):=by
 intro op a w Q hco hs hr;obtain⟨s,t,y,e,ho,rfl,rfl,hu,he⟩:=aM P hco;obtain⟨hge,C,hC,htot,hpre⟩:=hr.own (b,.cells cs E tot) (List.mem_flatten.2 ⟨_,List.mem_of_getElem? hk,by simp⟩)
 simp only at hge hC;have hlt:b<w.heap.size:=(Array.getElem?_eq_some_iff.1 hC).1
 have hrun:(execOp a.eval op).run P w=.ok (.value (.slice (some ⟨b,o,none⟩) l c)) (w.freeze ⟨b,C.size,none⟩ 1):=by
  simp only[execOp,ho,hs.eval hx,convert];have hsh:w.shape? b=some (E,C.size):=by simp[World.shape?,hC]
  simp[run_underlying hu,run_underlying he,markStringish,shape,freeze,Sem.run,hsh]
 unfold Oper.wp;rw[hrun];refine⟨_,_,rfl,?_,rfl,rfl⟩;have hheap:∀i,i≠b->(w.freeze ⟨b,C.size,none⟩ 1).heap[i]? = w.heap[i]?:=by
  intro i hi;simp[World.freeze,Array.getElem?_modify];intro e;exact absurd e.symm hi
 refine hr.replace hk ⟨rfl,rfl,rfl,by simp[World.freeze],fun i hi=>hheap i (by omega)⟩ (fun i _ hne=>hheap i (by simpa using hne)) (by simp) ?_
 intro p hp;simp only[List.mem_singleton] at hp;subst hp;refine⟨hge,?_,.inl (by simp)⟩
 refine⟨C,E,(C.size,C.size+1),?_,hpre⟩;simp[World.freeze,Array.getElem?_modify,hC]
theorem OW.rngS {x:PV}{s:ByteArray}(hx:x.val T=some (.string s)):OW P w0 n (.more (.rngS x)) T S (fun v S'=>∃r,v=.pointer (some ⟨r,0,none⟩)/\S'=[(r,.obj (.stringIter s 0))]::S):=by
 intro op a w Q hco hs hr;obtain⟨t,y,ho,rfl,hu⟩:=aM P hco;have hrun:(execOp a.eval op).run P w=.ok (.value (.pointer (some ⟨w.heap.size,0,none⟩))) (w.alloc (.stringIter s 0)):=by
  simp[execOp,ho,hs.eval hx,Instr.range,run_underlying hu,newObj,Sem.run]
 unfold Oper.wp;rw[hrun];refine⟨_,_,rfl,?_,w.heap.size,rfl,rfl⟩;refine hr.push (fB hr _) (fun i hi=>ey w _ i hi) (by simp) ?_
 intro p hp;simp only[List.mem_singleton] at hp;subst hp;exact⟨alloc_heap_new w _,Nat.le_refl _⟩
theorem iter_at {w:World}{k b:Nat}{o:Obj}(h:df w0 S w) (hk:S[k]? = some [(b,.obj o)]):w0.heap.size<=b/\w.heap[b]? = some o:=
 h.own (b,.obj o) (List.mem_flatten.2 ⟨_,List.mem_of_getElem? hk,by simp⟩)
theorem OW.nxtS_end {x:PV}{s:ByteArray}{b k p:Nat}(hx:x.val T=some (.pointer (some ⟨b,0,none⟩))) (hk:S[k]? = some [(b,.obj (.stringIter s p))]) (hp:¬p<s.size) :
  Yields P w0 n (.more (.nxtS x)) T S (.tuple #[.bool false]):=by
 intro op a w hco hs hr;obtain⟨y,ho,rfl⟩:=aM P hco;obtain⟨_,hw⟩:=iter_at hr hk;simp[execOp,ho,hs.eval hx,Instr.next,getObj,Sem.run,hw,hp]
theorem OW.nxtS {x:PV}{s:ByteArray}{b k p:Nat}(hx:x.val T=some (.pointer (some ⟨b,0,none⟩))) (hk:S[k]? = some [(b,.obj (.stringIter s p))]) (hp:p<s.size) :
  OW P w0 n (.more (.nxtS x)) T S (fun v S'=>v=.tuple #[.bool true,.int .i64 (p:Int),.int .i32 ((Utf8.decode s p).1:Int)]/\S'=S.set k [(b,.obj (.stringIter s (p+(Utf8.decode s p).2)))]):=by
 intro op a w Q hco hs hr;obtain⟨y,ho,rfl⟩:=aM P hco;obtain⟨hge,hw⟩:=iter_at hr hk;have hlt:b<w.heap.size:=(Array.getElem?_eq_some_iff.1 hw).1
 have hrun:(execOp a.eval op).run P w=.ok (.value (.tuple #[.bool true,.int .i64 (p:Int),.int .i32 ((Utf8.decode s p).1:Int)])) { w with heap:=w.heap.setIfInBounds b (.stringIter s (p+(Utf8.decode s p).2)) }:=by
  simp[execOp,ho,hs.eval hx,Instr.next,getObj,setObj,Sem.run,hw,hp,goInt]
 unfold Oper.wp;rw[hrun];refine⟨_,_,rfl,?_,rfl,rfl⟩;refine hr.replace hk ⟨rfl,rfl,rfl,by simp,fun i hi=>?_⟩ (fun i hi hne=>?_) (by simp) ?_
 ·have:b≠i:=by omega
  simp[Array.getElem?_setIfInBounds_ne this]
 ·have:b≠i:=by simp at hne;omega
  simp[Array.getElem?_setIfInBounds_ne this]
 intro q hq;simp only[List.mem_singleton] at hq;subst hq;refine⟨hge,?_,.inl (by simp)⟩
 show({ w with heap:=w.heap.setIfInBounds b (.stringIter s (p+(Utf8.decode s p).2)) }:World).heap[b]? = some _
 simp[hlt]
end
def eqL:List CK->List Value->List Value->Option Bool
 |[],[],[]=>some true
 |c::cs,x::xs,y::ys=>match eqCell c x y,eqL cs xs ys with|some p,some q=>some (p && q)|_,_=>none
 |_,_,_=>none
theorem eqL_cons {c:CK}{cs:List CK}{xs ys:List Value}{r:Bool}(h:eqL (c::cs) xs ys=some r):∃x xs' y ys' p q,xs=x::xs'/\ys=y::ys'/\eqCell c x y=some p/\eqL cs xs' ys'=some q/\r=(p && q):=by
 cases xs with
 |nil=>simp[eqL] at h
 |cons x xs'=>
  cases ys with
  |nil=>simp[eqL] at h
  |cons y ys'=>
   simp only[eqL] at h;split at h
   ·rename_i p q h1 h2;exact⟨x,xs',y,ys',p,q,rfl,rfl,h1,h2,(Option.some.inj h).symm⟩
   cases h
theorem eqL_append {s t:List CK}:∀{xs ys:List Value}{r:Bool},eqL (s++t) xs ys=some r->∃p q,eqL s (xs.take s.length) (ys.take s.length)=some p/\eqL t (xs.drop s.length) (ys.drop s.length)=some q/\r=(p && q):=by
 induction s with
 |nil=>intro xs ys r h;exact⟨true,r,by simp[eqL],by simpa using h,by simp⟩
 |cons c s ih=>
  intro xs ys r h;obtain⟨x,xs',y,ys',p,q,rfl,rfl,h1,h2,rfl⟩:=eqL_cons (cs:=s++t) h;obtain⟨p',q',h3,h4,rfl⟩:=ih h2;exact⟨p && p',q',by simp[eqL,h1,h3],by simpa using h4,by rw[Bool.and_assoc]⟩
theorem eqL_len {s:List CK}:∀{xs ys:List Value}{r:Bool},eqL s xs ys=some r->xs.length=s.length/\ys.length=s.length:=by
 induction s with
 |nil=>intro xs ys r h;cases xs<;>cases ys<;>simp[eqL] at h ⊢
 |cons c s ih=>
  intro xs ys r h;obtain⟨x,xs',y,ys',p,q,rfl,rfl,h1,h2,rfl⟩:=eqL_cons h;have:=ih h2
  simp[this]
section
variable {P:Program}{w0:World}{n:Nat}{T:TT}{S:SS}{w:World}
def AggEq (P:Program) (w:World) (d:Nat):Prop:=∀(t:TypeId) (sh:List CK),deepQ P d t=some sh->ckOf P t=none->(∃dd,P.underlying t=some dd/\rowD dd=true) /\
 ∀(D:Nat),d<=D->∀(xs ys:Array Value) (r:Bool),eqL sh xs.toList ys.toList=some r->(Op.equalIn D t (.agg xs) (.agg ys)).run P w=.ok r w
theorem part_eq {d:Nat}(ih:AggEq P w d) {t:TypeId}{sh:List CK}(hd:deepQ P d t=some sh) (hc:P.cellsOf t=sh.length) {D:Nat}(hD:d<=D) (h1:0<d) {xs ys:Array Value}{off:Nat}{r:Bool}
  (h:eqL sh ((xs.toList.drop off).take sh.length) ((ys.toList.drop off).take sh.length)=some r):∃a b,(part t xs off).run P w=.ok a w/\(part t ys off).run P w=.ok b w/\(Op.equalIn D t a b).run P w=.ok r w:=by
 cases hk:ckOf P t with
 |some c=>
  obtain⟨d',rfl⟩:∃d',d=d'+1:=⟨d-1,by omega⟩
  simp only[deepQ,hk,Option.some.injEq] at hd;subst hd;obtain⟨x,xs',y,ys',p,q,hx,hy,h2,h3,rfl⟩:=eqL_cons h;have hq:q=true:=by
   have:=eqL_len h3
   obtain⟨l1,l2⟩:=this;have e1:xs'=[]:=List.eq_nil_of_length_eq_zero (by simpa using l1)
   have e2:ys'=[]:=List.eq_nil_of_length_eq_zero (by simpa using l2)
   subst e1;subst e2;simpa[eqL] using h3.symm
  have get:∀(zs:Array Value) z zs',(zs.toList.drop off).take 1=z::zs'->zs[off]? = some z:=by
   intro zs z zs' hz;have:((zs.toList.drop off).take 1)[0]? = some z:=by rw[hz];rfl
   simpa using this
  obtain⟨dd,hu,hrow⟩:=ckOf_agg hk;obtain⟨D',rfl⟩:∃D',D=D'+1:=⟨D-1,by omega⟩
  refine⟨x,y,?_,?_,?_⟩
  ·simp[part,dO hu,hrow,get xs x xs' hx]
  ·simp[part,dO hu,hrow,get ys y ys' hy]
  rw[hq,Bool.and_true];exact run_eqCell hk h2 D' w
 |none=>
  obtain⟨⟨dd,hu,hrow⟩,hrun⟩:=ih t sh hd hk;obtain⟨i,hi⟩:=info_of_underlying hu;have hsz:=run_sizeOf w hi
  have hpart:∀zs:Array Value,(part t zs off).run P w=.ok (.agg (zs.extract off (off+sh.length))) w:=by
   intro zs;simp only[part,Sem.run_bind,dO hu,hrow,Result.andThen_ok,if_true,hsz,hc];rfl
  refine⟨_,_,hpart xs,hpart ys,hrun D hD _ _ r ?_⟩;simpa[List.extract] using h
theorem eqFields_deep {d:Nat}(ih:AggEq P w d) (h1:0<d) {D:Nat}(hD:d<=D) {xs ys:Array Value}:∀(fs:List Field) (off:Nat) (sh:List CK) (r:Bool),structQ P (deepQ P d) off fs=some sh->eqL sh (xs.toList.drop off) (ys.toList.drop off)=some r->(Op.eqFields D xs ys fs).run P w=.ok r w
 |[],off,sh,r,hs,he=>by
  simp only[structQ,Option.some.injEq] at hs;subst hs;have:=eqL_len he
  obtain⟨l1,l2⟩:=this;have e1:xs.toList.drop off=[]:=List.eq_nil_of_length_eq_zero l1
  have e2:ys.toList.drop off=[]:=List.eq_nil_of_length_eq_zero l2
  rw[e1,e2] at he;simp only[eqL,Option.some.injEq] at he;subst he;simp[Op.eqFields]
 |f::fs,off,sh,r,hs,he=>by
  simp only[structQ] at hs;split at hs
  ·rename_i s hf;split at hs
   ·rename_i hc;obtain⟨ho,hcells,hname⟩:=hc;simp only[Option.map_eq_some_iff] at hs;obtain⟨sh',hs',rfl⟩:=hs;obtain⟨p,q,h2,h3,rfl⟩:=eqL_append he;rw[List.drop_drop,List.drop_drop] at h3;obtain⟨a,b,g1,g2,g3⟩:=part_eq ih hf hcells hD h1 h2;subst ho;simp only[Op.eqFields,hname,ne_eq,not_false_eq_true,if_true,Sem.run_bind,g1,g2,g3,Result.andThen_ok];cases p
    ·simp
    simp only[Bool.not_true,Bool.false_eq_true,if_false,Bool.true_and];exact eqFields_deep ih h1 hD fs _ sh' q hs' h3
   cases hs
  cases hs
theorem eqItems_deep {d:Nat}(ih:AggEq P w d) (h1:0<d) {D:Nat}(hD:d<=D) {xs ys:Array Value}{e:TypeId}{s:List CK}(hd:deepQ P d e=some s) (hc:P.cellsOf e=s.length):∀(m i:Nat) (r:Bool),eqL (List.replicate m s).flatten (xs.toList.drop (i*s.length)) (ys.toList.drop (i*s.length))=some r ->
  (Op.eqItems D e (P.cellsOf e) xs ys (List.range' i m)).run P w=.ok r w
 |0,i,r,he=>by
  obtain⟨l1,l2⟩:=eqL_len he;have e1:xs.toList.drop (i*s.length)=[]:=List.eq_nil_of_length_eq_zero (by simpa using l1)
  have e2:ys.toList.drop (i*s.length)=[]:=List.eq_nil_of_length_eq_zero (by simpa using l2)
  rw[e1,e2] at he;have:r=true:=by simpa[eqL] using he.symm
  subst this;simp[Op.eqItems]
 |m+1,i,r,he=>by
  rw[List.replicate_succ,List.flatten_cons] at he;obtain⟨p,q,h2,h3,rfl⟩:=eqL_append he;rw[List.drop_drop,List.drop_drop] at h3;obtain⟨a,b,g1,g2,g3⟩:=part_eq ih hd hc hD h1 h2;rw[<- hc] at g1 g2;rw[List.range'_succ];simp only[Op.eqItems,Sem.run_bind,g1,g2,g3,Result.andThen_ok];cases p
  ·simp
  simp only[Bool.not_true,Bool.false_eq_true,if_false,Bool.true_and];refine eqItems_deep ih h1 hD hd hc m (i+1) q ?_;rw[show(i+1)*s.length=i*s.length+s.length by rw[Nat.add_mul,Nat.one_mul]]
  exact h3
theorem agg_eq (P:Program) (w:World):∀d,AggEq P w d
 |0=>fun t sh h=>by simp[deepQ] at h
 |d+1=>by
  intro t sh h hk;have ih:=agg_eq P w d
  simp only[deepQ,hk] at h;split at h
  ·rename_i fs hu;split at h
   ·rename_i hst;refine⟨⟨_,hu,rfl⟩,fun D hD xs ys r he=>?_⟩
    obtain⟨D',rfl⟩:∃D',D=D'+1:=⟨D-1,by omega⟩
    have hfs:P.fieldsOf t=fs:=by simp[Program.fieldsOf,hu]
    rw[run_equalIn_struct w D' t xs ys (by rw[hfs];exact hu) hst,hfs]
    by_cases h0:0<d
    ·exact eqFields_deep ih h0 (by omega) _ 0 sh r h (by simpa using he)
    obtain rfl:d=0:=by omega
    cases hl:fs.toList with
    |nil=>
     rw[hl] at h;simp only[structQ,Option.some.injEq] at h;subst h;obtain⟨l1,l2⟩:=eqL_len he;have e1:xs.toList=[]:=List.eq_nil_of_length_eq_zero l1
     have e2:ys.toList=[]:=List.eq_nil_of_length_eq_zero l2
     rw[e1,e2] at he;simp only[eqL,Option.some.injEq] at he;subst he;simp[Op.eqFields]
    |cons f fs=>rw[hl] at h;simp[structQ,deepQ] at h
   cases h
  ·rename_i m e hu;split at h
   ·rename_i s hs;split at h
    ·rename_i hc;obtain rfl:=Option.some.inj h;refine⟨⟨_,hu,rfl⟩,fun D hD xs ys r he=>?_⟩
     obtain⟨D',rfl⟩:∃D',D=D'+1:=⟨D-1,by omega⟩
     obtain⟨i,hi⟩:∃i,P.info? e=some i:=by
      cases hq:P.info? e with
      |some i=>exact⟨i,rfl⟩
      |none=>
       exfalso;by_cases h0:0<d
       ·obtain⟨d',rfl⟩:∃d',d=d'+1:=⟨d-1,by omega⟩
        have hun:P.underlying e=none:=by
         cases hx:P.underlying e with
         |none=>rfl
         |some x=>obtain⟨i,hi⟩:=info_of_underlying hx;rw[hq] at hi;cases hi
        simp[deepQ,ckOf,hun] at hs
       obtain rfl:d=0:=by omega
       simp[deepQ] at hs
     rw[run_equalIn_array w D' xs ys hu hi,List.range_eq_range'];have h0:0<d:=Nat.pos_of_ne_zero fun e=>by subst e;simp[deepQ] at hs
     exact eqItems_deep ih h0 (by omega) hs hc m 0 r (by simpa using he)
    cases h
   cases h
  cases h
theorem Yields.eb {neg:Bool}{t:TypeId}{sh:List CK}{x y:PV}{xs ys:Array Value}{r:Bool}(hx:x.val T=some (.agg xs)) (hy:y.val T=some (.agg ys)) (h:eqL sh xs.toList ys.toList=some r) :
  Yields P w0 n (.more (.eb neg t sh x y)) T S (.bool (if neg then !r else r)):=by
 intro o a w hco hs hr;obtain⟨c,d,u,ho,rfl,rfl,hfl,hg,dd,hu,hdd⟩:=aM P hco;have hk:ckOf P t=none:=by
  unfold ckOf;rw[hu];cases dd<;>simp_all
 have heq:(Op.equalIn 10000 t (.agg xs) (.agg ys)).run P w=.ok r w:=(agg_eq P w 8 t sh hfl hk).2 10000 (by omega) xs ys r h
 simp only[execOp,ho,hs.eval hx,hs.eval hy];cases neg
 ·simp only[Bool.false_eq_true,if_false,Sem.run_bind,run_eqGuard_agg w .eql t c d xs ys hg,Result.andThen_ok,run_eql_struct,heq];simp
 simp only[if_true,Sem.run_bind,run_eqGuard_agg w .neq t c d xs ys hg,Result.andThen_ok];have:(binOp .neq t (.agg xs) (.agg ys)).run P w=.ok (.bool !r) w:=by
  show(do Pure.pure (Value.bool (!(<- Op.equal t (.agg xs) (.agg ys)))):Sem Value).run P w=_
  have h2:(Op.equal t (.agg xs) (.agg ys)).run P w=.ok r w:=heq
  simp[h2]
 simp[this]
end
end Go.SL



namespace Go.SL
open Go.RowKit
section
variable {P:Program}{w0:World}{n:Nat}{T:TT}{S:SS}
theorem df.allocObj {w:World}(h:df w0 S w) (o:Obj):df w0 ([(w.heap.size,.obj o)]::S) (w.alloc o):=by
 refine h.push (fB h _) (fun i hi=>ey w _ i hi) (by simp) ?_
 intro p hp;simp only[List.mem_singleton] at hp;subst hp;exact⟨World.alloc_heap_new w o,Nat.le_refl _⟩
end
end Go.SL

namespace Go.SL
open Go.ChangeShapes Go.WideShapes Go.ChangeAt Go.RowKit
section
variable {H:Type}{enc:TypeId×Value->H}{P:Program}{W:World}
theorem weights_mem_all {P:Program}{e:TypeId}:∀{ds:List (DataW H)}{d:DataW H}{k:Nat},d∈ds->k∈d.weights P e->k∈DataW.weightsAll P e ds
 |x::r,d,k,hd,hk=>by
  simp only[DataW.weightsAll,List.mem_append];rcases List.mem_cons.1 hd with rfl|h
  ·exact .inl hk
  exact .inr (weights_mem_all h hk)
theorem arg_listW {α:Type}{f:α->List Value}{R:α->Prop}{t e:TypeId}{A:Option Addr}{len cap j:Nat}{d:DataW H}{ps:List MemPlace}{ts:List TypeId}{ds:List (DataW H)}(hu:P.underlying t=some (.slice e))
  (hQ:∀n cs y,DataW.trod enc P W 0 (fun _=>true) true n e cs=some y->cs.length=P.cellsOf e->(∀k∈y.1.weights P e,k<=reachBytes)->∃x,cs=f x/\R x)
  (h:DataW.Trod enc P W 0 (fun _=>true) true t (.slice A len cap) d ps) (hsz:(DataW.weightsEach P ts ds).all (·<=reachBytes)=true) (ht:ts[j]? = some t) (hd:ds[j]? = some d) :
  ∃l:List α,l.length=len/\Rd W [] A (l.flatMap f)/\(∀x∈l,R x)/\len*P.bytesOf e<=reachBytes/\len<=cap:=by
 obtain⟨fuel,h⟩:=h;rcases DataW.trod_slice hu h with⟨h0,_⟩|⟨a,len',cap',elems,rest,n,_,hcs,hx,hb,hl,hm,hlen,hel,_,_⟩
 ·simp[Value.cells] at h0;obtain⟨rfl,rfl,rfl⟩:=h0;exact⟨[],rfl,Rd.nil,by simp,by simp,by simp⟩
 simp[Value.cells] at hcs;obtain⟨rfl,rfl,rfl⟩:=hcs;have hw:=sized_slice (P:=P) hsz ht (elems:=elems.map (·.1)) (spare:=rest.map (·.1)) (by rw[hd];simpa using congrArg Prod.fst hx) hu
 have hwt:∀(i:Nat) (hi:i<elems.length),∀k∈(elems[i].1).weights P e,k<=reachBytes:=by
  intro i hi k hk;have hdd:ds[j]? = some (.slice (elems.map (·.1)) (rest.map (·.1))):=by rw[hd];simpa using congrArg Prod.fst hx
  have:=List.all_eq_true.1 hsz _ (DataW.weights_mem_each ht hdd k (by
   simp only[DataW.weights,hu,List.mem_cons,List.mem_append];exact .inr (.inl (weights_mem_all (List.mem_map.2 ⟨elems[i],List.getElem_mem hi,rfl⟩) hk))))
  simpa using this
 generalize hmm:P.cellsOf e=m at *
 have row:∀i,i<len->∃cs',cs'.length=m/\(∀q,q<m->W.cell? (a.add (i*m+q))=cs'[q]?)/\∃x,cs'=f x/\R x:=by
  intro i hi;have:=hel i hi
  have hs:elems[i]? = some (elems[i]'(by omega)):=List.getElem?_eq_getElem (by omega)
  rw[hs,Option.bind_eq_some_iff] at this;obtain⟨cs',hc,ht'⟩:=this;obtain⟨_,hlc,hcell⟩:=World.cells?_some hc;refine⟨cs',hlc,fun q hq=>?_,hQ _ _ _ ht' hlc (hwt i (by omega))⟩
  rw[<- aZ];exact hcell q hq
 have cellAt:∀j,j<len*m->∃v,W.cell? (a.add j)=some v:=by
  intro j hj;have hm0:0<m:=Nat.pos_of_ne_zero fun e=>by subst e;omega
  have hi:j / m<len:=Nat.div_lt_of_lt_mul (by rw[Nat.mul_comm];exact hj)
  have hq:=Nat.mod_lt j hm0
  obtain⟨cs',h1,h2,_⟩:=row (j / m) hi;have:=h2 (j % m) hq
  rw[Nat.mul_comm,Nat.div_add_mod] at this;exact⟨_,by rw[this];exact List.getElem?_eq_getElem (by omega)⟩
 let cs:=(List.range (len*m)).map fun j=>(W.cell? (a.add j)).getD undef
 have hcs:∀j,j<len*m->cs[j]? = W.cell? (a.add j):=by
  intro j hj;obtain⟨v,hv⟩:=cellAt j hj;simp[cs,hj,hv]
 have hcl:cs.length=len*m:=by simp[cs]
 obtain⟨l,h1,h2,h3⟩:=split_rows (f:=f) (R:=R) (m:=m) len cs hcl (fun i hi=>by
  obtain⟨cs',g1,g2,x,g3,g4⟩:=row i hi;refine⟨x,?_,g4⟩;rw[<- g3];apply List.ext_getElem?;intro q;by_cases hq:q<m
  ·have:(i+1)*m<=len*m:=Nat.mul_le_mul_right _ hi
   rw[Nat.succ_mul] at this;rw[List.getElem?_take_of_lt hq,List.getElem?_drop,hcs _ (by omega),g2 q hq]
  rw[List.getElem?_eq_none (by simp;omega),List.getElem?_eq_none (by omega)])
 refine⟨l,h1,?_,h3,?_,hl⟩
 ·rw[<- h2];intro j v hj;have hlt:j<len*m:=by have:=(List.getElem?_eq_some_iff.1 hj).1;omega
  rw[hcs j hlt] at hj;exact⟨a,rfl,.inl hj⟩
 refine Nat.le_trans (Nat.mul_le_mul_right _ ?_) hw;simp;omega
theorem arg_stringW_list {t e:TypeId}{A:Option Addr}{len cap j:Nat}{d:DataW H}{ps:List MemPlace}{ts:List TypeId}{ds:List (DataW H)}(hu:P.underlying t=some (.slice e)) (he:P.underlying e=some .string)
  (h:DataW.Trod enc P W 0 (fun _=>true) true t (.slice A len cap) d ps) (hsz:(DataW.weightsEach P ts ds).all (·<=reachBytes)=true) (ht:ts[j]? = some t) (hd:ds[j]? = some d) :
  ∃l:List ByteArray,l.length=len/\Rd W [] A (l.map .string)/\(∀x∈l,x.size<=140737488351232)/\len*P.bytesOf e<=reachBytes/\len<=cap:=by
 obtain⟨l,h1,h2,h3,h4⟩:=arg_listW (f:=fun s:ByteArray=>[Value.string s]) (R:=fun s=>s.size<=140737488351232) hu (fun n cs y hh _ hwt=>by
  obtain⟨s,rfl,hy,hw⟩:=DataW.trod_string he hh;refine⟨s,rfl,?_⟩;have:=hwt s.data.toList.length (by rw[hy];simp[DataW.weights])
  have e:s.data.toList.length=s.size:=by simp
  rw[e] at this;exact this) h hsz ht hd
 exact⟨l,h1,by rw[List.map_eq_flatMap];exact h2,h3,h4⟩
end
end Go.SL

namespace Go.SL
open Go.RowKit
section
variable {P:Program}{w0:World}{n:Nat}{T:TT}{S:SS}
theorem Yields.cap {x:PV}{A:Option Addr}{l c:Nat}(hx:x.val T=some (.slice A l c)):Yields P w0 n (.more (.other (.cap x))) T S (.int .i64 (c:Int)):=by
 intro o a w hco hs hr;obtain⟨cl,t,y,e,ho,hca,hat,har,rfl,hu⟩:=aM P hco;simp only[execOp,ho,resolve,hca,invoke,builtin,hat,har];simp[Builtin.cap_,hs.eval hx,run_underlying hu,goInt]
theorem OW.xf {f:FuncId}{args:List PV}{vs:List Value}{v:Value}(hv:valsP T args=some vs) (h:∀w,df w0 S w->(callFunc f vs.toArray).run P w=.ok (.value v) w) :
  OW P w0 n (.more (.other (.xf f args))) T S (fun u S'=>u=v/\S'=S):=by
 intro o a w Q hco hs hr;obtain⟨c,ho,hca,rfl⟩:=aM P hco;have hargs:c.args.map a.eval=vs.toArray:=by
  apply Array.toList_inj.1;simpa using valsP_spec hs hv
 unfold Oper.wp;have hrun:(execOp a.eval o).run P w=.ok (.value v) w:=by
  simp only[execOp,ho];simp[resolve,hca,Act.eval,Deferred.ofValue,invoke,hargs,h w hr]
 rw[hrun];exact⟨v,S,rfl,hr,rfl,rfl⟩
def KnownCT (P:Program) (k:FuncId) (pc:PC) (n s u:Nat) (m:Option Nat):Prop:=
 ∃fn c t,P.funcs[k]? = some fn/\fn.body=some c/\cC P fn.ntmps c=some pc/\fn.ntmps=n/\fn.results=#[.cell s t,.tmp u]/\aggOf P t=some m
theorem FC.ofCT {k:FuncId}{pc:PC}{s u:Nat}{m:Option Nat}{args:List Value}{post:Value->SS->Prop}(hk:KnownCT P k pc n s u m) (hn:args.length<=n)
  (h:PW P w0 n pc (bo 0 args) S (fun e T' S'=>(e=.normal∨e=.ret)/\∃a v x,look T' s=some (.pointer (some a))/\ReadsAs w0 S' m a v/\look T' u=some x/\∃S'',Sub S'' S'/\post (.tuple #[v,x]) S'')):FC P w0 k args S post:=by
 obtain⟨fn,c,t,hf,hb,hc,rfl,hres,hm⟩:=hk;intro w hw;refine calls_of_wp hf hb (wp_mono (h c hc _ w (argT_sat hn) hw) ?_);rintro e a' w' ⟨T',S',hs',hr',he,a,v,x,hl,hv,hx,S'',hsub,hp⟩;have ht:=hs'.get s _ hl
 have htx:=hs'.get u _ hx
 have hload:(loadVar t a).run P w'=.ok v w':=by
  cases m with
  |none=>
   obtain⟨d,hu,hd⟩:=aggOf_none hm;have:=hr'.cell hv
   simp[loadVar,dO hu,hd,load,Sem.run,this]
  |some m=>
   obtain⟨cs,rfl,hcl,hcs⟩:=hv;obtain⟨d,i,hu,hd,hi,hsz⟩:=aggOf_some hm;have hload:=run_loadCells_list (P:=P) w' a cs (fun j v hj=>hr'.cell (hcs j v hj))
   rw[hcl] at hload;simp[loadVar,dO hu,hd,sizeOf,typeInfo,program,hi,hsz,hload,Sem.run]
 have hrun:(results fn a'.tmps).run P w'=.ok (.tuple #[v,x]) w':=by
  simp[results,hres,ht,htx,asAddr,hload]
 rcases he with rfl|rfl
 ·exact⟨hs'.defers,_,hrun,_,S'',rfl,hr'.bZ hsub,hp⟩
 exact⟨hs'.defers,_,hrun,_,S'',rfl,hr'.bZ hsub,hp⟩
end
end Go.SL



namespace Go.SL
open Go.RowKit Go.ChangeShapes Go.WideShapes Go.ChangeAt
section
variable {H:Type}{enc:TypeId×Value->H}{P:Program}{W:World}
theorem trod_slice1 {t e:TypeId}{n:Nat}{cs:List Value}{y:DataW H×List MemPlace}(hu:P.underlying t=some (.slice e)) (h:DataW.trod enc P W 0 (fun _=>true) true n t cs=some y) :
  ∃A len cap,cs=[.slice A len cap]/\DataW.Trod enc P W 0 (fun _=>true) true t (.slice A len cap) y.1 y.2:=by
 rcases DataW.trod_slice hu h with⟨h0,_⟩|⟨a,len',cap',elems,rest,n',_,hcs,_⟩
 ·exact⟨none,0,0,h0,n,by rw[show(Value.slice none 0 0).cells.toList=cs from h0.symm];exact h⟩
 exact⟨_,_,_,hcs,n,by rw[show(Value.slice (some a) len' cap').cells.toList=cs from hcs.symm];exact h⟩
end
end Go.SL

abbrev Go.SL.zs (l:List Go.SL.PI) (x:Go.SL.PC):Go.SL.PC:=.seq (.ops l) x
abbrev Go.SL.zx (a b:Nat):Go.SL.PC:=.cond (.t a) .skip (.exit b)
abbrev Go.SL.zc (a:Nat) (x y:Go.SL.PC):Go.SL.PC:=.cond (.t a) x y
abbrev Go.SL.zl (a:Nat) (x:Go.SL.PC):Go.SL.PC:=.block a (.loop x)
abbrev Go.SL.zo (d:Nat) (x:Go.SL.PO):Go.SL.PI:=⟨some d,none,x⟩
abbrev Go.SL.zm (d a:Nat):Go.SL.PI:=⟨some d,none,.mov (.t a)⟩
abbrev Go.SL.zg (d g:Nat) (b:Bool) (x:Go.SL.PO):Go.SL.PI:=⟨some d,some (g,b),x⟩
abbrev Go.SL.zz:Go.Value:=.int .u8 0
abbrev Go.SL.yy:Go.SL.CK:=.int .u8
abbrev Go.SL.zC0:List Go.Value:=[.int .i64 0,Go.SL.zz,Go.SL.zz,Go.SL.zz,Go.SL.zz,Go.SL.zz,Go.SL.zz,Go.SL.zz,Go.SL.zz,Go.SL.zz,Go.SL.zz,Go.SL.zz,Go.SL.zz,Go.SL.zz,Go.SL.zz,Go.SL.zz,Go.SL.zz,Go.SL.zz,Go.SL.zz,Go.SL.zz,Go.SL.zz,Go.SL.zz,Go.SL.zz,Go.SL.zz,Go.SL.zz,Go.SL.zz,Go.SL.zz,Go.SL.zz,Go.SL.zz,Go.SL.zz,Go.SL.zz,Go.SL.zz,Go.SL.zz,.int .i64 0,.string ⟨#[]⟩,.int .i64 0,.int .u64 0,Go.SL.zz,Go.SL.zz,Go.SL.zz,Go.SL.zz,Go.SL.zz,Go.SL.zz,Go.SL.zz,Go.SL.zz,Go.SL.zz,Go.SL.zz,Go.SL.zz,Go.SL.zz,Go.SL.zz,Go.SL.zz,Go.SL.zz,Go.SL.zz,Go.SL.zz,Go.SL.zz,Go.SL.zz,Go.SL.zz,Go.SL.zz,Go.SL.zz,Go.SL.zz,Go.SL.zz,Go.SL.zz,Go.SL.zz,Go.SL.zz,Go.SL.zz,Go.SL.zz,Go.SL.zz,Go.SL.zz,Go.SL.zz,.int .i64 0,Go.SL.zz,Go.SL.zz,Go.SL.zz,Go.SL.zz,Go.SL.zz,Go.SL.zz,Go.SL.zz,Go.SL.zz,Go.SL.zz,Go.SL.zz,Go.SL.zz,Go.SL.zz,Go.SL.zz,Go.SL.zz,Go.SL.zz,Go.SL.zz,Go.SL.zz,Go.SL.zz,Go.SL.zz,Go.SL.zz,Go.SL.zz,Go.SL.zz,Go.SL.zz,Go.SL.zz,Go.SL.zz,Go.SL.zz,Go.SL.zz,Go.SL.zz,Go.SL.zz,Go.SL.zz,Go.SL.zz,Go.SL.zz,.int .i64 0,.slice none 0 0,.slice none 0 0]
abbrev Go.SL.zC1:List Go.Value:=[Go.SL.zz,Go.SL.zz,Go.SL.zz,Go.SL.zz,Go.SL.zz,Go.SL.zz,Go.SL.zz,Go.SL.zz,Go.SL.zz,Go.SL.zz,Go.SL.zz,Go.SL.zz,Go.SL.zz,Go.SL.zz,Go.SL.zz,Go.SL.zz,Go.SL.zz,Go.SL.zz,Go.SL.zz,Go.SL.zz,Go.SL.zz,Go.SL.zz,Go.SL.zz,Go.SL.zz,Go.SL.zz,Go.SL.zz,Go.SL.zz,Go.SL.zz,Go.SL.zz,Go.SL.zz,Go.SL.zz,Go.SL.zz,.int .i64 0,.int .i64 0,Go.SL.zz,Go.SL.zz,Go.SL.zz,Go.SL.zz,Go.SL.zz,Go.SL.zz,Go.SL.zz,Go.SL.zz,Go.SL.zz,Go.SL.zz,Go.SL.zz,Go.SL.zz,Go.SL.zz,Go.SL.zz,Go.SL.zz,Go.SL.zz,Go.SL.zz,Go.SL.zz,Go.SL.zz,Go.SL.zz,Go.SL.zz,Go.SL.zz,Go.SL.zz,Go.SL.zz,Go.SL.zz,Go.SL.zz,Go.SL.zz,Go.SL.zz,Go.SL.zz,Go.SL.zz,Go.SL.zz,Go.SL.zz,.int .i64 0,Go.SL.zz,Go.SL.zz,Go.SL.zz,Go.SL.zz,Go.SL.zz,Go.SL.zz,Go.SL.zz,Go.SL.zz,Go.SL.zz,Go.SL.zz,Go.SL.zz,Go.SL.zz,Go.SL.zz,Go.SL.zz,Go.SL.zz,Go.SL.zz,Go.SL.zz,Go.SL.zz,Go.SL.zz,Go.SL.zz,Go.SL.zz,Go.SL.zz,Go.SL.zz,Go.SL.zz,Go.SL.zz,Go.SL.zz,Go.SL.zz,Go.SL.zz,Go.SL.zz,Go.SL.zz,Go.SL.zz,Go.SL.zz,.int .i64 0,.slice none 0 0,.slice none 0 0]
abbrev Go.SL.zC2:List Go.Value:=[Go.SL.zz,Go.SL.zz,Go.SL.zz,Go.SL.zz,Go.SL.zz,Go.SL.zz,Go.SL.zz,Go.SL.zz,Go.SL.zz,Go.SL.zz,Go.SL.zz,Go.SL.zz,Go.SL.zz,Go.SL.zz,Go.SL.zz,Go.SL.zz,Go.SL.zz,Go.SL.zz,Go.SL.zz,Go.SL.zz,Go.SL.zz,Go.SL.zz,Go.SL.zz,Go.SL.zz,Go.SL.zz,Go.SL.zz,Go.SL.zz,Go.SL.zz,Go.SL.zz,Go.SL.zz,Go.SL.zz,Go.SL.zz,.int .i64 0,Go.SL.zz,Go.SL.zz,Go.SL.zz,Go.SL.zz,Go.SL.zz,Go.SL.zz,Go.SL.zz,Go.SL.zz,Go.SL.zz,Go.SL.zz,Go.SL.zz,Go.SL.zz,Go.SL.zz,Go.SL.zz,Go.SL.zz,Go.SL.zz,Go.SL.zz,Go.SL.zz,Go.SL.zz,Go.SL.zz,Go.SL.zz,Go.SL.zz,Go.SL.zz,Go.SL.zz,Go.SL.zz,Go.SL.zz,Go.SL.zz,Go.SL.zz,Go.SL.zz,Go.SL.zz,Go.SL.zz,Go.SL.zz,.int .i64 0]
abbrev Go.SL.zC3:List Go.Value:=[Go.SL.zz,Go.SL.zz,Go.SL.zz,Go.SL.zz,Go.SL.zz,Go.SL.zz,Go.SL.zz,Go.SL.zz,Go.SL.zz,Go.SL.zz,Go.SL.zz,Go.SL.zz,Go.SL.zz,Go.SL.zz,Go.SL.zz,Go.SL.zz,Go.SL.zz,Go.SL.zz,Go.SL.zz,Go.SL.zz,Go.SL.zz,Go.SL.zz,Go.SL.zz,Go.SL.zz,Go.SL.zz,Go.SL.zz,Go.SL.zz,Go.SL.zz,Go.SL.zz,Go.SL.zz,Go.SL.zz,Go.SL.zz,.int .i64 0,.string ⟨#[]⟩,.bool false]
abbrev Go.SL.zC4:List Go.Value:=[Go.SL.zz,Go.SL.zz,Go.SL.zz,Go.SL.zz,Go.SL.zz,Go.SL.zz,Go.SL.zz,Go.SL.zz,Go.SL.zz,Go.SL.zz,Go.SL.zz,Go.SL.zz,Go.SL.zz,Go.SL.zz,Go.SL.zz,Go.SL.zz,Go.SL.zz,Go.SL.zz,Go.SL.zz,Go.SL.zz,Go.SL.zz,Go.SL.zz,Go.SL.zz,Go.SL.zz,Go.SL.zz,Go.SL.zz,Go.SL.zz,Go.SL.zz,Go.SL.zz,Go.SL.zz,Go.SL.zz,Go.SL.zz,.int .i64 0]
abbrev Go.SL.zC5:List Go.SL.CK:=[Go.SL.yy,Go.SL.yy,Go.SL.yy,Go.SL.yy,Go.SL.yy,Go.SL.yy,Go.SL.yy,Go.SL.yy,Go.SL.yy,Go.SL.yy,Go.SL.yy,Go.SL.yy,Go.SL.yy,Go.SL.yy,Go.SL.yy,Go.SL.yy,Go.SL.yy,Go.SL.yy,Go.SL.yy,Go.SL.yy,Go.SL.yy,Go.SL.yy,Go.SL.yy,Go.SL.yy,Go.SL.yy,Go.SL.yy,Go.SL.yy,Go.SL.yy,Go.SL.yy,Go.SL.yy,Go.SL.yy,Go.SL.yy,.int .i64]
abbrev Go.SL.zC6:List Go.Value:=[Go.SL.zz,Go.SL.zz,Go.SL.zz,Go.SL.zz,Go.SL.zz,Go.SL.zz,Go.SL.zz,Go.SL.zz,Go.SL.zz,Go.SL.zz,Go.SL.zz,Go.SL.zz,Go.SL.zz,Go.SL.zz,Go.SL.zz,Go.SL.zz,Go.SL.zz,Go.SL.zz,Go.SL.zz,Go.SL.zz,Go.SL.zz,Go.SL.zz,Go.SL.zz,Go.SL.zz,Go.SL.zz,Go.SL.zz,Go.SL.zz,Go.SL.zz,Go.SL.zz,Go.SL.zz,Go.SL.zz,.int .u8 0]
abbrev Go.SL.zC7:List Go.Value:=[.string ⟨#[]⟩,.int .i64 0,.int .i64 0,.slice none 0 0]
abbrev Go.SL.zC8:List Go.Value:=[.slice none 0 0,.bool false,.slice none 0 0]
abbrev Go.SL.zC9:List Go.Value:=[.int .i64 0,.int .i64 0,.slice none 0 0]
abbrev Go.SL.zC10:List Go.Value:=[.int .i64 0,.int .i64 0,.string ⟨#[]⟩]
abbrev Go.SL.zC11:List Go.Value:=[.int .i64 0,.int .i64 0,.int .i64 0]
abbrev Go.SL.zC12:List Go.Value:=[.string ⟨#[]⟩,.int .i64 0]
abbrev Go.SL.zC13:List Go.Value:=[.string ⟨#[]⟩]
abbrev Go.SL.zi:Go.SL.PV:=.v (.int .i64 0)
abbrev Go.SL.zj:Go.SL.PV:=.v (.int .i64 1)
abbrev Go.SL.zf:Go.SL.PV:=.v (.bool false)
abbrev Go.SL.zt:Go.SL.PV:=.v (.bool true)
abbrev Go.SL.qa (a b c d):=zo a (.ixS b (.t c) (.t d))
abbrev Go.SL.qb (a b c):=zo a (.fa b (.t c))
abbrev Go.SL.qc (a b c):=zo a (.aT b (.t c))
abbrev Go.SL.qd (a b c d e f g):=zo a (.app b c d e (.agg #[zz,zz,zz,zz,zz,zz,zz,zz,zz,zz,zz,zz,zz,zz,zz,zz,zz,zz,zz,zz,zz,zz,zz,zz,zz,zz,zz,zz,zz,zz,zz,zz,.int .i64 0]) (.t f) (.t g))
abbrev Go.SL.qe (a b):=zo a (.ld (.t b))
abbrev Go.SL.qf (a b c):=(⟨none,none,.st a (.t b) (.t c)⟩:Go.SL.PI)
abbrev Go.SL.qg (a b):=zo a (.bin .add (.t b) zj)
abbrev Go.SL.qh (a b c):=zo a (.bin .lss (.t b) (.t c))
abbrev Go.SL.qi (a b):=zo a (.lenS (.t b))
abbrev Go.SL.qj (a b c):=zg a b true (.mov (.t c))
abbrev Go.SL.qk (a b c):=zo a (.mov (.v (.slice none b c)))
abbrev Go.SL.ql (a b c):=zg a b false (.mov (.t c))
abbrev Go.SL.qm (a):=zo a (.mov zi)
abbrev Go.SL.qn (a b c):=zo a (.pick (.t b) (.t c) zf)
abbrev Go.SL.qo (a b c d):=zo a (.call b [(.t c),(.t d)])
abbrev Go.SL.qp (a b c):=zo a (.pick (.t b) zt (.t c))
abbrev Go.SL.qq (a b c d e f g):=zo a (.app b c d e (.agg #[.int .i64 0,zz,zz,zz,zz,zz,zz,zz,zz,zz,zz,zz,zz,zz,zz,zz,zz,zz,zz,zz,zz,zz,zz,zz,zz,zz,zz,zz,zz,zz,zz,zz,zz,.int .i64 0,.string ⟨#[]⟩,.int .i64 0,.int .u64 0,zz,zz,zz,zz,zz,zz,zz,zz,zz,zz,zz,zz,zz,zz,zz,zz,zz,zz,zz,zz,zz,zz,zz,zz,zz,zz,zz,zz,zz,zz,zz,zz,.int .i64 0,zz,zz,zz,zz,zz,zz,zz,zz,zz,zz,zz,zz,zz,zz,zz,zz,zz,zz,zz,zz,zz,zz,zz,zz,zz,zz,zz,zz,zz,zz,zz,zz,.int .i64 0,.slice none 0 0,.slice none 0 0]) (.t f) (.t g))
abbrev Go.SL.qr (a b c d e f g):=zo a (.app b c d e (.agg #[zz,zz,zz,zz,zz,zz,zz,zz,zz,zz,zz,zz,zz,zz,zz,zz,zz,zz,zz,zz,zz,zz,zz,zz,zz,zz,zz,zz,zz,zz,zz,zz,.int .i64 0,.string ⟨#[]⟩,.bool false]) (.t f) (.t g))
abbrev Go.SL.qs (a b c d e f g):=zo a (.app b c d e (.agg #[zz,zz,zz,zz,zz,zz,zz,zz,zz,zz,zz,zz,zz,zz,zz,zz,zz,zz,zz,zz,zz,zz,zz,zz,zz,zz,zz,zz,zz,zz,zz,zz,.int .i64 0,.int .i64 0,zz,zz,zz,zz,zz,zz,zz,zz,zz,zz,zz,zz,zz,zz,zz,zz,zz,zz,zz,zz,zz,zz,zz,zz,zz,zz,zz,zz,zz,zz,zz,zz,.int .i64 0,zz,zz,zz,zz,zz,zz,zz,zz,zz,zz,zz,zz,zz,zz,zz,zz,zz,zz,zz,zz,zz,zz,zz,zz,zz,zz,zz,zz,zz,zz,zz,zz,.int .i64 0,.slice none 0 0,.slice none 0 0]) (.t f) (.t g))
abbrev Go.SL.qt (a b c d):=zg a b false (.aT c (.t d))
abbrev Go.SL.qu (a b c):=zo a (.ext b (.t c))
abbrev Go.SL.qv (a b c d e f g):=zo a (.app b c d e (.string ⟨#[]⟩) (.t f) (.t g))
abbrev Go.SL.qw (a b):=zo a (.cF (.t b))
abbrev Go.SL.qx (a):=zo a (.mov zf)
abbrev Go.SL.qy (a b c):=zo a (.bx b (.t c))
abbrev Go.SL.qz (a b c):=zo a (.call b [(.t c)])
abbrev Go.SL.qaa (a b c d e):=zg a b true (.ixS c (.t d) (.t e))
abbrev Go.SL.qab (a b):=zo a (.bin .sub (.t b) zj)
abbrev Go.SL.qac (a b c d):=zg a b true (.fa c (.t d))
abbrev Go.SL.qad (a b c d e):=zg a b false (.more (.eb false c zC5 (.t d) (.t e)))
abbrev Go.SL.qae (a b c):=zg a b true (.ld (.t c))
abbrev Go.SL.qaf (a b c d):=zg a b false (.fa c (.t d))
abbrev Go.SL.qag (a b c d):=zg a b true (.aT c (.t d))
abbrev Go.SL.qah (a b c d e):=zo a (.call b [(.t c),(.t d),(.t e)])
abbrev Go.SL.qai (a b c d):=zo a (.more (.eb false b zC5 (.t c) (.t d)))
abbrev Go.SL.qaj (a b c d):=zo a (.more (.other (.gen (.lookup b (.tmp c) (.tmp d) false))))
abbrev Go.SL.qak (a b c d e f g):=zo a (.app b c d e (.agg #[.int .i64 0,.int .i64 0,.int .i64 0]) (.t f) (.t g))
abbrev Go.SL.qal (a b c):=zg a b false (.ld (.t c))
abbrev Go.SL.qam (a b c d e f):=zo a (.fl b zC4 c [(d,e,(.t f))])
abbrev Go.SL.qan (a b c d):=(⟨none,none,.more (.other (.gen (.mapUpdate a (.tmp b) (.tmp c) (.tmp d))))⟩:Go.SL.PI)
abbrev Go.SL.qao (a b c d e):=zg a b true (.call c [(.t d),(.t e)])
abbrev Go.SL.qap (a b c d e f g):=zo a (.app b c d e (.agg #[.slice none 0 0,.bool false,.slice none 0 0]) (.t f) (.t g))
abbrev Go.SL.qaq (a b c d e):=zg a b false (.call c [(.t d),(.t e)])
abbrev Go.SL.qar (a b c):=zo a (.bin .neq (.t b) (.t c))
abbrev Go.SL.qas (a b c d e):=zg a b false (.ixS c (.t d) (.t e))
abbrev Go.SL.qat (a b):=zo a (.not (.t b))
abbrev Go.SL.qau (a):=zo a (.mov (.v (.int .i64 (-1))))
abbrev Go.SL.qav (a b c):=zo a (.bin .add (.t b) (.t c))
abbrev Go.SL.qaw (a b c d e f g):=zo a (.app b c d e (.agg #[.int .i64 0,.int .i64 0,.slice none 0 0]) (.t f) (.t g))
abbrev Go.SL.qax (a b c d e f g h i j k l):=zo a (.fl b [.string ⟨#[]⟩,.string ⟨#[]⟩,.string ⟨#[]⟩] c [(d,e,(.v (.string ⟨#[f]⟩))),(g,h,(.v (.string ⟨#[i]⟩))),(j,k,(.v (.string ⟨#[l]⟩)))])
abbrev Go.SL.qay (a b c d e):=zg a b true (.more (.eb true c zC5 (.t d) (.t e)))
abbrev Go.SL.qaz (a b c):=zg a b false (.call c [])
abbrev Go.SL.qba (a b c d e f):=zo a (.fl b zC13 c [(d,e,(.t f))])
abbrev Go.SL.qbb (a b c d e f):=zo a (.fl b zC3 c [(d,e,(.t f))])
abbrev Go.SL.qbc (a b):=zo a (.al b zC4)
abbrev Go.SL.qbd (a b):=zo a (.call b [])
abbrev Go.SL.qbe (a b c):=zg a b false (.lenS (.t c))
abbrev Go.SL.qbf (a b):=zo a (.bin .geq (.t b) zi)
abbrev Go.SL.qbg (a b c d e f):=zo a (.fl b zC8 c [(d,e,(.t f))])
abbrev Go.SL.qbh (a b c d):=zg a b true (.pick (.t c) zt (.t d))
abbrev Go.SL.qbi (a b c d):=zo a (.more (.other (.gen (.lookup b (.tmp c) (.tmp d) true))))
abbrev Go.SL.qbj (a b c):=zg a b true (.not (.t c))
abbrev Go.SL.qbk (a b c d e f g):=zo a (.build zC4 [(b,c,(.t d)),(e,f,(.t g))])
abbrev Go.SL.qbl (a b c d e f g):=zo a (.app b c d e (.agg #[.int .i64 0,.int .i64 0,.string ⟨#[]⟩]) (.t f) (.t g))
abbrev Go.SL.qbm (a b c):=zg a b true (.lenS (.t c))
abbrev Go.SL.qbn (a b c d):=(⟨none,none,.more (.other (.gen (.entryStore a (.tmp b) (.tmp c) (.tmp d))))⟩:Go.SL.PI)
abbrev Go.SL.qbo (a):=zo a (.mov zt)
abbrev Go.SL.qbp (a b c d):=zg a b false (.pick (.t c) (.t d) zf)
abbrev Go.SL.qbq (a b c d e f):=zo a (.fl b zC11 c [(d,e,(.t f))])
abbrev Go.SL.qbr (a):=zo a (.mov (.v (.int .i64 4)))
abbrev Go.SL.qbs (a b):=zo a (.more (.other (.gen (.call { callee:=(.invoke (.tmp b) "Len"),args:=#[],argTypes:=#[] }))))
abbrev Go.SL.qbt (a b c d e):=zg a b false (.more (.eb true c zC5 (.t d) (.t e)))
abbrev Go.SL.qbu (a b):=zo a (.bin .eql (.t b) zi)
abbrev Go.SL.qbv (a b):=zo a (.bin .gtr (.t b) zi)
abbrev Go.SL.qbw (a b c d e f g h i):=zo a (.fl b zC2 c [(d,e,(.t f)),(g,h,(.t i))])
abbrev Go.SL.qbx (a b c):=zo a (.ixS b (.t c) zi)
abbrev Go.SL.qby (a b c):=zo a (.build zC4 [(b,c,(.v (.int .i64 (-1))))])
abbrev Go.SL.qbz (a b c):=zo a (.build zC4 [(b,c,(.v (.int .i64 (-2))))])
abbrev Go.SL.qca (a b c d):=zo a (.slS b (.t c) none (some (.t d)))
abbrev Go.SL.qcb (a b c d):=zg a b true (.bin .eql (.t c) (.t d))
abbrev Go.SL.qcc (a b c):=zg a b false (.not (.t c))
abbrev Go.SL.qcd (a b):=zo a (.bin .neq (.t b) zi)
abbrev Go.SL.qce (a b c d):=zo a (.more (.other (.gen (.mapEntry b (.tmp c) (.tmp d)))))
abbrev Go.SL.qcf (a b c):=zo a (.bin .eql (.t b) (.t c))
abbrev Go.SL.qcg (a b c):=zo a (.bin .mul (.t b) (.t c))
abbrev Go.SL.qch (a b c d):=zo a (.more (.eb true b zC5 (.t c) (.t d)))
abbrev Go.SL.qci (a b c):=zo a (.more (.mkI b (.t c)))
abbrev Go.SL.qcj (a b c):=zg a b true (.call c [])
abbrev Go.SL.qck (a b c d):=zo a (.call b [(.t c),(.v (.func (.func d) #[] #[]))])
abbrev Go.SL.qcl (a b c d e):=zg a b true (.more (.eb false c zC5 (.t d) (.t e)))
abbrev Go.SL.qcm (a b):=zo a (.bin .lss (.t b) zi)
abbrev Go.SL.qcn (a b c d):=zo a (.slS b (.t c) (some (.t d)) none)
abbrev Go.SL.qco (a b c d e):=zo a (.fl b zC13 c [(d,e,(.v (.string ⟨#[62,62,62,62,62,62,62]⟩)))])
abbrev Go.SL.qcp (a b c d e):=zo a (.fl b zC13 c [(d,e,(.v (.string ⟨#[61,61,61,61,61,61,61]⟩)))])
abbrev Go.SL.qcq (a b c d e):=zo a (.fl b zC13 c [(d,e,(.v (.string ⟨#[60,60,60,60,60,60,60]⟩)))])
abbrev Go.SL.qcr (a b):=zo a (.more (.other (.gen (.next (.tmp b) false))))
abbrev Go.SL.qcs (a b c):=zo a (.bin .gtr (.t b) (.t c))
abbrev Go.SL.qct (a b):=zo a (.al b zC0)
abbrev Go.SL.qcu (a b c d e):=zo a (.slS b (.t c) (some (.t d)) (some (.t e)))
abbrev Go.SL.qcv (a b c):=zo a (.more (.other (.gen (.range b (.tmp c)))))
abbrev Go.SL.qcw (a b):=zo a (.more (.other (.gen (.entry (.tmp b)))))
abbrev Go.SL.qcx (a b c):=zg a b false (.bin .add (.t c) zj)
abbrev Go.SL.qcy (a b c):=zg a b true (.bin .eql (.t c) zi)
abbrev Go.SL.qcz (a b c):=zg a b true (.bin .add (.t c) zj)
abbrev Go.SL.qda (a):=zo a (.mov (.v (.pointer none)))
abbrev Go.SL.qdb (a b):=zo a (.bin .eql (.t b) (.v (.int .i64 2)))
abbrev Go.SL.qdc (a b c d):=zg a b true (.call c [(.t d)])
abbrev Go.SL.qdd (a):=zo a (.mov (.v (.int .i64 3)))
abbrev Go.SL.qde (a b c):=zo a (.bin .geq (.t b) (.t c))
abbrev Go.SL.qdf (a b c):=zo a (.callv (.t b) [(.t c)])
abbrev Go.SL.qdg (a b):=zo a (.al b zC8)
abbrev Go.SL.qdh (a b):=zo a (.al b zC3)
abbrev Go.SL.qdi (a b):=zo a (.lenStr (.t b))
abbrev Go.SL.qdj (a):=zo a (.mov (.v (.int .i64 10)))
abbrev Go.SL.qdk (a):=zo a (.mov (.v (.int .i64 6)))
abbrev Go.SL.qdl (a):=zo a (.mov zj)
namespace Go.Proofs
open Go.SL Go.Proofs.Tryz
set_option maxRecDepth 100000
theorem Tryz.mixed:prog.follows .mixedOrders=true:=by kernel_rfl
def Tryz.pc3:PC:=
 (zs [qy 5 27 2,qx 6]
 (.seq (zs [zm 17 0,zm 18 1,qo 19 6 17 18]
 (zc 19 (zs [qbd 20 7,zm 6 20]
 .ret) .skip))
 (zs [zm 22 0,qz 23 8 22,zm 21 23,qu 24 0 21,qu 25 1 21,zm 7 24,zm 8 25]
 (zs [zo 26 (.bsl0 9),zm 27 1,qv 28 23 9 1 16 26 27,zm 9 28]
 (zs [qc 30 33 5,zm 31 7,zm 32 9,qah 33 9 30 31 32,zm 29 33,qu 34 0 29,qu 35 1 29,zm 10 34,zm 11 35]
 (zs [qc 37 33 5,zm 38 8,zm 39 1,qah 40 10 37 38 39,zm 36 40,qu 41 0 36,qu 42 1 36,zm 12 41,zm 13 42]
 (.seq (zs [zm 43 11,zm 44 13,qar 45 43 44,zm 46 45,ql 47 46 10,qbe 48 46 47,ql 49 46 12,qbe 50 46 49,zg 51 46 false (.bin .neq (.t 48) (.t 50)),qp 52 46 51,zm 53 52,ql 54 53 9,ql 55 53 1,qaq 56 53 11 54 55,qcc 57 53 56,qp 58 53 57]
 (zc 58 (zs [qx 6]
 .ret) .skip))
 (.seq (zs [qm 14]
 (zl 0 ((.seq (zs [zm 59 14,zm 60 10,qi 61 60,qh 62 59 61]
 (zx 62 0))
 (.seq (.block 1 (.seq (.aK [0,0,3,7,0,0,48,112,0,0,783] 11 [zm 65 10,zm 66 14,qa 67 105 65 66,qc 68 105 67,zm 69 12,zm 70 14,qa 71 105 69 70,qc 72 105 71,qct 15 46,qct 16 46,qf 105 15 68,qf 105 16 72])
 (zs [qb 73 0 15,qe 74 73,qb 75 0 16,qe 76 75,qar 77 74 76,zm 78 77,qaf 79 78 1 15,qt 80 78 33 79,qt 81 78 33 5,qbt 82 78 27 80 81,qp 83 78 82,zm 84 83,qaf 85 84 37 15,qt 86 84 33 85,qaf 87 84 37 16,qt 88 84 33 87,qbt 89 84 27 86 88,qp 90 84 89,zm 91 90,qaf 92 91 70 15,qt 93 91 33 92,qaf 94 91 70 16,qt 95 91 33 94,qbt 96 91 27 93 95,qp 97 91 96,zm 98 97,qaf 99 98 34 15,qal 100 98 99,zg 101 98 false (.bin .neq (.t 100) (.v (.string ⟨#[]⟩))),qp 102 98 101,zm 103 102,qaf 104 103 103 15,qal 105 103 104,qaf 106 103 103 16,qal 107 103 106,qaq 108 103 12 105 107,qcc 109 103 108,qp 110 103 109,zm 111 110,qaf 112 111 104 15,qal 113 111 112,qaf 114 111 104 16,qal 115 111 114,qaq 116 111 11 113 115,qcc 117 111 116,qp 118 111 117]
 (zc 118 (zs [qx 6]
 .ret) .skip))))
 (.ops [zm 63 14,qg 64 63,zm 14 64]))))))
 (zs [qbd 119 7,zm 6 119]
 .ret)))))))))
theorem Tryz.known3:aS prog 3 pc3 120 [6]:=⟨f3,_,func3,rfl,by kernel_rfl,rfl,rfl⟩
def Tryz.pc6:PC:=
 (zs [qx 4]
 (zs [qm 5]
 (.seq (zs [qm 6]
 (zl 0 ((.seq (zs [zm 8 6,zm 9 0,qi 10 9,qh 11 8 10,zm 12 11,qj 13 12 6,zg 14 12 true (.bin .lss (.t 13) (.v (.int .i64 20))),qn 15 12 14]
 (zx 15 0))
 (.seq (.block 1 (zs [zm 18 0,zm 19 6,qa 20 102 18 19,qb 21 100 20,qe 22 21,qi 23 22,zo 24 (.bin .gtr (.t 23) (.v (.int .i64 10))),zm 25 24,ql 26 25 0,ql 27 25 6,qas 28 25 102 26 27,qaf 29 25 101 28,qal 30 25 29,qbe 31 25 30,zg 32 25 false (.bin .gtr (.t 31) (.v (.int .i64 12))),qp 33 25 32,zm 34 33,ql 35 34 0,ql 36 34 6,qas 37 34 102 35 36,qaf 38 34 33 37,qal 39 34 38,zg 40 34 false (.bin .gtr (.t 39) (.v (.int .i64 1000000))),qp 41 34 40]
 (zc 41 (zs [qbo 4]
 .ret) .skip)))
 (.ops [zm 16 6,qg 17 16,zm 6 17]))))))
 (.seq (zs [qm 7]
 (zl 2 ((.seq (zs [zm 42 7,zm 43 1,qi 44 43,qh 45 42 44,zm 46 45,qj 47 46 7,zg 48 46 true (.bin .lss (.t 47) (.v (.int .i64 300))),qn 49 46 48]
 (zx 49 2))
 (.seq (.block 3 (.ops [zm 52 5,zm 53 1,zm 54 7,qa 55 1 53 54,qe 56 55,qdi 57 56,qav 58 52 57,zm 5 58]))
 (.ops [zm 50 7,qg 51 50,zm 7 51]))))))
 (zs [zm 59 0,qi 60 59,zo 61 (.bin .gtr (.t 60) (.v (.int .i64 12))),zm 62 61,ql 63 62 5,zg 64 62 false (.bin .gtr (.t 63) (.v (.int .i64 20000))),qp 65 62 64,zm 66 65,ql 67 66 1,qbe 68 66 67,zg 69 66 false (.bin .gtr (.t 68) (.v (.int .i64 120))),ql 70 66 69,qj 71 70 1,qbm 72 70 71,zg 73 70 true (.bin .leq (.t 72) (.v (.int .i64 256))),qbp 74 66 70 73,qp 75 66 74,zm 76 75,ql 77 76 1,qbe 78 76 77,zg 79 76 false (.bin .gtr (.t 78) (.v (.int .i64 300))),qp 80 76 79,zm 4 80]
 .ret)))))
theorem Tryz.known6:aS prog 6 pc6 81 [4]:=⟨f6,_,func6,rfl,by kernel_rfl,rfl,rfl⟩
def Tryz.pc7:PC:=
 (zs [qx 0]
 (zs [zo 4 (.fl 9 [.string ⟨#[]⟩,.string ⟨#[]⟩,.string ⟨#[]⟩,.string ⟨#[]⟩] 4 [(0,1,(.v (.string ⟨#[97]⟩))),(1,1,(.v (.string ⟨#[120]⟩))),(2,1,(.v (.string ⟨#[98]⟩))),(3,1,(.v (.string ⟨#[99]⟩)))]),qz 5 21 4,qct 1 46,qf 105 1 5]
 (zs [zo 7 (.build zC4 []),qbd 8 22,qax 9 9 3 0 1 97 1 1 98 2 1 99,qah 10 9 7 8 9,zm 6 10,qu 11 0 6,qu 12 1 6,zm 2 11,zm 3 12]
 (.seq (.aK [0,1,3,7,15,31,15,127,255,511,1023,2047,1023] 13 [qb 13 0 1,qe 14 13,zo 15 (.bin .eql (.t 14) (.v (.int .i64 5))),zm 16 15,qac 17 16 37 1,qag 18 16 33 17,zg 19 16 true (.call 23 [zj]),qcl 20 16 27 18 19,qn 21 16 20,zm 22 21,qac 23 22 70 1,qag 24 22 33 23,zg 25 22 true (.call 23 [(.v (.int .i64 2))]),qcl 26 22 27 24 25,qn 27 22 26,zm 28 27,qac 29 28 104 1,qae 30 28 29,qbm 31 28 30,zg 32 28 true (.bin .eql (.t 31) zj),qn 33 28 32,zm 34 33,qac 35 34 104 1,qae 36 34 35,zg 37 34 true (.ixS 1 (.t 36) zi),qae 38 34 37,zg 39 34 true (.bin .eql (.t 38) (.v (.string ⟨#[120]⟩))),qn 40 34 39,zm 41 40,qac 42 41 103 1,qae 43 41 42,qbm 44 41 43,qcy 45 41 44,qn 46 41 45,zm 47 46,qj 48 47 3,qcy 49 47 48,qn 50 47 49,zm 51 50,qj 52 51 2,qbm 53 51 52,qcy 54 51 53,qn 55 51 54,zm 0 55])
 .ret))))
theorem Tryz.known7:aS prog 7 pc7 56 [0]:=⟨f7,_,func7,rfl,by kernel_rfl,rfl,rfl⟩
def Tryz.pc8:PC:=
 (zs [qda 2,qk 3 0 0]
 (zs [qbd 8 24,zm 4 8]
 (zs [qk 5 0 0]
 (.seq (zs [qm 6]
 (zl 0 ((.seq (zs [zm 9 6,zm 10 0,qi 11 10,qh 12 9 11]
 (zx 12 0))
 (.seq (.block 1 (zs [zm 15 0,zm 16 6,qa 17 102 15 16,qc 18 102 17,zo 7 (.al 59 zC1),qf 102 7 18]
 (zs [zm 19 4,qc 20 102 7,qo 21 25 19 20,qbu 22 21]
 (zc 22 (.ops [zm 24 5,qb 25 0 7,qc 26 32 25,qb 27 32 7,qe 28 27,qb 29 33 7,qe 30 29,qb 31 34 7,qc 32 33 31,qb 33 67 7,qc 34 33 33,qb 35 100 7,qe 36 35,qb 37 101 7,qe 38 37,zo 39 (.build zC1 [(0,32,(.t 26)),(32,1,(.t 28)),(33,1,(.t 30)),(34,33,(.t 32)),(67,33,(.t 34)),(100,1,(.t 36)),(101,1,(.t 38))]),qo 40 26 24 39,zm 23 40,qu 41 0 23,qu 42 1 23,zm 5 41]) .skip))))
 (.ops [zm 13 6,qg 14 13,zm 6 14]))))))
 (zs [zm 43 4,zm 44 5,zm 2 43,zm 3 44]
 .ret)))))
theorem Tryz.known8:aS prog 8 pc8 45 [2,3]:=⟨f8,_,func8,rfl,by kernel_rfl,rfl,rfl⟩
def Tryz.pc9:PC:=
 (zs [qy 3 27 0,qk 6 0 0,qm 7]
 (zs [zm 20 1,qz 21 16 20,zo 22 (.build [.slice none 0 0,.slice none 0 0,.slice none 0 0] [(0,1,(.t 21))]),qy 23 71 22,zm 8 23]
 (zs [zm 24 8,zm 25 8,qw 26 25,qb 27 0 26,qe 28 27,qi 29 28,zo 30 (.dE 69 4 1 1 (.bool false) (.t 29) (.t 29)),qw 31 24,qb 32 2 31,qf 1 32 30]
 (.seq (zs [zm 33 8,qw 34 33,qb 35 0 34,qe 36 35,qi 37 36,qm 38]
 (zl 0 ((zs [qh 39 38 37]
 (.seq (zx 39 0)
 (.seq (.block 1 (zs [qa 40 3 36 38,qc 41 3 40,qdg 10 75,qf 3 10 41]
 (.aK [0,0,2,6,14,0,32,96,224] 9 [zm 42 8,zm 43 8,qw 44 43,qb 45 1 44,qe 46 45,qc 47 3 10,qbg 48 75 1 0 3 47,qz 49 15 48,zo 50 (.fl 23 [.slice none 0 0] 1 [(0,1,(.t 49))]),zo 51 (.app 68 23 1 24 (.slice none 0 0) (.t 46) (.t 50)),qw 52 42,qb 53 1 52,qf 1 53 51])))
 (.ops [qg 54 38,zm 38 54])))))))
 (zs [zm 55 8,zm 56 2,qo 57 27 55 56,zm 11 57]
 (.seq (zs [zm 58 11,qz 59 28 58,zm 12 59]
 (zs [zm 60 12,qcd 61 60]
 (zc 61 (zs [zm 62 12,qk 6 0 0,zm 7 62]
 .ret) .skip)))
 (zs [qk 13 0 0]
 (.seq (zs [zm 63 11,qi 64 63,qm 65]
 (zl 2 ((zs [qh 66 65 64]
 (.seq (zx 66 2)
 (.seq (.block 3 (zs [qa 67 3 63 65,qc 68 3 67,zo 15 (.al 81 zC9),qf 3 15 68]
 (zs [zm 70 8,qc 71 3 15,qo 72 29 70 71,zm 69 72,qu 73 0 69,qu 74 1 69,zm 16 73,zm 17 74]
 (.seq (zs [zm 75 17,qcd 76 75]
 (zc 76 (zs [zm 77 17,qk 6 0 0,zm 7 77]
 .ret) .skip))
 (.ops [zm 78 13,zm 79 16,qaw 80 79 84 3 40 78 79,zm 13 80])))))
 (.ops [qg 81 65,zm 65 81])))))))
 (.seq (zs [zm 82 13,qi 83 82,qm 84]
 (zl 4 ((zs [qh 85 84 83]
 (.seq (zx 85 4)
 (.seq (.block 5 (zs [qa 86 3 82 84,qc 87 3 86,zo 19 (.al 84 zC9),qf 3 19 87]
 (.ops [zm 88 6,zm 89 8,qc 90 33 3,qc 91 3 19,qah 92 30 89 90 91,zo 93 (.fl 46 zC0 1 [(0,105,(.t 92))]),qq 94 34 46 105 208 88 93,zm 6 94])))
 (.ops [qg 95 84,zm 84 95])))))))
 (zs [zm 96 6,zm 6 96,qm 7]
 .ret))))))))))
theorem Tryz.known9:aS prog 9 pc9 97 [6,7]:=⟨f9,_,func9,rfl,by kernel_rfl,rfl,rfl⟩
def Tryz.pc10:PC:=
 (zs [qy 3 27 0,qk 6 0 0,qm 7]
 (zs [zm 19 1,qz 20 31 19,zm 8 20]
 (zs [zm 21 8,zm 22 2,qo 23 32 21 22,zm 9 23]
 (zs [qm 10]
 (zs [qbo 11]
 (.seq (zs [qm 12]
 (zl 0 ((.seq (zs [zm 24 12,zm 25 9,qi 26 25,qh 27 24 26]
 (zx 27 0))
 (.seq (.block 1 (zs [zm 30 9,zm 31 12,qa 32 2 30 31,qb 33 1 32,qe 34 33,qcm 35 34]
 (zc 35 (zs [zm 36 10,qg 37 36,zm 10 37]
 (.ops [zm 38 11,zm 39 38,qj 40 39 9,qj 41 39 12,qaa 42 39 2 40 41,qac 43 39 0 42,qae 44 39 43,qdc 45 39 33 44,qn 46 39 45,zm 11 46])) .skip)))
 (.ops [zm 28 12,qg 29 28,zm 12 29]))))))
 (.seq (zs [zm 47 10,zo 48 (.bin .gtr (.t 47) (.v (.int .i64 256)))]
 (zc 48 (zs [qk 6 0 0,qdd 7]
 .ret) .skip))
 (.seq (zs [zm 49 11,qat 50 49]
 (zc 50 (zs [qk 6 0 0,qbr 7]
 .ret) .skip))
 (zs [zm 52 8,zm 53 9,qo 54 34 52 53,zm 51 54,qu 55 0 51,qu 56 1 51,zm 13 55,zm 14 56]
 (.seq (zs [zm 57 14,qcd 58 57]
 (zc 58 (zs [zm 59 14,qk 6 0 0,zm 7 59]
 .ret) .skip))
 (zs [qk 15 0 0]
 (.seq (zs [qm 16]
 (zl 2 ((.seq (zs [zm 60 16,zm 61 13,qi 62 61,qh 63 60 62]
 (zx 63 2))
 (.block 3 (zs [zm 64 16,zm 17 64]
 (.seq (zl 4 ((.seq (zs [zm 65 17,zm 66 13,qi 67 66,qh 68 65 67,zm 69 68,qj 70 69 13,qj 71 69 17,qaa 72 69 3 70 71,qac 73 69 0 72,qae 74 69 73,zg 75 69 true (.bin .neq (.t 74) zi),qn 76 69 75]
 (zx 76 4))
 (.block 5 (.ops [zm 77 17,qg 78 77,zm 17 78])))))
 (.seq (zs [zm 79 17,zm 80 16,qcs 81 79 80]
 (zc 81 (zs [zm 82 8,zm 83 13,zm 84 16,zm 85 17,zo 86 (.call 35 [(.t 82),(.t 83),(.t 84),(.t 85)]),qct 18 46,qf 105 18 86]
 (zs [qc 87 33 3,qb 88 1 18,qf 33 88 87]
 (.ops [zm 89 15,qc 90 105 18,zo 91 (.fl 46 zC0 1 [(0,105,(.t 90))]),qq 92 34 46 105 208 89 91,zm 15 92]))) .skip))
 (.ops [zm 93 17,qg 94 93,zm 16 94])))))))))
 (zs [zm 95 15,zm 6 95,qm 7]
 .ret)))))))))))))
theorem Tryz.known10:aS prog 10 pc10 96 [6,7]:=⟨f10,_,func10,rfl,by kernel_rfl,rfl,rfl⟩
def Tryz.pc11:PC:=
 (zs [qx 4]
 (.seq (zs [zm 6 0,qi 7 6,zm 8 1,qi 9 8,qar 10 7 9]
 (zc 10 (zs [qx 4]
 .ret) .skip))
 (.seq (zs [qm 5]
 (zl 0 ((.seq (zs [zm 11 5,zm 12 0,qi 13 12,qh 14 11 13]
 (zx 14 0))
 (.seq (.block 1 (.seq (.aK [] 8 [zm 17 0,zm 18 5,qa 19 1 17 18,qe 20 19,zm 21 1,zm 22 5,qa 23 1 21 22,qe 24 23,qar 25 20 24])
 (zc 25 (zs [qx 4]
 .ret) .skip)))
 (.ops [zm 15 5,qg 16 15,zm 5 16]))))))
 (zs [qbo 4]
 .ret))))
theorem Tryz.known11:aS prog 11 pc11 26 [4]:=⟨f11,_,func11,rfl,by kernel_rfl,rfl,rfl⟩
def Tryz.pc12:PC:=
 (zs [qx 4]
 (.seq (zs [zm 6 0,qi 7 6,zm 8 1,qi 9 8,qar 10 7 9]
 (zc 10 (zs [qx 4]
 .ret) .skip))
 (.seq (zs [qm 5]
 (zl 0 ((.seq (zs [zm 11 5,zm 12 0,qi 13 12,qh 14 11 13]
 (zx 14 0))
 (.seq (.block 1 (.seq (.aK [] 8 [zm 17 0,zm 18 5,qa 19 33 17 18,qc 20 33 19,zm 21 1,zm 22 5,qa 23 33 21 22,qc 24 33 23,qch 25 27 20 24])
 (zc 25 (zs [qx 4]
 .ret) .skip)))
 (.ops [zm 15 5,qg 16 15,zm 5 16]))))))
 (zs [qbo 4]
 .ret))))
theorem Tryz.known12:aS prog 12 pc12 26 [4]:=⟨f12,_,func12,rfl,by kernel_rfl,rfl,rfl⟩
def Tryz.pc15:PC:=
 (zs [qk 2 0 0]
 (zs [qk 3 0 0]
 (.seq (zs [zm 8 0,qi 9 8,qm 10]
 (zl 0 ((zs [qh 11 10 9]
 (.seq (zx 11 0)
 (.seq (.block 1 (zs [qa 12 3 8 10,qc 13 3 12,qdg 5 75,qf 3 5 13]
 (.seq (zs [qb 14 1 5,qe 15 14]
 (zc 15 (.ops [zm 16 3,qco 17 9 1 0 1,qv 18 23 9 1 16 16 17,zm 3 18]) .skip))
 (.seq (zs [qb 19 0 5,qe 20 19,qi 21 20,qm 22]
 (zl 2 ((zs [qh 23 22 21]
 (.seq (zx 23 2)
 (.seq (.block 3 (zs [zm 24 22,qa 25 35 20 22,qc 26 35 25,qdh 7 99,zm 6 24,qf 35 7 26]
 (.seq (zs [qb 27 1 5,qe 28 27,zm 29 28,qac 30 29 2 5,qae 31 29 30,qj 32 29 6,qao 33 29 36 31 32,qn 34 29 33]
 (zc 34 (.ops [zm 35 3,qcp 36 9 1 0 1,qv 37 23 9 1 16 35 36,zm 3 37]) .skip))
 (.ops [zm 38 3,qb 39 33 7,qe 40 39,qba 41 9 1 0 1 40,qv 42 23 9 1 16 38 41,zm 3 42]))))
 (.ops [qg 43 22,zm 22 43])))))))
 (zs [qb 44 1 5,qe 45 44]
 (zc 45 (.ops [zm 46 3,qcq 47 9 1 0 1,qv 48 23 9 1 16 46 47,zm 3 48]) .skip))))))
 (.ops [qg 49 10,zm 10 49])))))))
 (zs [zm 50 3,zm 2 50]
 .ret))))
theorem Tryz.known15:aS prog 15 pc15 51 [2]:=⟨f15,_,func15,rfl,by kernel_rfl,rfl,rfl⟩
def Tryz.pc16:PC:=
 (zs [qk 2 0 0]
 (.scope (zs [zm 10 0,qz 11 38 10,qck 12 37 11 39,zm 3 12]
 (zs [qk 4 0 0]
 (zs [qk 5 0 0]
 (.seq .label
 (.seq (zs [zm 13 3,qi 14 13,qm 15]
 (zl 0 ((zs [qh 16 15 14]
 (.seq (zx 16 0)
 (.seq (.block 1 (zs [qa 17 35 13 15,qc 18 35 17,qdh 7 99,qf 35 7 18]
 (.seq (zs [zm 19 3,qi 20 19,qm 21]
 (zl 2 ((zs [qh 22 21 20]
 (.seq (zx 22 2)
 (.seq (.block 3 (zs [qa 23 35 19 21,qc 24 35 23,qdh 9 99,qf 35 9 24]
 (zs [qb 25 0 7,qc 26 33 25,qb 27 0 9,qc 28 33 27,qch 29 27 26 28,zm 30 29,qj 31 30 0,qag 32 30 35 7,qag 33 30 35 9,zg 34 30 true (.call 40 [(.t 31),(.t 32),(.t 33)]),qbj 35 30 34,qn 36 30 35]
 (zc 36 (zs [zm 37 5,qc 38 35 7,qbb 39 99 1 0 35 38,qr 40 72 99 35 64 37 39,zm 5 40]
 (.exit 1)) .skip))))
 (.ops [qg 41 21,zm 21 41])))))))
 (.seq (zs [zm 42 5,qi 43 42,qbv 44 43]
 (zc 44 (zs [zm 45 4,zm 46 0,zm 47 5,qo 48 41 46 47,qbg 49 75 1 0 3 48,qap 50 51 75 3 56 45 49,zm 4 50]
 (.ops [qk 5 0 0])) .skip))
 (.ops [zm 51 4,qc 52 35 7,qbb 53 99 1 0 35 52,zo 54 (.build zC8 [(0,1,(.t 53))]),qbg 55 75 1 0 3 54,qap 56 51 75 3 56 51 55,zm 4 56])))))
 (.ops [qg 57 15,zm 15 57])))))))
 (.seq (zs [zm 58 5,qi 59 58,qbv 60 59]
 (zc 60 (.ops [zm 61 4,zm 62 0,zm 63 5,qo 64 41 62 63,qbg 65 75 1 0 3 64,qap 66 51 75 3 56 61 65,zm 4 66]) .skip))
 (zs [zm 67 4,zm 2 67]
 .ret)))))))))
theorem Tryz.known16:aS prog 16 pc16 68 [2]:=⟨f16,_,func16,rfl,by kernel_rfl,rfl,rfl⟩
def Tryz.pc18:PC:=
 (zs [qx 2]
 (zs [zm 3 0,zo 4 (.bin .eql (.t 3) (.v (.string ⟨#[62,62,62,62,62,62,62]⟩))),zm 5 4,ql 6 5 0,zg 7 5 false (.bin .eql (.t 6) (.v (.string ⟨#[61,61,61,61,61,61,61]⟩))),qp 8 5 7,zm 9 8,ql 10 9 0,zg 11 9 false (.bin .eql (.t 10) (.v (.string ⟨#[60,60,60,60,60,60,60]⟩))),qp 12 9 11,zm 2 12]
 .ret))
theorem Tryz.known18:aS prog 18 pc18 13 [2]:=⟨f18,_,func18,rfl,by kernel_rfl,rfl,rfl⟩
def Tryz.pc20:PC:=
 (zs [qx 2]
 (zs [zm 3 0,qz 4 44 3,zm 5 4,qj 6 5 0,qdc 7 5 18 6,qbj 8 5 7,qn 9 5 8,zm 2 9]
 .ret))
theorem Tryz.known20:aS prog 20 pc20 10 [2]:=⟨f20,_,func20,rfl,by kernel_rfl,rfl,rfl⟩
def Tryz.pc21:PC:=
 (zs [qct 2 46]
 (zs [zo 6 (.build zC4 []),qbd 7 22,zm 8 0,qah 9 9 6 7 8,zm 5 9,qu 10 0 5,qu 11 1 5,zm 3 10,zm 4 11]
 (.seq (zs [zm 12 4,qcd 13 12,zm 14 13,ql 15 14 3,qbe 16 14 15,zg 17 14 false (.bin .neq (.t 16) zj),qp 18 14 17]
 (zc 18 (zs [zo 19 (.build zC0 []),qf 105 2 19]
 .ret) .skip))
 (zs [zm 20 3,qbx 21 105 20,qc 22 105 21,qf 105 2 22]
 .ret))))
theorem Tryz.known21:KnownC prog 21 pc21 23 2 (some 105):=⟨f21,_,_,func21,rfl,by kernel_rfl,rfl,rfl,by kernel_rfl⟩
def Tryz.pc22:PC:=
 (zs [qda 0]
 (zs [qbd 2 24,zm 1 2]
 (zs [zm 3 1,zo 4 (.more (.bldA zC6 [(0,1,(.v (.int .u8 1)))])),qby 5 32 1,qbz 6 32 1,qax 7 9 3 0 1 97 1 1 98 2 1 99,zo 8 (.build zC1 [(0,32,(.t 4)),(33,1,zj),(34,33,(.t 5)),(67,33,(.t 6)),(100,1,(.t 7))]),qo 9 25 3 8]
 (zs [zm 10 1,zm 0 10]
 .ret))))
theorem Tryz.known22:aS prog 22 pc22 11 [0]:=⟨f22,_,func22,rfl,by kernel_rfl,rfl,rfl⟩
def Tryz.pc23:PC:=
 (zs [qbc 2 27]
 (zs [zo 3 (.more (.bldA zC6 [(0,1,(.v (.int .u8 1)))])),zm 4 0,qbk 5 0 32 3 32 1 4,qf 33 2 5]
 .ret))
theorem Tryz.known23:KnownC prog 23 pc23 6 2 (some 33):=⟨f23,_,_,func23,rfl,by kernel_rfl,rfl,rfl,by kernel_rfl⟩
def Tryz.pc24:PC:=
 (zs [qda 0]
 (zs [zo 1 (.mkM),zo 2 (.mkM),zo 3 (.build [.bool false,.map none,.map none,.slice none 0 0] [(0,1,zt),(1,1,(.t 1)),(2,1,(.t 2))]),qy 4 111 3,zm 0 4]
 .ret))
theorem Tryz.known24:aS prog 24 pc24 5 [0]:=⟨f24,_,func24,rfl,by kernel_rfl,rfl,rfl⟩
def Tryz.pc25:PC:=
 (zs [qy 2 30 0,qy 3 59 1,qm 4]
 (.seq (.block 0 (zs [qe 8 2,qz 9 45 8,qat 10 9,zm 7 10]
 (zc 7 (zs [qdl 4]
 .ret) (zs [qe 12 2,qc 13 102 3,qo 14 46 12 13,zm 11 14]
 (zc 11 (zs [qdk 4]
 .ret) (zs [qc 16 102 3,qz 17 47 16,qat 18 17,zm 15 18]
 (zc 15 (zs [qbr 4]
 .ret) (zs [qe 20 2,qb 21 34 3,qc 22 33 21,qo 23 48 20 22,qat 24 23,zm 25 24,qal 26 25 2,qaf 27 25 67 3,qt 28 25 33 27,qaq 29 25 48 26 28,qcc 30 25 29,qp 31 25 30,zm 32 31,qaf 33 32 101 3,qal 34 32 33,zg 35 32 false (.mkF 50 [(.t 2)]),qaq 36 32 49 34 35,qp 37 32 36,zm 19 37]
 (zc 19 (zs [qdj 4]
 .ret) (zs [qe 39 2,qb 40 34 3,qc 41 33 40,qb 42 67 3,qc 43 33 42,qah 44 52 39 41 43,qat 45 44,zm 38 45]
 (zc 38 (zs [qbr 4]
 .ret) .skip)))))))))))
 (.seq (.aK [0,1,3,0,8,31,31] 7 [qb 46 100 3,qe 47 46,qz 48 53 47,qb 49 101 3,qe 50 49,qz 51 54 50,qb 52 100 3,qf 1 52 48,qb 53 101 3,qf 1 53 51])
 (.seq (.aK [] 10 [qe 54 2,qw 55 54,qb 56 1 55,qe 57 56,qb 58 0 3,qc 59 32 58,qb 60 32 3,qe 61 60,qbk 62 0 32 59 32 1 61,qc 63 102 3,qan 108 57 62 63])
 (.seq (zs [qb 64 100 3,qe 65 64,qi 66 65,qm 67]
 (zl 1 ((zs [qh 68 67 66]
 (.seq (zx 68 1)
 (.seq (.block 2 (zs [zm 69 67,qa 70 1 65 67,qe 71 70,zm 5 69,zm 6 71]
 (.aK [0,1,3,7,0,0,48,0,128] 9 [qe 72 2,qw 73 72,qb 74 2 73,qe 75 74,qc 76 102 3,zm 77 5,qo 78 55 76 77,zm 79 6,zo 80 (.build zC7 [(0,1,(.t 79))]),qan 109 75 78 80])))
 (.ops [qg 81 67,zm 67 81])))))))
 (zs [qe 82 2,qc 83 102 3,zo 84 (.call 56 [(.t 82),(.t 83),zt])]
 (zs [qe 85 2,qc 86 102 3,zo 87 (.call 57 [(.t 85),(.t 86),zj])]
 (zs [qm 4]
 .ret))))))))
theorem Tryz.known25:aS prog 25 pc25 88 [4]:=⟨f25,_,func25,rfl,by kernel_rfl,rfl,rfl⟩
def Tryz.pc26:PC:=
 (zs [qy 3 66 1,qk 4 0 0,qm 5]
 (zs [zm 13 0,qz 14 58 13,zm 6 14]
 (zs [qc 15 102 3,qz 16 59 15,zm 7 16]
 (.seq (zs [qm 8]
 (zl 0 ((.seq (zs [zm 17 8,zm 18 0,qi 19 18,qh 20 17 19]
 (zx 20 0))
 (.seq (.block 1 (.seq (.aK [] 16 [zm 23 0,zm 24 8,qa 25 102 23 24,qb 26 0 25,qc 27 32 26,qb 28 0 3,qc 29 32 28,zo 30 (.more (.eb false 25 [yy,yy,yy,yy,yy,yy,yy,yy,yy,yy,yy,yy,yy,yy,yy,yy,yy,yy,yy,yy,yy,yy,yy,yy,yy,yy,yy,yy,yy,yy,yy,.int .u8] (.t 27) (.t 29))),zm 31 30,qj 32 31 0,qj 33 31 8,qaa 34 31 102 32 33,qac 35 31 32 34,qae 36 31 35,qac 37 31 32 3,qae 38 31 37,qcb 39 31 36 38,qn 40 31 39])
 (zc 40 (zs [zm 41 0,zm 4 41,qdk 5]
 .ret) .skip)))
 (.ops [zm 21 8,qg 22 21,zm 8 22]))))))
 (.seq (zs [qm 9]
 (zl 2 ((.seq (zs [zm 42 9,zm 43 7,qi 44 43,qh 45 42 44]
 (zx 45 2))
 (.seq (.block 3 (zs [zm 48 6,zm 49 7,zm 50 9,qa 51 33 49 50,qc 52 33 51,qo 53 60 48 52]
 (zc 53 (zs [zm 54 0,zm 4 54,qdk 5]
 .ret) .skip)))
 (.ops [zm 46 9,qg 47 46,zm 9 47]))))))
 (.seq (.seq (.aK [0,1,3,7,15,31,15,127,255,511,1023,2047,1023] 13 [qb 55 33 3,qe 56 55,qcm 57 56,zm 58 57,qaf 59 58 34 3,qt 60 58 33 59,qaz 61 58 61,qad 62 58 27 60 61,qp 63 58 62,zm 64 63,qaf 65 64 67 3,qt 66 64 33 65,qaz 67 64 62,qad 68 64 27 66 67,qp 69 64 68])
 (zc 69 (zs [zm 70 0,zm 4 70,qbr 5]
 .ret) .skip))
 (.seq (zs [qm 10]
 (zl 4 ((.seq (zs [zm 71 10,qb 72 101 3,qe 73 72,qi 74 73,qh 75 71 74]
 (zx 75 4))
 (.seq (.block 5 (.seq (.aK [0,1,0,7,15,0,63,127,255,511,255,2047,4095,255,16383,32767,65535,131071,262143,131071,1048575,131071,2228223,131071,14811135,31588351] 26 [qb 78 101 3,qe 79 78,zm 80 10,qa 81 33 79 80,qc 82 33 81,qbd 83 62,qai 84 27 82 83,zm 85 84,qaf 86 85 101 3,qal 87 85 86,ql 88 85 10,qas 89 85 33 87 88,qt 90 85 33 89,qaz 91 85 61,qad 92 85 27 90 91,qp 93 85 92,zm 94 93,qaf 95 94 101 3,qal 96 94 95,ql 97 94 10,zg 98 94 false (.slS 33 (.t 96) none (some (.t 97))),qaf 99 94 101 3,qal 100 94 99,ql 101 94 10,qas 102 94 33 100 101,qt 103 94 33 102,qaq 104 94 60 98 103,qp 105 94 104])
 (zc 105 (zs [zm 106 0,zm 4 106,qbr 5]
 .ret) .skip)))
 (.ops [zm 76 10,qg 77 76,zm 10 77]))))))
 (.seq (.seq (.aK [0,1,0,7,15,31,31,95,255,511,1023,2047,4095,8191,4095,32767,65535,131071,131071,393215] 20 [qb 107 34 3,qc 108 33 107,qbd 109 62,qch 110 27 108 109,zm 111 110,qj 112 111 6,qac 113 111 34 3,qag 114 111 33 113,qao 115 111 60 112 114,qbj 116 111 115,qn 117 111 116,zm 118 117,qaf 119 118 67 3,qt 120 118 33 119,qaz 121 118 61,qbt 122 118 27 120 121,ql 123 118 122,qj 124 123 6,qac 125 123 67 3,qag 126 123 33 125,qao 127 123 60 124 126,qbj 128 123 127,qbp 129 118 123 128,qp 130 118 129])
 (zc 130 (zs [zm 131 0,zm 4 131,qdj 5]
 .ret) .skip))
 (.seq (zs [qm 11]
 (zl 6 ((.seq (zs [zm 132 11,qb 133 101 3,qe 134 133,qi 135 134,qh 136 132 135]
 (zx 136 6))
 (.seq (.block 7 (zs [zm 139 6,qb 140 101 3,qe 141 140,zm 142 11,qa 143 33 141 142,qc 144 33 143,qo 145 60 139 144,qat 146 145]
 (zc 146 (zs [zm 147 0,zm 4 147,qdj 5]
 .ret) .skip)))
 (.ops [zm 137 11,qg 138 137,zm 11 138]))))))
 (.seq (zs [zm 148 0,qb 149 34 3,qc 150 33 149,qb 151 67 3,qc 152 33 151,qah 153 63 148 150 152,qat 154 153]
 (zc 154 (zs [zm 155 0,zm 4 155,qbr 5]
 .ret) .skip))
 (zs [qk 12 0 0]
 (zs [zm 156 12,zm 157 0,qs 158 31 66 102 176 156 157,zm 12 158]
 (zs [zm 159 12,qc 160 102 3,zo 161 (.fl 66 zC1 1 [(0,102,(.t 160))]),qs 162 31 66 102 176 159 161,zm 4 162,qm 5]
 .ret)))))))))))))
theorem Tryz.known26:aS prog 26 pc26 163 [4,5]:=⟨f26,_,func26,rfl,by kernel_rfl,rfl,rfl⟩
def Tryz.pc27:PC:=
 (zs [qk 4 0 0]
 (zs [zo 7 (.build zC9 []),zo 5 (.al 81 zC9),qf 3 5 7]
 (.seq (zl 0 ((.seq (zs [zm 8 1,qi 9 8,qbv 10 9]
 (zx 10 0))
 (.block 1 (zs [zm 11 0,qb 12 0 5,qe 13 12,zm 14 1,qah 15 64 11 13 14,zm 6 15]
 (.seq (zs [zm 16 6,qcm 17 16]
 (zc 17 (.seq (.aK [0,1,0,4,12,28] 6 [qb 18 2 5,qe 19 18,zm 20 1,qbx 21 1 20,qe 22 21,qba 23 9 1 0 1 22,qv 24 23 9 1 16 19 23,qb 25 2 5,qf 1 25 24])
 (zs [zm 26 1,zo 27 (.slS 1 (.t 26) (some zj) none),zm 1 27]
 (.exit 1))) .skip))
 (zs [zm 28 6,qb 29 1 5,qf 1 29 28]
 (zs [zm 30 4,qc 31 3 5,zo 32 (.fl 81 zC9 1 [(0,3,(.t 31))]),qaw 33 76 81 3 40 30 32,zm 4 33]
 (zs [zm 34 0,qw 35 34,qb 36 2 35,qe 37 36,zm 38 6,qa 39 1 37 38,⟨none,none,.st 1 (.t 39) zt⟩]
 (zs [zm 40 1,zm 41 0,qw 42 41,qb 43 1 42,qe 44 43,zm 45 6,qa 46 1 44 45,qe 47 46,qi 48 47,qcn 49 1 40 48,zm 1 49]
 (.ops [zm 50 6,qg 51 50,zo 52 (.build zC9 [(0,1,(.t 51))]),qf 3 5 52])))))))))))
 (zs [zm 53 0,qw 54 53,qb 55 0 54,qe 56 55,qi 57 56,qb 58 1 5,qf 1 58 57]
 (zs [zm 59 4,qc 60 3 5,zo 61 (.fl 81 zC9 1 [(0,3,(.t 60))]),qaw 62 76 81 3 40 59 61,zm 4 62]
 .ret)))))
theorem Tryz.known27:aS prog 27 pc27 63 [4]:=⟨f27,_,func27,rfl,by kernel_rfl,rfl,rfl⟩
def Tryz.pc28:PC:=
 (zs [qm 2]
 (zs [qm 3,qm 4]
 (.seq (zs [zm 7 0,qi 8 7,qm 9]
 (zl 0 ((zs [qh 10 9 8]
 (.seq (zx 10 0)
 (.seq (.block 1 (zs [qa 11 3 7 9,qc 12 3 11,zo 6 (.al 81 zC9),qf 3 6 12]
 (zs [zm 13 3,qb 14 2 6,qe 15 14,qi 16 15,qav 17 13 16,zm 3 17]
 (zs [qb 18 2 6,qe 19 18,qck 20 65 19 66]
 (zc 20 (.ops [qbr 4]) .skip)))))
 (.ops [qg 21 9,zm 9 21])))))))
 (.seq (zs [zm 22 3,zo 23 (.bin .gtr (.t 22) (.v (.int .i64 256)))]
 (zc 23 (zs [qdd 2]
 .ret) .skip))
 (zs [zm 24 4,zm 2 24]
 .ret)))))
theorem Tryz.known28:aS prog 28 pc28 25 [2]:=⟨f28,_,func28,rfl,by kernel_rfl,rfl,rfl⟩
def Tryz.pc29:PC:=
 (zs [qy 3 81 1,zo 4 (.al 79 [.slice none 0 0]),qm 5]
 (.seq (.aK [0,0,3,0,8,31,63,127,127,255] 10 [zm 15 0,qc 16 3 3,qo 17 68 15 16,qb 18 2 3,qe 19 18,qo 20 67 17 19,zm 14 20,qu 21 0 14,qu 22 1 14,zm 6 21,zm 5 22])
 (.seq (zs [zm 23 5,qcd 24 23]
 (zc 24 (zs [zm 25 5,⟨none,none,.st 1 (.t 4) (.v (.slice none 0 0))⟩,zm 5 25]
 .ret) .skip))
 (zs [qb 26 0 3,qe 27 26,zo 7 (.al 3 [.int .i64 0]),qf 1 7 27]
 (zs [zo 8 (.al 4 [.bool false]),⟨none,none,.st 1 (.t 8) zf⟩]
 (zs [zo 28 (.mkF 69 [(.t 8),(.t 4),(.t 7)]),zm 9 28]
 (.seq (zs [zm 29 6,qi 30 29,qm 31]
 (zl 0 ((zs [qh 32 31 30]
 (.seq (zx 32 0)
 (.seq (.block 1 (zs [qa 33 3 29 31,qc 34 3 33,zo 11 (.al 138 zC11),qf 3 11 34]
 (zs [qb 35 0 11,qe 36 35]
 (.block 2 (zs [qbu 38 36,zm 37 38]
 (zc 37 (.seq (.aK [] 5 [zm 39 0,qw 40 39,qb 41 2 40,qe 42 41,qe 43 7,qa 44 1 42 43,⟨none,none,.st 1 (.t 44) zt⟩])
 (zs [qe 45 7,qg 46 45,qf 1 7 46]
 (.ops [⟨none,none,.st 1 (.t 8) zf⟩]))) (zs [zo 48 (.bin .eql (.t 36) zj),zm 47 48]
 (zc 47 (zs [zm 49 9,zo 50 (.callv (.t 49) []),zm 12 50]
 (zs [qe 51 7,qg 52 51,qf 1 7 52]
 (.ops [zm 53 12,qe 54 7,qw 55 53,qb 56 1 55,qf 1 56 54]))) (zs [qdb 58 36,zm 57 58]
 (zc 57 (zs [zm 59 9,zo 60 (.callv (.t 59) []),zm 13 60]
 (.aK [0,0,2,6,14,0,32,0,128,480,992,2016] 12 [zm 61 13,zm 62 13,qw 63 62,qb 64 2 63,qe 65 64,qb 66 2 3,qe 67 66,qb 68 2 11,qe 69 68,qa 70 1 67 69,qe 71 70,qba 72 9 1 0 1 71,qv 73 23 9 1 16 65 72,qw 74 61,qb 75 2 74,qf 1 75 73])) .skip))))))))))
 (.ops [qg 76 31,zm 31 76])))))))
 (zs [qe 77 4,qf 1 4 77,qm 5]
 .ret))))))))
theorem Tryz.known29:KnownCT prog 29 pc29 78 4 5 none:=⟨f29,_,_,func29,rfl,by kernel_rfl,rfl,rfl,by kernel_rfl⟩
def Tryz.pc30:PC:=
 (zs [qy 4 27 1,qy 5 84 2,qct 6 46]
 (zs [qc 13 33 4,qby 14 32 1,qbz 15 32 1,qb 16 2 5,qe 17 16,zo 18 (.build zC0 [(0,1,(.v (.int .i64 5))),(1,33,(.t 13)),(37,33,(.t 14)),(70,33,(.t 15)),(104,1,(.t 17))]),qct 7 46,qf 105 7 18]
 (.seq (zs [zm 19 0,qw 20 19,qb 21 0 20,qe 22 21,qi 23 22,qm 24]
 (zl 0 ((zs [qh 25 24 23]
 (.seq (zx 25 0)
 (.seq (.block 1 (zs [zm 26 24,zm 8 26]
 (.seq (zs [zm 27 8,qb 28 0 5,qe 29 28,qh 30 27 29,zm 31 30,qj 32 31 0,qj 33 31 8,qao 34 31 70 32 33,qn 35 31 34]
 (zc 35 (.ops [zm 36 0,qw 37 36,qb 38 0 37,qe 39 38,zm 40 8,qa 41 3 39 40,qb 42 0 41,qe 43 42,qbx 44 35 43,qb 45 0 44,qc 46 33 45,qb 47 37 7,qf 33 47 46]) .skip))
 (zs [zm 48 8,qb 49 1 5,qe 50 49,qde 51 48 50,zm 52 51,qj 53 52 0,qj 54 52 8,qao 55 52 70 53 54,qn 56 52 55]
 (zc 56 (zs [zm 57 0,qw 58 57,qb 59 0 58,qe 60 59,zm 61 8,qa 62 3 60 61,qb 63 0 62,qe 64 63,qbx 65 35 64,qb 66 0 65,qc 67 33 66,qb 68 70 7,qf 33 68 67]
 (.exit 0)) .skip)))))
 (.ops [qg 69 24,zm 24 69])))))))
 (.seq (.seq (.aK [] 11 [zm 70 0,qw 71 70,qb 72 0 71,qe 73 72,qb 74 0 5,qe 75 74,qb 76 1 5,qe 77 76,qcu 78 3 73 75 77,qi 79 78,qm 80])
 (zl 2 ((zs [qh 81 80 79]
 (.seq (zx 81 2)
 (.seq (.block 3 (zs [qa 82 3 78 80,qc 83 3 82,qdg 10 75,qf 3 10 83]
 (zs [qb 84 0 10,qe 85 84,qi 86 85,qm 87]
 (zl 4 ((zs [qh 88 87 86]
 (.seq (zx 88 4)
 (.seq (.block 5 (zs [qa 89 35 85 87,qc 90 35 89,qdh 12 99,qf 35 12 90]
 (.ops [qb 91 103 7,qe 92 91,qb 93 0 12,qc 94 33 93,qam 95 27 1 0 33 94,qd 96 44 27 33 40 92 95,qb 97 103 7,qf 1 97 96])))
 (.ops [qg 98 87,zm 87 98])))))))))
 (.ops [qg 99 80,zm 80 99])))))))
 (zs [qb 100 103 7,qe 101 100,qck 102 71 101 72]
 (zs [qc 103 105 7,qf 105 6 103]
 .ret))))))
theorem Tryz.known30:KnownC prog 30 pc30 104 6 (some 105):=⟨f30,_,_,func30,rfl,by kernel_rfl,rfl,rfl,by kernel_rfl⟩
def Tryz.pc31:PC:=
 (zs [qk 2 0 0]
 (zs [zm 7 0,qz 8 73 7,zm 3 8]
 (zs [qk 4 0 0]
 (.seq (zs [qm 5]
 (zl 0 ((.seq (zs [zm 9 5,zm 10 3,qi 11 10,qh 12 9 11]
 (zx 12 0))
 (.seq (.block 1 (.seq (zs [zm 15 0,zm 16 3,zm 17 5,qah 18 74 15 16 17]
 (zc 18 (zs [zm 19 4,zm 20 3,zm 21 5,qa 22 35 20 21,qc 23 35 22,qbb 24 145 1 0 35 23,zo 25 (.build zC8 [(0,1,(.t 24))]),qbg 26 147 1 0 3 25,qap 27 86 147 3 56 19 26,zm 4 27]
 (.exit 1)) .skip))
 (zs [zm 28 4,qi 29 28,zm 6 29]
 (.seq (zs [zm 30 6,qbv 31 30,zm 32 31,qj 33 32 4,qj 34 32 6,zg 35 32 true (.bin .sub (.t 34) zj),qaa 36 32 3 33 35,qac 37 32 1 36,qae 38 32 37,qn 39 32 38]
 (zc 39 (.seq (.seq (.aK [] 12 [zm 40 0,zm 41 3,zm 42 5,qab 43 42,qa 44 35 41 43,qb 45 0 44,qc 46 33 45,zm 47 3,zm 48 5,qa 49 35 47 48,qb 50 0 49,qc 51 33 50,qah 52 75 40 46 51,qat 53 52])
 (zc 53 (.aK [0,0,2,0,0,16,56,120,248,0,0,1024,3584,7680,15872,32256,65024,131064] 18 [zm 54 4,zm 55 6,qab 56 55,zm 57 4,zm 58 6,qab 59 58,qa 60 3 57 59,qb 61 2 60,qe 62 61,zm 63 4,zm 64 6,qab 65 64,qa 66 3 63 65,qb 67 0 66,qe 68 67,qi 69 68,zo 70 (.fl 3 [.int .i64 0] 1 [(0,1,(.t 69))]),zo 71 (.app 73 3 1 8 (.int .i64 0) (.t 62) (.t 70)),qa 72 3 54 56,qb 73 2 72,qf 1 73 71]) .skip))
 (.seq (.aK [0,0,2,0,0,16,56,120,248,0,0,1536,3584,7680,16376] 15 [zm 74 4,zm 75 6,qab 76 75,zm 77 4,zm 78 6,qab 79 78,qa 80 3 77 79,qb 81 0 80,qe 82 81,zm 83 3,zm 84 5,qa 85 35 83 84,qc 86 35 85,qbb 87 145 1 0 35 86,qr 88 142 145 35 64 82 87,qa 89 3 74 76,qb 90 0 89,qf 1 90 88])
 (.exit 1))) .skip))
 (.ops [zm 91 4,zm 92 3,zm 93 5,qa 94 35 92 93,qc 95 35 94,qbb 96 145 1 0 35 95,zo 97 (.build zC8 [(0,1,(.t 96)),(1,1,zt)]),qbg 98 147 1 0 3 97,qap 99 86 147 3 56 91 98,zm 4 99])))))
 (.ops [zm 13 5,qg 14 13,zm 5 14]))))))
 (zs [zm 100 4,zm 2 100]
 .ret)))))
theorem Tryz.known31:aS prog 31 pc31 101 [2]:=⟨f31,_,func31,rfl,by kernel_rfl,rfl,rfl⟩
def Tryz.pc32:PC:=
 (zs [qk 4 0 0]
 (zs [qk 5 0 0]
 (zs [qau 6]
 (.seq (zs [qm 7]
 (zl 0 ((.seq (zs [zm 10 7,zm 11 1,qi 12 11,qh 13 10 12]
 (zx 13 0))
 (.block 1 (zs [qau 8]
 (.seq (zs [zm 14 6,qg 15 14,zm 9 15]
 (zl 2 ((.seq (zs [zm 16 9,zm 17 0,qi 18 17,qh 19 16 18,zm 20 19,qj 21 20 8,zg 22 20 true (.bin .lss (.t 21) zi),qn 23 20 22]
 (zx 23 2))
 (.seq (.block 3 (.seq (.aK [0,0,3,7,15,31,63,63,255,63,63,1599,3647,7743,15935] 15 [zm 26 0,zm 27 9,qa 28 3 26 27,qb 29 1 28,qe 30 29,zm 31 30,qj 32 31 1,qj 33 31 7,zg 34 31 true (.slS 1 (.t 32) (some (.t 33)) none),qj 35 31 0,qj 36 31 9,qaa 37 31 3 35 36,qag 38 31 3 37,zg 39 31 true (.fl 147 zC8 1 [(0,3,(.t 38))]),qdc 40 31 77 39,qao 41 31 76 34 40,qn 42 31 41])
 (zc 42 (.ops [zm 43 9,zm 8 43]) .skip)))
 (.ops [zm 24 9,qg 25 24,zm 9 25]))))))
 (.seq (zs [zm 44 8,qcm 45 44]
 (zc 45 (zs [zm 46 5,zm 47 1,zm 48 7,qa 49 1 47 48,qe 50 49,zo 51 (.build zC12 [(0,1,(.t 50)),(1,1,(.v (.int .i64 (-1))))]),zo 52 (.fl 91 zC12 1 [(0,2,(.t 51))]),zo 53 (.app 88 91 2 24 (.agg #[.string ⟨#[]⟩,.int .i64 0]) (.t 46) (.t 52)),zm 5 53]
 (zs [zm 54 7,qg 55 54,zm 7 55]
 (.exit 1))) .skip))
 (zs [zm 56 5,zm 57 8,zo 58 (.build zC12 [(1,1,(.t 57))]),zo 59 (.fl 91 zC12 1 [(0,2,(.t 58))]),zo 60 (.app 88 91 2 24 (.agg #[.string ⟨#[]⟩,.int .i64 0]) (.t 56) (.t 59)),zm 5 60]
 (zs [zm 61 7,zm 62 0,zm 63 8,qa 64 3 62 63,qc 65 3 64,qbg 66 147 1 0 3 65,qz 67 77 66,qi 68 67,qav 69 61 68,zm 7 69]
 (.ops [zm 70 8,zm 6 70])))))))))))
 (zs [zm 71 5,zm 4 71]
 .ret)))))
theorem Tryz.known32:aS prog 32 pc32 72 [4]:=⟨f32,_,func32,rfl,by kernel_rfl,rfl,rfl⟩
def Tryz.pc33:PC:=
 (zs [qx 2]
 (zs [zm 3 0,qz 4 78 3,zm 5 4,qj 6 5 0,qdc 7 5 79 6,qbj 8 5 7,qn 9 5 8,zm 2 9]
 .ret))
theorem Tryz.known33:aS prog 33 pc33 10 [2]:=⟨f33,_,func33,rfl,by kernel_rfl,rfl,rfl⟩
def Tryz.pc34:PC:=
 (zs [qk 4 0 0,qm 5]
 (zs [qk 6 0 0]
 (zs [qk 7 0 0]
 (zs [qm 8]
 (.seq (zs [qm 9]
 (zl 0 ((.seq (zs [zm 13 9,zm 14 1,qi 15 14,zo 16 (.bin .leq (.t 13) (.t 15))]
 (zx 16 0))
 (.seq (.block 1 (.seq (zs [zm 19 9,zm 20 1,qi 21 20,qh 22 19 21,zm 23 22,qj 24 23 1,qj 25 23 9,qaa 26 23 2 24 25,qac 27 23 1 26,qae 28 23 27,zg 29 23 true (.bin .lss (.t 28) zi),qn 30 23 29]
 (zc 30 (zs [zm 31 7,zm 32 1,zm 33 9,qa 34 2 32 33,qb 35 0 34,qe 36 35,qba 37 9 1 0 1 36,qv 38 23 9 1 16 31 37,zm 7 38]
 (.exit 1)) .skip))
 (zs [zm 39 0,qi 40 39,zm 10 40]
 (.seq (zs [zm 41 9,zm 42 1,qi 43 42,qh 44 41 43]
 (zc 44 (.ops [zm 45 1,zm 46 9,qa 47 2 45 46,qb 48 1 47,qe 49 48,zm 10 49]) .skip))
 (zs [zm 51 0,zm 52 8,zm 53 10,zm 54 7,zo 55 (.call 80 [(.t 51),(.t 52),(.t 53),(.t 54)]),zm 50 55,qu 56 0 50,qu 57 1 50,zm 11 56,zm 12 57]
 (.seq (zs [zm 58 12,qcd 59 58]
 (zc 59 (zs [zm 60 12,qk 4 0 0,zm 5 60]
 .ret) .skip))
 (zs [zm 61 6,zm 62 11,qbl 63 92 96 3 32 61 62,zm 6 63]
 (.seq (zs [zm 64 9,zm 65 1,qi 66 65,qh 67 64 66]
 (zc 67 (.ops [zm 68 6,zm 69 10,zo 70 (.build zC10 [(0,1,zi),(1,1,(.t 69))]),zo 71 (.fl 96 zC10 1 [(0,3,(.t 70))]),qbl 72 92 96 3 32 68 71,zm 6 72]) .skip))
 (zs [qk 7 0 0]
 (.ops [zm 73 10,qg 74 73,zm 8 74]))))))))))
 (.ops [zm 17 9,qg 18 17,zm 9 18]))))))
 (zs [zm 75 6,zm 4 75,qm 5]
 .ret))))))
theorem Tryz.known34:aS prog 34 pc34 76 [4,5]:=⟨f34,_,func34,rfl,by kernel_rfl,rfl,rfl⟩
def Tryz.pc35:PC:=
 (zs [qct 8 46]
 (zs [qbd 15 62,qbd 16 61,zo 17 (.build zC0 [(0,1,(.v (.int .i64 5))),(37,33,(.t 15)),(70,33,(.t 16))]),qct 9 46,qf 105 9 17]
 (.seq (zs [qm 10]
 (zl 0 ((.seq (zs [zm 18 10,zm 19 2,qh 20 18 19]
 (zx 20 0))
 (.seq (.block 1 (zs [zm 23 1,zm 24 10,qa 25 3 23 24,qb 26 0 25,qe 27 26,qbu 28 27,zm 29 28,qj 30 29 0,qj 31 29 1,qj 32 29 10,qaa 33 29 3 31 32,qac 34 29 1 33,qae 35 29 34,qaa 36 29 3 30 35,qac 37 29 1 36,qae 38 29 37,qbj 39 29 38,qn 40 29 39]
 (zc 40 (.ops [zm 41 0,zm 42 1,zm 43 10,qa 44 3 42 43,qb 45 1 44,qe 46 45,qa 47 3 41 46,qb 48 0 47,qe 49 48,qbx 50 35 49,qb 51 0 50,qc 52 33 51,qb 53 37 9,qf 33 53 52]) .skip)))
 (.ops [zm 21 10,qg 22 21,zm 10 22]))))))
 (.seq (zs [zm 54 1,qi 55 54,qab 56 55,zm 11 56]
 (zl 2 ((.seq (zs [zm 57 11,zm 58 3,qde 59 57 58]
 (zx 59 2))
 (.seq (.block 3 (zs [zm 62 1,zm 63 11,qa 64 3 62 63,qb 65 0 64,qe 66 65,qbu 67 66,zm 68 67,qj 69 68 0,qj 70 68 1,qj 71 68 11,qaa 72 68 3 70 71,qac 73 68 1 72,qae 74 68 73,qaa 75 68 3 69 74,qac 76 68 1 75,qae 77 68 76,qbj 78 68 77,qn 79 68 78]
 (zc 79 (.ops [zm 80 0,zm 81 1,zm 82 11,qa 83 3 81 82,qb 84 1 83,qe 85 84,qa 86 3 80 85,qb 87 0 86,qe 88 87,qbx 89 35 88,qb 90 0 89,qc 91 33 90,qb 92 70 9,qf 33 92 91]) .skip)))
 (.ops [zm 60 11,qab 61 60,zm 11 61]))))))
 (.seq (zs [zm 93 2,zm 12 93]
 (zl 4 ((.seq (zs [zm 94 12,zm 95 3,qh 96 94 95]
 (zx 96 4))
 (.seq (.block 5 (.seq (zs [zm 99 1,zm 100 12,qa 101 3 99 100,qb 102 0 101,qe 103 102,qdb 104 103]
 (zc 104 (.seq (.aK [0,1,0,0,12,28,60,124] 8 [qb 105 104 9,qe 106 105,zm 107 1,zm 108 12,qa 109 3 107 108,qb 110 2 109,qe 111 110,qba 112 9 1 0 1 111,qv 113 23 9 1 16 106 112,qb 114 104 9,qf 1 114 113])
 (.exit 5)) .skip))
 (zs [zm 115 0,zm 116 1,zm 117 12,qa 118 3 116 117,qb 119 1 118,qe 120 119,qa 121 3 115 120,qc 122 3 121,qdg 13 147,qf 3 13 122]
 (zs [qm 14]
 (zl 6 ((.seq (zs [zm 123 14,qb 124 0 13,qe 125 124,qi 126 125,qh 127 123 126]
 (zx 127 6))
 (.seq (.block 7 (.aK [] 8 [qb 130 103 9,qe 131 130,qb 132 0 13,qe 133 132,zm 134 14,qa 135 35 133 134,qb 136 0 135,qc 137 33 136,qo 138 81 131 137,qb 139 103 9,qf 1 139 138]))
 (.ops [zm 128 14,qg 129 128,zm 14 129])))))))))
 (.ops [zm 97 12,qg 98 97,zm 12 98]))))))
 (zs [qc 140 105 9,qf 105 8 140]
 .ret))))))
theorem Tryz.known35:KnownC prog 35 pc35 141 8 (some 105):=⟨f35,_,_,func35,rfl,by kernel_rfl,rfl,rfl,by kernel_rfl⟩
def Tryz.pc36:PC:=
 (zs [qx 4]
 (zs [zm 5 0,zm 6 1,qo 7 82 5 6,qbf 8 7,zm 4 8]
 .ret))
theorem Tryz.known36:aS prog 36 pc36 9 [4]:=⟨f36,_,func36,rfl,by kernel_rfl,rfl,rfl⟩
def Tryz.pc37:PC:=
 (zs [qk 4 0 0]
 (zs [zm 8 0,zm 9 1,qo 10 83 8 9,zm 5 10]
 (.seq (zs [zm 11 5,zo 12 (.bin .eql (.t 11) (.v (.int .i64 (-1))))]
 (zc 12 (zs [zm 13 0,zm 4 13]
 .ret) .skip))
 (.seq (zs [zm 14 5,qg 15 14,zm 6 15]
 (zl 0 ((.seq (zs [zm 16 6,zm 17 0,qi 18 17,qh 19 16 18]
 (zx 19 0))
 (.seq (.block 1 (zs [zm 22 0,zm 23 6,qa 24 35 22 23,qc 25 35 24,qdh 7 99,qf 35 7 25]
 (zs [zm 26 1,qc 27 35 7,qdf 28 26 27,qat 29 28]
 (zc 29 (zs [zm 30 0,zm 31 5,qc 32 35 7,qa 33 35 30 31,qf 35 33 32]
 (.ops [zm 34 5,qg 35 34,zm 5 35])) .skip))))
 (.ops [zm 20 6,qg 21 20,zm 6 21]))))))
 (zs [zm 36 0,zm 37 5,qcn 38 35 36 37,⟨none,none,.more (.clr 99 35 (.agg #[zz,zz,zz,zz,zz,zz,zz,zz,zz,zz,zz,zz,zz,zz,zz,zz,zz,zz,zz,zz,zz,zz,zz,zz,zz,zz,zz,zz,zz,zz,zz,zz,.int .i64 0,.string ⟨#[]⟩,.bool false]) (.t 38))⟩]
 (zs [zm 39 0,zm 40 5,qca 41 35 39 40,zm 4 41]
 .ret))))))
theorem Tryz.known37:aS prog 37 pc37 42 [4]:=⟨f37,_,func37,rfl,by kernel_rfl,rfl,rfl⟩
def Tryz.pc38:PC:=
 (zs [qk 2 0 0]
 (.seq (zs [zm 11 0,qz 12 45 11,qat 13 12]
 (zc 13 (zs [qk 2 0 0]
 .ret) .skip))
 (zs [zm 14 0,qz 15 84 14,zm 3 15]
 (zs [zo 16 (.bsl0 27),qy 17 156 16,zm 4 17]
 (.seq (zs [zm 18 0,qw 19 18,qb 20 2 19,qe 21 20,qcv 22 109 21]
 (zl 0 ((zs [qcr 23 22,qu 24 0 23]
 (.seq (zx 24 0)
 (.block 1 (zs [qcw 25 22,qu 26 0 25,qbc 5 27,qf 33 5 26]
 (zs [zm 27 3,qc 28 33 5,qaj 29 153 27 28,qbu 30 29]
 (zc 30 (.ops [zm 31 4,qci 32 155 31,qc 33 33 5,qci 34 27 33,qo 35 85 32 34]) .skip)))))))))
 (.seq (zl 2 ((.seq (zs [zm 36 4,qw 37 36,qe 38 37,qz 39 86 38,qbv 40 39]
 (zx 40 2))
 (.block 3 (zs [zm 42 4,qci 43 155 42,qz 44 87 43,zo 45 (.more (.other (.gen (.typeAssert (.tmp 44) 20 27 true)))),zm 41 45,qu 46 0 41,qu 47 1 41,qbc 6 27,qf 33 6 46,zm 7 47]
 (.seq (zs [zm 48 7,qat 49 48]
 (zc 49 (.exit 3) .skip))
 (.seq (.aK [0,1,3,7,0,31,0] 7 [zm 50 0,qw 51 50,qb 52 2 51,qe 53 52,qc 54 33 6,qaj 55 109 53 54,zo 8 (.al 121 zC7),qf 4 8 55])
 (zs [zm 56 2,qc 57 33 6,qb 58 0 8,qe 59 58,qb 60 1 8,qe 61 60,qbu 62 61,zo 63 (.build zC3 [(0,33,(.t 57)),(33,1,(.t 59)),(34,1,(.t 62))]),qbb 64 99 1 0 35 63,qr 65 72 99 35 64 56 64,zm 2 65]
 (zs [qb 66 3 8,qe 67 66,qi 68 67,qm 69]
 (zl 4 ((zs [qh 70 69 68]
 (.seq (zx 70 4)
 (.seq (.block 5 (zs [qa 71 33 67 69,qc 72 33 71,qbc 10 27,qf 33 10 72]
 (.seq (.aK [0,0,3,7,3,19] 6 [zm 73 3,qc 74 33 10,qaj 75 153 73 74,qab 76 75,qce 77 153 73 74,qu 78 1 77,qbn 153 73 78 76])
 (.seq (.aK [0,0,3,7,15,15] 6 [qc 79 33 10,qbd 80 88,qch 81 27 79 80,zm 82 81,qj 83 82 3,qag 84 82 33 10,zg 85 82 true (.more (.other (.gen (.lookup 153 (.tmp 83) (.tmp 84) false)))),qcy 86 82 85,qn 87 82 86])
 (zc 87 (.ops [zm 88 4,qci 89 155 88,qc 90 33 10,qci 91 27 90,qo 92 85 89 91]) .skip)))))
 (.ops [qg 93 69,zm 69 93])))))))))))))))
 (zs [zm 94 2,zm 2 94]
 .ret)))))))
theorem Tryz.known38:aS prog 38 pc38 95 [2]:=⟨f38,_,func38,rfl,by kernel_rfl,rfl,rfl⟩
def Tryz.pc39:PC:=
 (zs [qy 1 99 0,qx 2]
 (zs [qb 3 34 1,qe 4 3,qat 5 4,zm 2 5]
 .ret))
theorem Tryz.known39:aS prog 39 pc39 6 [2]:=⟨f39,_,func39,rfl,by kernel_rfl,rfl,rfl⟩
def Tryz.pc40:PC:=
 (zs [qy 4 99 1,qy 5 99 2,qx 6]
 (zs [zm 7 0,qb 8 0 4,qc 9 33 8,qb 10 0 5,qc 11 33 10,qah 12 52 7 9 11,zm 13 12,ql 14 13 0,qaf 15 13 0 5,qt 16 13 33 15,qaf 17 13 0 4,qt 18 13 33 17,zg 19 13 false (.call 52 [(.t 14),(.t 16),(.t 18)]),qp 20 13 19,zm 6 20]
 .ret))
theorem Tryz.known40:aS prog 40 pc40 21 [6]:=⟨f40,_,func40,rfl,by kernel_rfl,rfl,rfl⟩
def Tryz.pc41:PC:=
 (zs [qdg 4 75]
 (zs [zm 7 1,zo 8 (.build zC8 [(0,1,(.t 7)),(1,1,zt)]),qdg 5 75,qf 3 5 8]
 (.seq (zs [qdl 6]
 (zl 0 ((.seq (zs [zm 9 6,zm 10 1,qi 11 10,qh 12 9 11]
 (zx 12 0))
 (.seq (.block 1 (.seq (.aK [] 10 [zm 15 0,zm 16 1,zm 17 6,qab 18 17,qa 19 35 16 18,qc 20 35 19,zm 21 1,zm 22 6,qa 23 35 21 22,qc 24 35 23,qah 25 40 15 20 24,qat 26 25])
 (zc 26 (.ops [qb 27 2 5,qe 28 27,zm 29 6,zo 30 (.fl 3 [.int .i64 0] 1 [(0,1,(.t 29))]),zo 31 (.app 73 3 1 8 (.int .i64 0) (.t 28) (.t 30)),qb 32 2 5,qf 1 32 31]) .skip)))
 (.ops [zm 13 6,qg 14 13,zm 6 14]))))))
 (zs [qc 33 3 5,qf 3 4 33]
 .ret))))
theorem Tryz.known41:KnownC prog 41 pc41 34 4 (some 3):=⟨f41,_,_,func41,rfl,by kernel_rfl,rfl,rfl,by kernel_rfl⟩
def Tryz.pc44:PC:=
 (zs [qx 2]
 (.seq (zs [zm 5 0,zo 6 (.more (.rngS (.t 5)))]
 (zl 0 ((zs [zo 7 (.more (.nxtS (.t 6))),qu 8 0 7]
 (.seq (zx 8 0)
 (.block 1 (zs [qu 9 2 7,zm 4 9]
 (zs [zm 10 4,zo 11 (.bin .neq (.t 10) (.v (.int .i32 9))),zm 12 11,qj 13 12 4,zg 14 12 true (.bin .lss (.t 13) (.v (.int .i32 32))),qj 15 12 14,ql 16 15 4,zg 17 15 false (.bin .gtr (.t 16) (.v (.int .i32 126))),qbh 18 12 15 17,qn 19 12 18]
 (zc 19 (zs [qx 2]
 .ret) .skip)))))))))
 (zs [zm 20 0,qdi 21 20,zo 22 (.bin .leq (.t 21) (.v (.int .i64 80))),zm 2 22]
 .ret)))
theorem Tryz.known44:aS prog 44 pc44 23 [2]:=⟨f44,_,func44,rfl,by kernel_rfl,rfl,rfl⟩
def Tryz.pc45:PC:=
 (zs [qx 2]
 (zs [zm 3 0,zo 4 (.eqP true (.t 3) (.v (.pointer none))),zm 5 4,qj 6 5 0,zg 7 5 true (.cF (.t 6)),qac 8 5 0 7,qae 9 5 8,qn 10 5 9,zm 2 10]
 .ret))
theorem Tryz.known45:aS prog 45 pc45 11 [2]:=⟨f45,_,func45,rfl,by kernel_rfl,rfl,rfl⟩
def Tryz.pc46:PC:=
 (zs [qy 3 59 1,qx 4]
 (.seq (.seq (.aK [0,1,3,7,0,16,0,64,240,511,1023,2047,2047,0,12287] 15 [zm 9 0,qw 10 9,qb 11 1 10,qe 12 11,qb 13 0 3,qc 14 32 13,qb 15 32 3,qe 16 15,qbk 17 0 32 14 32 1 16,qbi 18 108 12 17,zm 8 18,qu 19 0 8,qu 20 1 8,zo 5 (.al 59 zC1),qf 102 5 19,zm 6 20])
 (zs [zm 21 6]
 (zc 21 (zs [qbo 4]
 .ret) .skip)))
 (.seq (zs [qb 22 100 3,qe 23 22,qi 24 23,qm 25]
 (zl 0 ((zs [qh 26 25 24]
 (.seq (zx 26 0)
 (.seq (.block 1 (zs [zm 27 25,zm 7 27]
 (zs [zm 28 0,qc 29 102 3,zm 30 7,qo 31 55 29 30,qo 32 51 28 31]
 (zc 32 (zs [qbo 4]
 .ret) .skip))))
 (.ops [qg 33 25,zm 25 33])))))))
 (zs [qx 4]
 .ret))))
theorem Tryz.known46:aS prog 46 pc46 34 [4]:=⟨f46,_,func46,rfl,by kernel_rfl,rfl,rfl⟩
def Tryz.pc47:PC:=
 (zs [qy 1 59 0,qx 2]
 (.seq (zs [qb 5 101 1,qe 6 5,qi 7 6,qm 8]
 (zl 0 ((zs [qh 9 8 7]
 (.seq (zx 9 0)
 (.seq (.block 1 (zs [zm 10 8,qa 11 33 6 8,qc 12 33 11,qbc 4 27,zm 3 10,qf 33 4 12]
 (.seq (.aK [0,0,3,7,15,15,63,127,255,511,1023,511,4095,511] 14 [qc 13 33 4,qbd 14 90,qai 15 27 13 14,zm 16 15,qt 17 16 33 4,qaz 18 16 88,qad 19 16 27 17 18,qp 20 16 19,zm 21 20,qaf 22 21 101 1,qal 23 21 22,ql 24 21 3,zg 25 21 false (.slS 33 (.t 23) none (some (.t 24))),qt 26 21 33 4,qaq 27 21 91 25 26,qp 28 21 27])
 (zc 28 (zs [qx 2]
 .ret) .skip))))
 (.ops [qg 29 8,zm 8 29])))))))
 (.seq (.aK [0,1,3,7,15,31,15,127,255,511,1023,2047,1023] 13 [qb 30 33 1,qe 31 30,qbf 32 31,zm 33 32,qac 34 33 34 1,qag 35 33 33 34,qcj 36 33 88,qay 37 33 27 35 36,qn 38 33 37,zm 39 38,qac 40 39 67 1,qag 41 39 33 40,qcj 42 39 90,qay 43 39 27 41 42,qn 44 39 43,zm 2 44])
 .ret)))
theorem Tryz.known47:aS prog 47 pc47 45 [2]:=⟨f47,_,func47,rfl,by kernel_rfl,rfl,rfl⟩
def Tryz.pc48:PC:=
 (zs [qy 3 27 1,qx 4]
 (.seq (.aK [0,1,3,7,7,31,63,127,127,511,1023,2047,4095,4095] 14 [zm 5 0,qz 6 45 5,zm 7 6,qag 8 7 33 3,qcj 9 7 90,qcl 10 7 27 8 9,qj 11 7 10,qt 12 11 33 3,qaz 13 11 88,qad 14 11 27 12 13,qbh 15 7 11 14,qj 16 7 15,ql 17 16 0,qt 18 16 33 3,qaq 19 16 51 17 18,qbh 20 7 16 19,qn 21 7 20,zm 4 21])
 .ret))
theorem Tryz.known48:aS prog 48 pc48 22 [4]:=⟨f48,_,func48,rfl,by kernel_rfl,rfl,rfl⟩
def Tryz.pc49:PC:=
 (zs [qx 4]
 (zs [zm 5 0,zm 6 1,qo 7 92 5 6,qbf 8 7,zm 4 8]
 .ret))
theorem Tryz.known49:aS prog 49 pc49 9 [4]:=⟨f49,_,func49,rfl,by kernel_rfl,rfl,rfl⟩
def Tryz.pc50:PC:=
 (zs [qy 2 27 0,qx 3]
 (zs [qe 4 1,qc 5 33 2,qo 6 51 4 5,qat 7 6,zm 3 7]
 .ret))
theorem Tryz.known50:aS prog 50 pc50 8 [3]:=⟨f50,_,func50,rfl,by kernel_rfl,rfl,rfl⟩
def Tryz.pc51:PC:=
 (zs [qy 3 27 1,qx 4]
 (.seq (.aK [0,1,3,7,0,31,63,127,127,0,767] 11 [zm 8 0,qw 9 8,qb 10 2 9,qe 11 10,qc 12 33 3,qbi 13 109 11 12,zm 7 13,qu 14 0 7,qu 15 1 7,zo 5 (.al 121 zC7),qf 4 5 14,zm 6 15])
 (zs [zm 16 6,zm 4 16]
 .ret)))
theorem Tryz.known51:aS prog 51 pc51 17 [4]:=⟨f51,_,func51,rfl,by kernel_rfl,rfl,rfl⟩
def Tryz.pc52:PC:=
 (zs [qy 4 27 1,qy 5 27 2,qx 6]
 (.seq (.block 0 (.seq (.aK [0,0,3,7,15,31,31,127,255,511,1023,2047,2047,8191,16383,32767,65535,65535,262143,524287,1048575,2097151,2097151] 23 [zm 15 0,qc 16 33 4,qo 17 48 15 16,qat 18 17,zm 19 18,ql 20 19 0,qt 21 19 33 5,qaq 22 19 48 20 21,qcc 23 19 22,qp 24 19 23,zm 25 24,qt 26 25 33 4,qt 27 25 33 5,qad 28 25 27 26 27,qp 29 25 28,zm 30 29,qt 31 30 33 4,qaz 32 30 88,qad 33 30 27 31 32,qp 34 30 33,zm 35 34,qt 36 35 33 5,qaz 37 35 90,qad 38 35 27 36 37,qp 39 35 38,zm 14 39])
 (zc 14 (zs [qx 6]
 .ret) (.seq (.aK [0,0,3,7,15,15] 6 [qc 41 33 4,qbd 42 90,qai 43 27 41 42,zm 44 43,qt 45 44 33 5,qaz 46 44 88,qad 47 44 27 45 46,qp 48 44 47,zm 40 48])
 (zc 40 (zs [qbo 6]
 .ret) .skip)))))
 (zs [zo 49 (.mkM),qc 50 33 4,zo 51 (.build [] []),⟨none,none,.more (.other (.gen (.insert 167 (.tmp 49) (.tmp 50) (.tmp 51))))⟩,zm 52 49,zm 7 52]
 (zs [qc 53 33 4,qam 54 27 1 0 33 53,zm 8 54]
 (.seq (zl 1 ((.seq (zs [zm 55 8,qi 56 55,qbv 57 56]
 (zx 57 1))
 (.block 2 (zs [zm 58 8,zm 59 8,qi 60 59,qab 61 60,qa 62 33 58 61,qc 63 33 62,qbc 9 27,qf 33 9 63]
 (zs [zm 64 8,zm 65 8,qi 66 65,qab 67 66,qca 68 33 64 67,zm 8 68]
 (zs [zm 69 0,qc 70 33 9,qo 71 93 69 70,qi 72 71,qm 73]
 (zl 3 ((zs [qh 74 73 72]
 (.seq (zx 74 3)
 (.seq (.block 4 (zs [qa 75 33 71 73,qc 76 33 75,qbc 11 27,qf 33 11 76]
 (.seq (zs [qc 77 33 11,qc 78 33 5,qai 79 27 77 78]
 (zc 79 (zs [qbo 6]
 .ret) .skip))
 (zs [zm 81 7,qc 82 33 11,qbi 83 167 81 82,zm 80 83,qu 84 0 80,qu 85 1 80,zo 12 (.al 166 []),qf 0 12 84,zm 13 85]
 (zs [zm 86 13,qat 87 86]
 (zc 87 (zs [zm 88 7,qc 89 33 11,zo 90 (.build [] []),qan 167 88 89 90]
 (.ops [zm 91 8,qc 92 33 11,qam 93 27 1 0 33 92,qd 94 44 27 33 40 91 93,zm 8 94])) .skip))))))
 (.ops [qg 95 73,zm 73 95])))))))))))))
 (zs [qx 6]
 .ret))))))
theorem Tryz.known52:aS prog 52 pc52 96 [6]:=⟨f52,_,func52,rfl,by kernel_rfl,rfl,rfl⟩
def Tryz.pc53:PC:=
 (zs [qk 2 0 0]
 (.seq (zs [zm 3 0,zo 4 (.more (.slNil false (.t 3)))]
 (zc 4 (zs [qk 2 0 0]
 .ret) .skip))
 (zs [zo 5 (.bsl0 9),zm 6 0,qv 7 23 9 1 16 5 6,zm 2 7]
 .ret)))
theorem Tryz.known53:aS prog 53 pc53 8 [2]:=⟨f53,_,func53,rfl,by kernel_rfl,rfl,rfl⟩
def Tryz.pc54:PC:=
 (zs [qk 2 0 0]
 (.seq (zs [zm 3 0,zo 4 (.more (.slNil false (.t 3)))]
 (zc 4 (zs [qk 2 0 0]
 .ret) .skip))
 (zs [zo 5 (.bsl0 27),zm 6 0,qd 7 44 27 33 40 5 6,zm 2 7]
 .ret)))
theorem Tryz.known54:aS prog 54 pc54 8 [2]:=⟨f54,_,func54,rfl,by kernel_rfl,rfl,rfl⟩
def Tryz.pc55:PC:=
 (zs [qy 2 59 0,qbc 4 27]
 (zs [qb 5 0 2,qc 6 32 5,qb 7 33 2,qe 8 7,zm 9 1,qav 10 8 9,qbk 11 0 32 6 32 1 10,qf 33 4 11]
 .ret))
theorem Tryz.known55:KnownC prog 55 pc55 12 4 (some 33):=⟨f55,_,_,func55,rfl,by kernel_rfl,rfl,rfl,by kernel_rfl⟩
def Tryz.pc56:PC:=
 (zs [qy 4 59 1]
 (.seq (zs [qb 9 100 4,qe 10 9,qi 11 10,qbu 12 11]
 (zc 12 .ret .skip))
 (zs [qb 13 34 4,qc 14 33 13,qam 15 27 1 0 33 14,zm 6 15]
 (.seq (zs [qb 16 100 4,qe 17 16,qi 18 17,qm 19]
 (zl 0 ((zs [qh 20 19 18]
 (.seq (zx 20 0)
 (.seq (.block 1 (zs [zm 21 19,zm 7 21]
 (.ops [zm 22 6,qc 23 102 4,zm 24 7,qo 25 55 23 24,qam 26 27 1 0 33 25,qd 27 44 27 33 40 22 26,zm 6 27])))
 (.ops [qg 28 19,zm 19 28])))))))
 (zs [zm 29 6,qb 30 67 4,qc 31 33 30,qam 32 27 1 0 33 31,qd 33 44 27 33 40 29 32,zm 6 33]
 (zs [qdl 8]
 (zl 2 ((.seq (zs [zm 34 8,zm 35 6,qi 36 35,qh 37 34 36]
 (zx 37 2))
 (.seq (.block 3 (.aK [] 11 [zm 40 0,zm 41 6,zm 42 8,qab 43 42,qa 44 33 41 43,qc 45 33 44,zm 46 6,zm 47 8,qa 48 33 46 47,qc 49 33 48,zm 50 2,zo 51 (.call 94 [(.t 40),(.t 45),(.t 49),(.t 50)])]))
 (.ops [zm 38 8,qg 39 38,zm 8 39])))))))))))
theorem Tryz.known56:aS prog 56 pc56 52 []:=⟨f56,_,func56,rfl,by kernel_rfl,rfl,rfl⟩
def Tryz.pc57:PC:=
 (zs [qy 4 59 1]
 (.seq (zs [qb 13 34 4,qc 14 33 13,qb 15 67 4,qc 16 33 15,qbw 17 27 2 0 33 14 33 33 16,qb 18 101 4,qe 19 18,qd 20 44 27 33 40 17 19,qi 21 20,qm 22]
 (zl 0 ((zs [qh 23 22 21]
 (.seq (zx 23 0)
 (.seq (.block 1 (zs [qa 24 33 20 22,qc 25 33 24,qbc 7 27,qf 33 7 25]
 (.seq (.aK [0,1,3,7,0,31,63,127,127,0,767] 11 [zm 27 0,qw 28 27,qb 29 2 28,qe 30 29,qc 31 33 7,qbi 32 109 30 31,zm 26 32,qu 33 0 26,qu 34 1 26,zo 8 (.al 121 zC7),qf 4 8 33,zm 9 34])
 (zs [zm 35 9]
 (zc 35 (zs [qb 36 2 8,qe 37 36,zm 38 2,qav 39 37 38,qb 40 2 8,qf 1 40 39]
 (.aK [] 6 [zm 41 0,qw 42 41,qb 43 2 42,qe 44 43,qc 45 33 7,qc 46 4 8,qan 109 44 45 46])) .skip)))))
 (.ops [qg 47 22,zm 22 47])))))))
 (zs [qb 48 101 4,qe 49 48,qi 50 49,qm 51]
 (zl 2 ((zs [qh 52 51 50]
 (.seq (zx 52 2)
 (.seq (.block 3 (zs [qa 53 33 49 51,qc 54 33 53,qbc 11 27,qf 33 11 54]
 (.seq (.aK [0,1,3,7,0,31,0] 7 [zm 55 0,qw 56 55,qb 57 2 56,qe 58 57,qc 59 33 11,qaj 60 109 58 59,zo 12 (.al 121 zC7),qf 4 12 60])
 (zs [qb 61 1 12,qe 62 61,zm 63 2,qav 64 62 63,qb 65 1 12,qf 1 65 64]
 (.aK [] 6 [zm 66 0,qw 67 66,qb 68 2 67,qe 69 68,qc 70 33 11,qc 71 4 12,qan 109 69 70 71])))))
 (.ops [qg 72 51,zm 51 72])))))))))
theorem Tryz.known57:aS prog 57 pc57 73 []:=⟨f57,_,func57,rfl,by kernel_rfl,rfl,rfl⟩
def Tryz.pc58:PC:=
 (zs [qk 2 0 0]
 (zs [qk 3 0 0]
 (.seq (zs [qm 4]
 (zl 0 ((.seq (zs [zm 5 4,zm 6 0,qi 7 6,qh 8 5 7]
 (zx 8 0))
 (.seq (.block 1 (.ops [zm 11 3,zm 12 0,zm 13 4,qa 14 102 12 13,qc 15 102 14,qz 16 59 15,qd 17 44 27 33 40 11 16,zm 3 17]))
 (.ops [zm 9 4,qg 10 9,zm 4 10]))))))
 (zs [zm 18 3,zm 2 18]
 .ret))))
theorem Tryz.known58:aS prog 58 pc58 19 [2]:=⟨f58,_,func58,rfl,by kernel_rfl,rfl,rfl⟩
def Tryz.pc59:PC:=
 (zs [qy 1 66 0,qk 2 0 0]
 (zs [qk 3 0 0]
 (.seq (zs [qm 4]
 (zl 0 ((.seq (zs [zm 5 4,qb 6 100 1,qe 7 6,qi 8 7,qh 9 5 8]
 (zx 9 0))
 (.seq (.block 1 (.ops [zm 12 3,qb 13 0 1,qc 14 32 13,qb 15 33 1,qe 16 15,zm 17 4,qav 18 16 17,qbk 19 0 32 14 32 1 18,qam 20 27 1 0 33 19,qd 21 44 27 33 40 12 20,zm 3 21]))
 (.ops [zm 10 4,qg 11 10,zm 4 11]))))))
 (zs [zm 22 3,zm 2 22]
 .ret))))
theorem Tryz.known59:aS prog 59 pc59 23 [2]:=⟨f59,_,func59,rfl,by kernel_rfl,rfl,rfl⟩
def Tryz.pc60:PC:=
 (zs [qy 3 27 1,qx 4]
 (.seq (zs [qm 5]
 (zl 0 ((.seq (zs [zm 6 5,zm 7 0,qi 8 7,qh 9 6 8]
 (zx 9 0))
 (.seq (.block 1 (.seq (.aK [] 5 [zm 12 0,zm 13 5,qa 14 33 12 13,qc 15 33 14,qc 16 33 3,qai 17 27 15 16])
 (zc 17 (zs [qbo 4]
 .ret) .skip)))
 (.ops [zm 10 5,qg 11 10,zm 5 11]))))))
 (zs [qx 4]
 .ret)))
theorem Tryz.known60:aS prog 60 pc60 18 [4]:=⟨f60,_,func60,rfl,by kernel_rfl,rfl,rfl⟩
def Tryz.pc61:PC:=
 (zs [qbc 0 27]
 (zs [qbz 1 32 1,qf 33 0 1]
 .ret))
theorem Tryz.known61:KnownC prog 61 pc61 2 0 (some 33):=⟨f61,_,_,func61,rfl,by kernel_rfl,rfl,rfl,by kernel_rfl⟩
def Tryz.pc62:PC:=
 (zs [qbc 0 27]
 (zs [qby 1 32 1,qf 33 0 1]
 .ret))
theorem Tryz.known62:KnownC prog 62 pc62 2 0 (some 33):=⟨f62,_,_,func62,rfl,by kernel_rfl,rfl,rfl,by kernel_rfl⟩
def Tryz.pc63:PC:=
 (zs [qy 4 27 1,qy 5 27 2,qx 6]
 (zs [zm 12 0,qz 13 58 12,zm 7 13]
 (.seq (.seq (.aK [0,0,3,7,15,31,31,127,255,511,1023,1023,4095,8191,16383,32767,32767,131071,262143,524287,1048575,1048575,4194303,8388607,16777215,33554431,33554431,134217727,268435455,536870911,1073741823,2147483647,2147483647,8589934591,17179869183,34359738367,68719476735,68719476735,274877906943,549755813887,1099511627775,2199023255551,2199023255551] 43 [zm 14 7,qc 15 33 4,qo 16 60 14 15,qat 17 16,zm 18 17,qag 19 18 33 4,qcj 20 18 62,qay 21 18 27 19 20,qn 22 18 21,zm 23 22,qag 24 23 33 4,qcj 25 23 61,qay 26 23 27 24 25,qn 27 23 26,zm 28 27,ql 29 28 7,qt 30 28 33 5,qaq 31 28 60 29 30,qcc 32 28 31,ql 33 28 32,qag 34 33 33 5,qcj 35 33 62,qay 36 33 27 34 35,qbp 37 28 33 36,ql 38 28 37,qag 39 38 33 5,qcj 40 38 61,qay 41 38 27 39 40,qbp 42 28 38 41,qp 43 28 42,zm 44 43,qt 45 44 33 4,qt 46 44 33 5,qad 47 44 27 45 46,qp 48 44 47,zm 49 48,qt 50 49 33 4,qaz 51 49 61,qad 52 49 27 50 51,qp 53 49 52,zm 54 53,qt 55 54 33 5,qaz 56 54 62,qad 57 54 27 55 56,qp 58 54 57])
 (zc 58 (zs [qx 6]
 .ret) .skip))
 (.seq (.seq (.aK [0,0,3,7,15,15] 6 [qc 59 33 4,qbd 60 62,qai 61 27 59 60,zm 62 61,qt 63 62 33 5,qaz 64 62 61,qad 65 62 27 63 64,qp 66 62 65])
 (zc 66 (zs [qbo 6]
 .ret) .skip))
 (zs [zm 67 0,qz 68 95 67,zm 8 68]
 (zs [qc 69 33 4,qam 70 27 1 0 33 69,zm 9 70]
 (.seq (zs [qm 10]
 (zl 0 ((.seq (zs [zm 71 10,zm 72 9,qi 73 72,qh 74 71 73]
 (zx 74 0))
 (.seq (.block 1 (zs [qm 11]
 (zl 2 ((.seq (zs [zm 77 11,qg 78 77,zm 79 8,qi 80 79,qh 81 78 80]
 (zx 81 2))
 (.seq (.block 3 (.seq (.aK [] 16 [zm 84 8,zm 85 11,qa 86 33 84 85,qc 87 33 86,zm 88 9,zm 89 10,qa 90 33 88 89,qc 91 33 90,qai 92 27 87 91,zm 93 92,qj 94 93 9,qj 95 93 8,qj 96 93 11,qcz 97 93 96,qaa 98 93 33 95 97,qag 99 93 33 98,qao 100 93 60 94 99,qbj 101 93 100,qn 102 93 101])
 (zc 102 (.ops [zm 103 9,zm 104 8,zm 105 11,qg 106 105,qa 107 33 104 106,qc 108 33 107,qam 109 27 1 0 33 108,qd 110 44 27 33 40 103 109,zm 9 110]) .skip)))
 (.ops [zm 82 11,zo 83 (.bin .add (.t 82) (.v (.int .i64 2))),zm 11 83])))))))
 (.ops [zm 75 10,qg 76 75,zm 10 76]))))))
 (zs [zm 111 9,qc 112 33 5,qo 113 60 111 112,zm 6 113]
 .ret))))))))
theorem Tryz.known63:aS prog 63 pc63 114 [6]:=⟨f63,_,func63,rfl,by kernel_rfl,rfl,rfl⟩
def Tryz.pc64:PC:=
 (zs [qm 6]
 (.seq (zs [zm 8 1,zm 7 8]
 (zl 0 ((.seq (zs [zm 9 7,zm 10 0,qw 11 10,qb 12 0 11,qe 13 12,qi 14 13,qh 15 9 14]
 (zx 15 0))
 (.seq (.block 1 (zs [zm 18 0,qw 19 18,qb 20 0 19,qe 21 20,zm 22 7,qa 23 3 21 22,qb 24 1 23,qe 25 24,zm 26 25,qj 27 26 2,qj 28 26 0,zg 29 26 true (.cF (.t 28)),qac 30 26 1 29,qae 31 26 30,qj 32 26 7,qaa 33 26 1 31 32,qae 34 26 33,qao 35 26 96 27 34,qn 36 26 35]
 (zc 36 (zs [zm 37 7,zm 6 37]
 .ret) .skip)))
 (.ops [zm 16 7,qg 17 16,zm 7 17]))))))
 (zs [qau 6]
 .ret)))
theorem Tryz.known64:aS prog 64 pc64 38 [6]:=⟨f64,_,func64,rfl,by kernel_rfl,rfl,rfl⟩
def Tryz.pc65:PC:=
 (zs [qx 4]
 (zs [zm 5 0,zm 6 1,qo 7 97 5 6,qbf 8 7,zm 4 8]
 .ret))
theorem Tryz.known65:aS prog 65 pc65 9 [4]:=⟨f65,_,func65,rfl,by kernel_rfl,rfl,rfl⟩
def Tryz.pc66:PC:=
 (zs [qx 2]
 (zs [zm 3 0,qz 4 20 3,qat 5 4,zm 2 5]
 .ret))
theorem Tryz.known66:aS prog 66 pc66 6 [2]:=⟨f66,_,func66,rfl,by kernel_rfl,rfl,rfl⟩
def Tryz.pc67:PC:=
 (zs [qk 4 0 0,qm 5]
 (.seq (zs [zm 13 0,qi 14 13,zo 15 (.bin .gtr (.t 14) (.v (.int .i64 1024))),zm 16 15,ql 17 16 1,qbe 18 16 17,zg 19 16 false (.bin .gtr (.t 18) (.v (.int .i64 1024))),qp 20 16 19]
 (zc 20 (zs [qk 4 0 0,qdd 5]
 .ret) .skip))
 (zs [zo 21 (.mkM),zm 6 21]
 (zs [zm 22 6,zm 23 0,qo 24 98 22 23,zm 25 6,zm 26 1,qo 27 98 25 26,zm 7 24,zm 8 27]
 (zs [zm 28 7,zm 29 8,qo 30 99 28 29,zm 9 30]
 (zs [qk 10 0 0]
 (.seq (zs [qm 11,qm 12]
 (zl 0 ((.seq (zs [zm 31 11,zm 32 7,qi 33 32,qh 34 31 33,zm 35 34,ql 36 35 12,ql 37 35 8,qbe 38 35 37,zg 39 35 false (.bin .lss (.t 36) (.t 38)),qp 40 35 39]
 (zx 40 0))
 (.block 1 (.block 2 (.seq (.aK [] 19 [zm 49 11,zm 50 7,qi 51 50,qh 52 49 51,zm 53 52,qj 54 53 12,qj 55 53 8,qbm 56 53 55,zg 57 53 true (.bin .lss (.t 54) (.t 56)),qn 58 53 57,zm 59 58,qj 60 59 7,qj 61 59 11,qaa 62 59 1 60 61,qae 63 59 62,qj 64 59 8,qj 65 59 12,qaa 66 59 1 64 65,qae 67 59 66,qcb 68 59 63 67,qn 69 59 68,zm 48 69])
 (zc 48 (zs [zm 70 10,zm 71 11,zm 72 12,zo 73 (.build zC11 [(0,1,zi),(1,1,(.t 71)),(2,1,(.t 72))]),qbq 74 138 1 0 3 73,qak 75 131 138 3 24 70 74,zm 10 75]
 (zs [zm 76 11,qg 77 76,zm 11 77]
 (.ops [zm 78 12,qg 79 78,zm 12 79]))) (.seq (.aK [] 26 [zm 81 11,zm 82 7,qi 83 82,qh 84 81 83,zm 85 84,qj 86 85 12,qj 87 85 8,qbm 88 85 87,qcb 89 85 86 88,qj 90 85 89,ql 91 90 9,ql 92 90 11,qcx 93 90 92,qas 94 90 1 91 93,qal 95 90 94,ql 96 90 12,qas 97 90 1 95 96,qal 98 90 97,ql 99 90 9,ql 100 90 11,qas 101 90 1 99 100,qal 102 90 101,ql 103 90 12,qcx 104 90 103,qas 105 90 1 102 104,qal 106 90 105,zg 107 90 false (.bin .geq (.t 98) (.t 106)),qbh 108 85 90 107,qn 109 85 108,zm 80 109])
 (zc 80 (zs [zm 110 10,zm 111 11,zo 112 (.build zC11 [(0,1,zj),(1,1,(.t 111))]),qbq 113 138 1 0 3 112,qak 114 131 138 3 24 110 113,zm 10 114]
 (.ops [zm 115 11,qg 116 115,zm 11 116])) (zs [zm 41 10,zm 42 12,zo 43 (.build zC11 [(0,1,(.v (.int .i64 2))),(2,1,(.t 42))]),qbq 44 138 1 0 3 43,qak 45 131 138 3 24 41 44,zm 10 45]
 (.ops [zm 46 12,qg 47 46,zm 12 47]))))))))))))
 (zs [zm 117 10,zm 4 117,qm 5]
 .ret))))))))
theorem Tryz.known67:aS prog 67 pc67 118 [4,5]:=⟨f67,_,func67,rfl,by kernel_rfl,rfl,rfl⟩
def Tryz.pc68:PC:=
 (zs [qy 3 81 1,qk 4 0 0]
 (.seq (.seq (.aK [] 11 [zm 7 0,qw 8 7,qb 9 0 8,qe 10 9,qb 11 0 3,qe 12 11,qb 13 1 3,qe 14 13,qcu 15 3 10 12 14,qi 16 15,qm 17])
 (zl 0 ((zs [qh 18 17 16]
 (.seq (zx 18 0)
 (.seq (.block 1 (zs [qa 19 3 15 17,qc 20 3 19,qdg 6 75,qf 3 6 20]
 (zs [qb 21 1 6,qe 22 21]
 (zc 22 (.ops [zm 23 4,zo 24 (.fl 9 zC13 1 [(0,1,(.v (.string ⟨#[10]⟩)))]),qv 25 23 9 1 16 23 24,zm 4 25]) (.ops [zm 26 4,qb 27 0 6,qe 28 27,qbx 29 35 28,qb 30 33 29,qe 31 30,qba 32 9 1 0 1 31,qv 33 23 9 1 16 26 32,zm 4 33])))))
 (.ops [qg 34 17,zm 17 34])))))))
 (zs [zm 35 4,zm 4 35]
 .ret)))
theorem Tryz.known68:aS prog 68 pc68 36 [4]:=⟨f68,_,func68,rfl,by kernel_rfl,rfl,rfl⟩
def Tryz.pc69:PC:=
 (zs [qda 3]
 (.seq (zs [qe 4 0,qat 5 4]
 (zc 5 (zs [qe 6 1,qe 7 2,qe 8 2,zo 9 (.build zC9 [(0,1,(.t 7)),(1,1,(.t 8))]),zo 10 (.fl 84 zC9 1 [(0,3,(.t 9))]),qaw 11 79 84 3 40 6 10,qf 1 1 11]
 (.ops [⟨none,none,.st 1 (.t 0) zt⟩])) .skip))
 (zs [qe 12 1,qe 13 1,qi 14 13,qab 15 14,qa 16 3 12 15,zm 3 16]
 .ret)))
theorem Tryz.known69:aS prog 69 pc69 17 [3]:=⟨f69,_,func69,rfl,by kernel_rfl,rfl,rfl⟩
def Tryz.pc70:PC:=
 (zs [qx 4]
 (zs [zm 5 0,qw 6 5,qb 7 2 6,qe 8 7,zm 9 1,qa 10 1 8 9,qe 11 10,zm 12 11,qj 13 12 0,zg 14 12 true (.cF (.t 13)),qac 15 12 0 14,qae 16 12 15,qj 17 12 1,qaa 18 12 3 16 17,qac 19 12 1 18,qae 20 12 19,qbj 21 12 20,qn 22 12 21,zm 4 22]
 .ret))
theorem Tryz.known70:aS prog 70 pc70 23 [4]:=⟨f70,_,func70,rfl,by kernel_rfl,rfl,rfl⟩
def Tryz.pc72:PC:=
 (zs [qy 2 27 0,qy 3 27 1,qm 4]
 (.seq (.aK [0,1,0,4,15,0,32,0,128] 9 [qb 5 0 2,zo 6 (.slA 32 (.t 5)),qb 7 0 3,zo 8 (.slA 32 (.t 7)),qo 9 103 6 8,qb 10 32 2,qe 11 10,qb 12 32 3,qe 13 12,qo 14 104 11 13,zo 15 (.fl 3 [.int .i64 0,.int .i64 0] 2 [(0,1,(.t 9)),(1,1,(.t 14))]),qz 16 102 15,zm 4 16])
 .ret))
theorem Tryz.known72:aS prog 72 pc72 17 [4]:=⟨f72,_,func72,rfl,by kernel_rfl,rfl,rfl⟩
def Tryz.pc73:PC:=
 (zs [qk 2 0 0]
 (zs [zm 6 0,qz 7 105 6,zm 3 7]
 (zs [qk 4 0 0]
 (.seq (zs [qm 5]
 (zl 0 ((.seq (zs [zm 8 5,zm 9 3,qi 10 9,qh 11 8 10]
 (zx 11 0))
 (.seq (.block 1 (zs [zm 14 3,zm 15 5,qa 16 35 14 15,qb 17 34 16,qe 18 17]
 (zc 18 (.ops [zm 19 4,zm 20 3,zm 21 5,qa 22 35 20 21,qc 23 35 22,qbb 24 145 1 0 35 23,qr 25 142 145 35 64 19 24,zm 4 25]) .skip)))
 (.ops [zm 12 5,qg 13 12,zm 5 13]))))))
 (zs [zm 26 4,zm 2 26]
 .ret)))))
theorem Tryz.known73:aS prog 73 pc73 27 [2]:=⟨f73,_,func73,rfl,by kernel_rfl,rfl,rfl⟩
def Tryz.pc74:PC:=
 (zs [qx 6]
 (.seq (zs [qm 7]
 (zl 0 ((.seq (zs [zm 8 7,zm 9 1,qi 10 9,qh 11 8 10]
 (zx 11 0))
 (.seq (.block 1 (.seq (.aK [] 15 [zm 14 7,zm 15 2,qar 16 14 15,zm 17 16,qj 18 17 0,qj 19 17 1,qj 20 17 2,qaa 21 17 35 19 20,qac 22 17 0 21,qag 23 17 33 22,qj 24 17 1,qj 25 17 7,qaa 26 17 35 24 25,qac 27 17 0 26,qag 28 17 33 27,zg 29 17 true (.call 75 [(.t 18),(.t 23),(.t 28)]),qbj 30 17 29,qn 31 17 30])
 (zc 31 (zs [qx 6]
 .ret) .skip)))
 (.ops [zm 12 7,qg 13 12,zm 7 13]))))))
 (zs [qbo 6]
 .ret)))
theorem Tryz.known74:aS prog 74 pc74 32 [6]:=⟨f74,_,func74,rfl,by kernel_rfl,rfl,rfl⟩
def Tryz.pc75:PC:=
 (zs [qy 4 27 1,qy 5 27 2,qx 6]
 (zs [zm 7 0,qc 8 33 4,qc 9 33 5,qah 10 63 7 8 9,zm 11 10,ql 12 11 0,qt 13 11 33 5,qt 14 11 33 4,zg 15 11 false (.call 63 [(.t 12),(.t 13),(.t 14)]),qp 16 11 15,zm 6 16]
 .ret))
theorem Tryz.known75:aS prog 75 pc75 17 [6]:=⟨f75,_,func75,rfl,by kernel_rfl,rfl,rfl⟩
def Tryz.pc76:PC:=
 (zs [qx 4]
 (.seq (zs [zm 6 1,qi 7 6,zm 8 0,qi 9 8,qcs 10 7 9]
 (zc 10 (zs [qx 4]
 .ret) .skip))
 (.seq (zs [qm 5]
 (zl 0 ((.seq (zs [zm 11 5,zm 12 1,qi 13 12,qh 14 11 13]
 (zx 14 0))
 (.seq (.block 1 (.seq (.aK [] 8 [zm 17 0,zm 18 5,qa 19 1 17 18,qe 20 19,zm 21 1,zm 22 5,qa 23 1 21 22,qe 24 23,qar 25 20 24])
 (zc 25 (zs [qx 4]
 .ret) .skip)))
 (.ops [zm 15 5,qg 16 15,zm 5 16]))))))
 (zs [qbo 4]
 .ret))))
theorem Tryz.known76:aS prog 76 pc76 26 [4]:=⟨f76,_,func76,rfl,by kernel_rfl,rfl,rfl⟩
def Tryz.pc77:PC:=
 (zs [qk 2 0 0]
 (zs [qk 3 0 0]
 (.seq (zs [qm 4]
 (zl 0 ((.seq (zs [zm 6 4,zm 7 0,qi 8 7,qh 9 6 8]
 (zx 9 0))
 (.seq (.block 1 (.seq (zs [zm 12 0,zm 13 4,qa 14 3 12 13,qb 15 1 14,qe 16 15]
 (zc 16 (.ops [zm 17 3,qco 18 9 1 0 1,qv 19 23 9 1 16 17 18,zm 3 19]) .skip))
 (.seq (zs [qm 5]
 (zl 2 ((.seq (zs [zm 20 5,zm 21 0,zm 22 4,qa 23 3 21 22,qb 24 0 23,qe 25 24,qi 26 25,qh 27 20 26]
 (zx 27 2))
 (.seq (.block 3 (.seq (zs [zm 30 0,zm 31 4,qa 32 3 30 31,qb 33 1 32,qe 34 33,zm 35 34,qj 36 35 0,qj 37 35 4,qaa 38 35 3 36 37,qac 39 35 2 38,qae 40 35 39,qj 41 35 5,qao 42 35 106 40 41,qn 43 35 42]
 (zc 43 (.ops [zm 44 3,qcp 45 9 1 0 1,qv 46 23 9 1 16 44 45,zm 3 46]) .skip))
 (.ops [zm 47 3,zm 48 0,zm 49 4,qa 50 3 48 49,qb 51 0 50,qe 52 51,zm 53 5,qa 54 35 52 53,qb 55 33 54,qe 56 55,qba 57 9 1 0 1 56,qv 58 23 9 1 16 47 57,zm 3 58])))
 (.ops [zm 28 5,qg 29 28,zm 5 29]))))))
 (zs [zm 59 0,zm 60 4,qa 61 3 59 60,qb 62 1 61,qe 63 62]
 (zc 63 (.ops [zm 64 3,qcq 65 9 1 0 1,qv 66 23 9 1 16 64 65,zm 3 66]) .skip)))))
 (.ops [zm 10 4,qg 11 10,zm 4 11]))))))
 (zs [zm 67 3,zm 2 67]
 .ret))))
theorem Tryz.known77:aS prog 77 pc77 68 [2]:=⟨f77,_,func77,rfl,by kernel_rfl,rfl,rfl⟩
def Tryz.pc78:PC:=
 (zs [qx 2]
 (.seq (zs [qm 3]
 (zl 0 ((.seq (zs [zm 4 3,zm 5 0,qdi 6 5,qh 7 4 6]
 (zx 7 0))
 (.seq (.block 1 (zs [zm 10 0,zm 11 3,zo 12 (.eG (.t 10) (.t 11)),zo 13 (.bin .neq (.t 12) (.v (.int .u8 9))),zm 14 13,qj 15 14 0,qj 16 14 3,zg 17 14 true (.eG (.t 15) (.t 16)),zg 18 14 true (.bin .lss (.t 17) (.v (.int .u8 32))),qj 19 14 18,ql 20 19 0,ql 21 19 3,zg 22 19 false (.eG (.t 20) (.t 21)),zg 23 19 false (.bin .gtr (.t 22) (.v (.int .u8 126))),qbh 24 14 19 23,qn 25 14 24]
 (zc 25 (zs [qx 2]
 .ret) .skip)))
 (.ops [zm 8 3,qg 9 8,zm 3 9]))))))
 (zs [zm 26 0,qdi 27 26,zo 28 (.bin .leq (.t 27) (.v (.int .i64 80))),zm 2 28]
 .ret)))
theorem Tryz.known78:aS prog 78 pc78 29 [2]:=⟨f78,_,func78,rfl,by kernel_rfl,rfl,rfl⟩
def Tryz.pc79:PC:=
 (zs [qx 2]
 (.seq (zs [zm 4 0,qdi 5 4,zo 6 (.bin .neq (.t 5) (.v (.int .i64 7))),zm 7 6,ql 8 7 0,zg 9 7 false (.eG (.t 8) zi),zg 10 7 false (.bin .neq (.t 9) (.v (.int .u8 62))),ql 11 7 10,qj 12 11 0,zg 13 11 true (.eG (.t 12) zi),zg 14 11 true (.bin .neq (.t 13) (.v (.int .u8 61))),qbp 15 7 11 14,ql 16 7 15,qj 17 16 0,zg 18 16 true (.eG (.t 17) zi),zg 19 16 true (.bin .neq (.t 18) (.v (.int .u8 60))),qbp 20 7 16 19,qp 21 7 20]
 (zc 21 (zs [qx 2]
 .ret) .skip))
 (.seq (zs [qdl 3]
 (zl 0 ((.seq (zs [zm 22 3,zo 23 (.bin .lss (.t 22) (.v (.int .i64 7)))]
 (zx 23 0))
 (.seq (.block 1 (.seq (.aK [] 5 [zm 26 0,zm 27 3,zo 28 (.eG (.t 26) (.t 27)),zm 29 0,zo 30 (.eG (.t 29) zi),qar 31 28 30])
 (zc 31 (zs [qx 2]
 .ret) .skip)))
 (.ops [zm 24 3,qg 25 24,zm 3 25]))))))
 (zs [qbo 2]
 .ret))))
theorem Tryz.known79:aS prog 79 pc79 32 [2]:=⟨f79,_,func79,rfl,by kernel_rfl,rfl,rfl⟩
def Tryz.pc80:PC:=
 (zs [qk 8 0 0,qm 9]
 (zs [qk 10 0 0]
 (.seq (zs [zm 18 1,zm 11 18]
 (zl 0 ((.seq (zs [zm 19 11,zm 20 2,qh 21 19 20]
 (zx 21 0))
 (.seq (.block 1 (zs [zm 24 0,zm 25 11,qa 26 3 24 25,qb 27 1 26,qe 28 27]
 (zc 28 (.ops [zm 29 10,zo 30 (.fl 9 zC13 1 [(0,1,(.v (.string ⟨#[10]⟩)))]),qv 31 23 9 1 16 29 30,zm 10 31]) (.ops [zm 32 10,zm 33 0,zm 34 11,qa 35 3 33 34,qb 36 0 35,qe 37 36,qbx 38 35 37,qb 39 33 38,qe 40 39,qba 41 9 1 0 1 40,qv 42 23 9 1 16 32 41,zm 10 42]))))
 (.ops [zm 22 11,qg 23 22,zm 11 23]))))))
 (zs [zm 44 10,zm 45 3,qo 46 107 44 45,zm 43 46,qu 47 0 43,qu 48 1 43,zm 12 47,zm 13 48]
 (.seq (zs [zm 49 13,qcd 50 49]
 (zc 50 (zs [zm 51 13,qk 8 0 0,zm 9 51]
 .ret) .skip))
 (zs [qk 14 0 0]
 (zs [zm 52 1,zm 15 52]
 (.seq (zs [qm 16]
 (zl 2 ((.seq (zs [zm 53 16,zm 54 12,qi 55 54,qh 56 53 55]
 (zx 56 2))
 (.seq (.block 3 (zs [zm 59 12,zm 60 16,qa 61 3 59 60,qb 62 0 61,qe 63 62,zm 64 15,zo 65 (.build zC10 [(0,1,(.t 63)),(1,1,(.t 64))]),zo 17 (.al 96 zC10),qf 3 17 65]
 (.seq (zs [qb 66 0 17,qe 67 66,qdb 68 67]
 (zc 68 (.ops [zm 69 3,zm 70 12,zm 71 16,qa 72 3 70 71,qb 73 2 72,qe 74 73,qa 75 1 69 74,qe 76 75,qb 77 2 17,qf 1 77 76]) (.ops [zm 78 15,qg 79 78,zm 15 79])))
 (.ops [zm 80 14,qc 81 3 17,zo 82 (.fl 96 zC10 1 [(0,3,(.t 81))]),qbl 83 92 96 3 32 80 82,zm 14 83]))))
 (.ops [zm 57 16,qg 58 57,zm 16 58]))))))
 (zs [zm 84 14,zm 8 84,qm 9]
 .ret)))))))))
theorem Tryz.known80:aS prog 80 pc80 85 [8,9]:=⟨f80,_,func80,rfl,by kernel_rfl,rfl,rfl⟩
def Tryz.pc81:PC:=
 (zs [qy 3 27 1,qk 4 0 0]
 (zs [qm 5]
 (.seq (zl 0 ((.seq (.seq (.aK [] 10 [zm 7 5,zm 8 0,qi 9 8,qh 10 7 9,zm 11 10,qj 12 11 0,qj 13 11 5,qaa 14 11 33 12 13,qag 15 11 33 14,qag 16 11 33 3,qao 17 11 108 15 16,qn 18 11 17])
 (zx 18 0))
 (.block 1 (.ops [zm 19 5,qg 20 19,zm 5 20])))))
 (zs [qk 6 0 0]
 (zs [zm 21 6,zm 22 0,zm 23 5,qca 24 33 22 23,qd 25 44 27 33 40 21 24,zm 6 25]
 (zs [zm 26 6,qc 27 33 3,qam 28 27 1 0 33 27,qd 29 44 27 33 40 26 28,zm 6 29]
 (zs [zm 30 6,zm 31 0,zm 32 5,qcn 33 33 31 32,qd 34 44 27 33 40 30 33,zm 4 34]
 .ret)))))))
theorem Tryz.known81:aS prog 81 pc81 35 [4]:=⟨f81,_,func81,rfl,by kernel_rfl,rfl,rfl⟩
def Tryz.pc82:PC:=
 (zs [qm 4]
 (.seq (zs [zm 6 0,qi 7 6,qm 8]
 (zl 0 ((zs [qh 9 8 7]
 (.seq (zx 9 0)
 (.seq (.block 1 (zs [zm 10 8,zm 5 10]
 (zs [zm 11 1,zm 12 0,zm 13 5,qa 14 1 12 13,qe 15 14,qcf 16 11 15]
 (zc 16 (zs [zm 17 5,zm 4 17]
 .ret) .skip))))
 (.ops [qg 18 8,zm 8 18])))))))
 (zs [qau 4]
 .ret)))
theorem Tryz.known82:aS prog 82 pc82 19 [4]:=⟨f82,_,func82,rfl,by kernel_rfl,rfl,rfl⟩
def Tryz.pc83:PC:=
 (zs [qm 4]
 (.seq (zs [zm 6 0,qi 7 6,qm 8]
 (zl 0 ((zs [qh 9 8 7]
 (.seq (zx 9 0)
 (.seq (.block 1 (zs [zm 10 8,zm 5 10]
 (zs [zm 11 1,zm 12 0,zm 13 5,qa 14 35 12 13,qc 15 35 14,qdf 16 11 15]
 (zc 16 (zs [zm 17 5,zm 4 17]
 .ret) .skip))))
 (.ops [qg 18 8,zm 8 18])))))))
 (zs [qau 4]
 .ret)))
theorem Tryz.known83:aS prog 83 pc83 19 [4]:=⟨f83,_,func83,rfl,by kernel_rfl,rfl,rfl⟩
def Tryz.pc84:PC:=
 (zs [zo 2 (.mov (.v (.map none)))]
 (zs [zm 9 0,qw 10 9,qb 11 2 10,qe 12 11,zo 13 (.lenM (.t 12)),zo 14 (.more (.other (.gen (.makeMap 153 (some (.tmp 13)))))),zm 3 14]
 (.seq (zs [zm 15 0,qw 16 15,qb 17 2 16,qe 18 17,qcv 19 109 18]
 (zl 0 ((zs [qcr 20 19,qu 21 0 20]
 (.seq (zx 21 0)
 (.block 1 (zs [qcw 22 19,qu 23 0 22,qbc 4 27,qf 33 4 23]
 (.aK [0,0,3,7,3,19] 6 [zm 24 3,qc 25 33 4,qaj 26 153 24 25,zo 27 (.bin .add (.t 26) zi),qce 28 153 24 25,qu 29 1 28,qbn 153 24 29 27]))))))))
 (.seq (zs [zm 30 0,qw 31 30,qb 32 2 31,qe 33 32,qcv 34 109 33]
 (zl 2 ((zs [qcr 35 34,qu 36 0 35]
 (.seq (zx 36 2)
 (.block 3 (zs [qcw 37 34,qu 38 1 37,zo 6 (.al 121 zC7),qf 4 6 38]
 (zs [qb 39 3 6,qe 40 39,qi 41 40,qm 42]
 (zl 4 ((zs [qh 43 42 41]
 (.seq (zx 43 4)
 (.seq (.block 5 (zs [qa 44 33 40 42,qc 45 33 44,qbc 8 27,qf 33 8 45]
 (.aK [0,0,3,7,3,19] 6 [zm 46 3,qc 47 33 8,qaj 48 153 46 47,qg 49 48,qce 50 153 46 47,qu 51 1 50,qbn 153 46 51 49])))
 (.ops [qg 52 42,zm 42 52]))))))))))))))
 (zs [zm 53 3,zm 2 53]
 .ret)))))
theorem Tryz.known84:aS prog 84 pc84 54 [2]:=⟨f84,_,func84,rfl,by kernel_rfl,rfl,rfl⟩
def Tryz.pc85:PC:=
 (zs [zm 4 0,zm 5 1,zo 6 (.more (.other (.gen (.call { callee:=(.invoke (.tmp 4) "Push"),args:=#[(.tmp 5)],argTypes:=#[20] }))))]
 (.ops [zm 7 0,zm 8 0,qbs 9 8,qab 10 9,qo 11 109 7 10]))
theorem Tryz.known85:aS prog 85 pc85 12 []:=⟨f85,_,func85,rfl,by kernel_rfl,rfl,rfl⟩
def Tryz.pc86:PC:=
 (zs [qm 2]
 (zs [zm 3 0,qi 4 3,zm 2 4]
 .ret))
theorem Tryz.known86:aS prog 86 pc86 5 [2]:=⟨f86,_,func86,rfl,by kernel_rfl,rfl,rfl⟩
def Tryz.pc87:PC:=
 (zs [zo 2 (.mov (.v .nilIface))]
 (zs [zm 4 0,qbs 5 4,qab 6 5,zm 3 6]
 (zs [zm 7 0,zm 8 3,zo 9 (.more (.other (.gen (.call { callee:=(.invoke (.tmp 7) "Swap"),args:=#[(.const (.int .i64 0)),(.tmp 8)],argTypes:=#[3,3] }))))]
 (zs [zm 10 0,zm 11 3,zo 12 (.call 110 [(.t 10),zi,(.t 11)])]
 (zs [zm 13 0,zo 14 (.more (.other (.gen (.call { callee:=(.invoke (.tmp 13) "Pop"),args:=#[],argTypes:=#[] })))),zm 2 14]
 .ret)))))
theorem Tryz.known87:aS prog 87 pc87 15 [2]:=⟨f87,_,func87,rfl,by kernel_rfl,rfl,rfl⟩
def Tryz.pc88:PC:=
 (zs [qbc 0 27]
 (zs [qbz 1 32 1,qf 33 0 1]
 .ret))
theorem Tryz.known88:KnownC prog 88 pc88 2 0 (some 33):=⟨f88,_,_,func88,rfl,by kernel_rfl,rfl,rfl,by kernel_rfl⟩
def Tryz.pc90:PC:=
 (zs [qbc 0 27]
 (zs [qby 1 32 1,qf 33 0 1]
 .ret))
theorem Tryz.known90:KnownC prog 90 pc90 2 0 (some 33):=⟨f90,_,_,func90,rfl,by kernel_rfl,rfl,rfl,by kernel_rfl⟩
def Tryz.pc91:PC:=
 (zs [qy 3 27 1,qx 4]
 (zs [zm 5 0,qc 6 33 3,qo 7 111 5 6,qbf 8 7,zm 4 8]
 .ret))
theorem Tryz.known91:aS prog 91 pc91 9 [4]:=⟨f91,_,func91,rfl,by kernel_rfl,rfl,rfl⟩
def Tryz.pc92:PC:=
 (zs [qm 4]
 (.seq (zs [zm 6 0,qi 7 6,qm 8]
 (zl 0 ((zs [qh 9 8 7]
 (.seq (zx 9 0)
 (.seq (.block 1 (zs [zm 10 8,zm 5 10]
 (zs [zm 11 1,zm 12 0,zm 13 5,qa 14 33 12 13,qc 15 33 14,qdf 16 11 15]
 (zc 16 (zs [zm 17 5,zm 4 17]
 .ret) .skip))))
 (.ops [qg 18 8,zm 8 18])))))))
 (zs [qau 4]
 .ret)))
theorem Tryz.known92:aS prog 92 pc92 19 [4]:=⟨f92,_,func92,rfl,by kernel_rfl,rfl,rfl⟩
def Tryz.pc93:PC:=
 (zs [qy 3 27 1,qk 4 0 0]
 (.seq (.seq (.aK [0,0] 2 [qc 5 33 3,qbd 6 90,qai 7 27 5 6])
 (zc 7 (zs [zm 8 0,qw 9 8,qb 10 3 9,qe 11 10,zm 4 11]
 .ret) .skip))
 (.seq (.aK [] 5 [zm 12 0,qw 13 12,qb 14 2 13,qe 15 14,qc 16 33 3,qaj 17 109 15 16,zo 18 (.fld 3 (.t 17)),zm 4 18])
 .ret)))
theorem Tryz.known93:aS prog 93 pc93 19 [4]:=⟨f93,_,func93,rfl,by kernel_rfl,rfl,rfl⟩
def Tryz.pc94:PC:=
 (zs [qy 5 27 1,qy 6 27 2]
 (zs [zm 11 0,qc 12 33 5,qo 13 93 11 12,qz 14 54 13,zm 8 14]
 (.seq (zs [zm 15 3]
 (zc 15 (.ops [zm 16 8,qc 17 33 6,qam 18 27 1 0 33 17,qd 19 44 27 33 40 16 18,zm 8 19]) (zs [zm 20 8,qc 21 33 6,qo 22 111 20 21,zm 9 22]
 (zs [zm 23 9,qbf 24 23]
 (zc 24 (.ops [zm 25 8,zm 26 9,zm 27 9,qg 28 27,qah 29 112 25 26 28,zm 8 29]) .skip)))))
 (.seq (.seq (.aK [0,0] 2 [qc 30 33 5,qbd 31 90,qai 32 27 30 31])
 (zc 32 (zs [zm 33 0,zm 34 8,qw 35 33,qb 36 3 35,qf 1 36 34]
 .ret) .skip))
 (.seq (.aK [0,1,3,7,0,31,0] 7 [zm 37 0,qw 38 37,qb 39 2 38,qe 40 39,qc 41 33 5,qaj 42 109 40 41,zo 10 (.al 121 zC7),qf 4 10 42])
 (zs [zm 43 8,qb 44 3 10,qf 1 44 43]
 (.aK [] 6 [zm 45 0,qw 46 45,qb 47 2 46,qe 48 47,qc 49 33 5,qc 50 4 10,qan 109 48 49 50])))))))
theorem Tryz.known94:aS prog 94 pc94 51 []:=⟨f94,_,func94,rfl,by kernel_rfl,rfl,rfl⟩
def Tryz.pc95:PC:=
 (zs [qk 2 0 0]
 (zs [qk 3 0 0]
 (.seq (zs [qm 4]
 (zl 0 ((.seq (zs [zm 7 4,zm 8 0,qi 9 8,qh 10 7 9]
 (zx 10 0))
 (.seq (.block 1 (zs [zm 13 0,zm 14 4,qa 15 102 13 14,qc 16 102 15,qz 17 59 16,zm 5 17]
 (.seq (zs [qm 6]
 (zl 2 ((.seq (zs [zm 18 6,zm 19 5,qi 20 19,qh 21 18 20]
 (zx 21 2))
 (.seq (.block 3 (zs [zm 24 6,qbu 25 24]
 (zc 25 (.aK [] 9 [zm 26 3,zm 27 0,zm 28 4,qa 29 102 27 28,qb 30 34 29,qc 31 33 30,zm 32 5,qbx 33 33 32,qc 34 33 33,qbw 35 27 2 0 33 31 33 33 34,qd 36 44 27 33 40 26 35,zm 3 36]) (.aK [] 10 [zm 37 3,zm 38 5,zm 39 6,qab 40 39,qa 41 33 38 40,qc 42 33 41,zm 43 5,zm 44 6,qa 45 33 43 44,qc 46 33 45,qbw 47 27 2 0 33 42 33 33 46,qd 48 44 27 33 40 37 47,zm 3 48]))))
 (.ops [zm 22 6,qg 23 22,zm 6 23]))))))
 (zs [zm 49 5,qi 50 49,qbv 51 50]
 (zc 51 (.aK [] 12 [zm 52 3,zm 53 5,zm 54 5,qi 55 54,qab 56 55,qa 57 33 53 56,qc 58 33 57,zm 59 0,zm 60 4,qa 61 102 59 60,qb 62 67 61,qc 63 33 62,qbw 64 27 2 0 33 58 33 33 63,qd 65 44 27 33 40 52 64,zm 3 65]) .skip)))))
 (.ops [zm 11 4,qg 12 11,zm 4 12]))))))
 (zs [zm 66 3,zm 2 66]
 .ret))))
theorem Tryz.known95:aS prog 95 pc95 67 [2]:=⟨f95,_,func95,rfl,by kernel_rfl,rfl,rfl⟩
def Tryz.pc96:PC:=
 (zs [qx 4]
 (zs [zm 5 0,qi 6 5,zm 7 1,qi 8 7,qde 9 6 8,zm 10 9,qj 11 10 0,qj 12 10 1,qbm 13 10 12,zg 14 10 true (.slS 1 (.t 11) none (some (.t 13))),qj 15 10 1,qao 16 10 113 14 15,qn 17 10 16,zm 4 17]
 .ret))
theorem Tryz.known96:aS prog 96 pc96 18 [4]:=⟨f96,_,func96,rfl,by kernel_rfl,rfl,rfl⟩
def Tryz.pc97:PC:=
 (zs [qm 4]
 (.seq (zs [zm 6 0,qi 7 6,qm 8]
 (zl 0 ((zs [qh 9 8 7]
 (.seq (zx 9 0)
 (.seq (.block 1 (zs [zm 10 8,zm 5 10]
 (zs [zm 11 1,zm 12 0,zm 13 5,qa 14 1 12 13,qe 15 14,qdf 16 11 15]
 (zc 16 (zs [zm 17 5,zm 4 17]
 .ret) .skip))))
 (.ops [qg 18 8,zm 8 18])))))))
 (zs [qau 4]
 .ret)))
theorem Tryz.known97:aS prog 97 pc97 19 [4]:=⟨f97,_,func97,rfl,by kernel_rfl,rfl,rfl⟩
def Tryz.pc98:PC:=
 (zs [qk 4 0 0]
 (zs [zm 10 1,qi 11 10,zo 12 (.dE 73 3 1 8 (.int .i64 0) zi (.t 11)),zm 5 12]
 (.seq (zs [zm 13 1,qi 14 13,qm 15]
 (zl 0 ((zs [qh 16 15 14]
 (.seq (zx 16 0)
 (.seq (.block 1 (zs [qa 17 1 13 15,qe 18 17,zm 7 18]
 (zs [zm 20 0,zm 21 7,zo 22 (.lookS (.int .i64 0) true (.t 20) (.t 21)),zm 19 22,qu 23 0 19,qu 24 1 19,zm 8 23,zm 9 24]
 (.seq (zs [zm 25 9,qat 26 25]
 (zc 26 (zs [zm 27 0,zo 28 (.lenM (.t 27)),zm 8 28]
 (.ops [zm 29 0,zm 30 7,zm 31 8,⟨none,none,.updS (.t 29) (.t 30) (.t 31)⟩])) .skip))
 (.ops [zm 32 5,zm 33 8,zo 34 (.fl 3 [.int .i64 0] 1 [(0,1,(.t 33))]),zo 35 (.app 73 3 1 8 (.int .i64 0) (.t 32) (.t 34)),zm 5 35])))))
 (.ops [qg 36 15,zm 15 36])))))))
 (zs [zm 37 5,zm 4 37]
 .ret))))
theorem Tryz.known98:aS prog 98 pc98 38 [4]:=⟨f98,_,func98,rfl,by kernel_rfl,rfl,rfl⟩
def Tryz.pc99:PC:=
 (zs [qk 4 0 0]
 (zs [zm 9 0,qi 10 9,qg 11 10,zo 12 (.dE 174 73 1 24 (.slice none 0 0) (.t 11) (.t 11)),zm 5 12]
 (zs [zm 13 5,zm 14 0,qi 15 14,zm 16 1,qi 17 16,qg 18 17,zo 19 (.dE 73 3 1 8 (.int .i64 0) (.t 18) (.t 18)),qa 20 1 13 15,qf 1 20 19]
 (.seq (zs [zm 21 0,qi 22 21,qab 23 22,zm 6 23]
 (zl 0 ((.seq (zs [zm 24 6,qbf 25 24]
 (zx 25 0))
 (.seq (.block 1 (zs [zm 28 1,qi 29 28,qg 30 29,zo 31 (.dE 73 3 1 8 (.int .i64 0) (.t 30) (.t 30)),zm 7 31]
 (.seq (zs [zm 32 1,qi 33 32,qab 34 33,zm 8 34]
 (zl 2 ((.seq (zs [zm 35 8,qbf 36 35]
 (zx 36 2))
 (.seq (.block 3 (.seq (.aK [] 15 [zm 39 7,zm 40 8,zm 41 5,zm 42 6,qg 43 42,qa 44 1 41 43,qe 45 44,zm 46 8,qa 47 1 45 46,qe 48 47,zm 49 7,zm 50 8,qg 51 50,qa 52 1 49 51,qe 53 52,zo 54 (.mnx true [(.t 48),(.t 53)]),qa 55 1 39 40,qf 1 55 54])
 (.seq (.aK [] 8 [zm 56 0,zm 57 6,qa 58 1 56 57,qe 59 58,zm 60 1,zm 61 8,qa 62 1 60 61,qe 63 62,qcf 64 59 63])
 (zc 64 (.ops [zm 65 7,zm 66 8,zm 67 5,zm 68 6,qg 69 68,qa 70 1 67 69,qe 71 70,zm 72 8,qg 73 72,qa 74 1 71 73,qe 75 74,qg 76 75,qa 77 1 65 66,qf 1 77 76]) .skip))))
 (.ops [zm 37 8,qab 38 37,zm 8 38]))))))
 (.ops [zm 78 5,zm 79 6,zm 80 7,qa 81 1 78 79,qf 1 81 80]))))
 (.ops [zm 26 6,qab 27 26,zm 6 27]))))))
 (zs [zm 82 5,zm 4 82]
 .ret)))))
theorem Tryz.known99:aS prog 99 pc99 83 [4]:=⟨f99,_,func99,rfl,by kernel_rfl,rfl,rfl⟩
def Tryz.pc102:PC:=
 (zs [qm 2]
 (zs [qm 3]
 (.seq (zs [zm 6 0,qi 7 6,qm 8]
 (zl 0 ((zs [qh 9 8 7]
 (.seq (zx 9 0)
 (.seq (.block 1 (zs [qa 10 1 6 8,qe 11 10,zm 5 11]
 (zs [zm 12 5,zm 13 3,qar 14 12 13]
 (zc 14 (zs [zm 15 5,zm 2 15]
 .ret) .skip))))
 (.ops [qg 16 8,zm 8 16])))))))
 (zs [zm 17 3,zm 2 17]
 .ret))))
theorem Tryz.known102:aS prog 102 pc102 18 [2]:=⟨f102,_,func102,rfl,by kernel_rfl,rfl,rfl⟩
def Tryz.pc103:PC:=
 (zs [qm 4]
 (zs [zm 5 0,zm 6 1,zo 7 (.more (.other (.xf 124 [(.t 5),(.t 6)]))),zm 4 7]
 .ret))
theorem Tryz.known103:aS prog 103 pc103 8 [4]:=⟨f103,_,func103,rfl,by kernel_rfl,rfl,rfl⟩
def Tryz.pc104:PC:=
 (zs [qm 4]
 (zs [zm 7 0,qz 8 125 7,zm 5 8]
 (zs [zm 9 1,qz 10 125 9,zm 6 10]
 (.seq (zs [zm 11 5]
 (zc 11 (.seq (zs [zm 12 6]
 (zc 12 (zs [qm 4]
 .ret) .skip))
 (zs [qau 4]
 .ret)) .skip))
 (.seq (zs [zm 13 6]
 (zc 13 (zs [qdl 4]
 .ret) .skip))
 (.seq (zs [zm 14 0,zm 15 1,qh 16 14 15]
 (zc 16 (zs [qau 4]
 .ret) .skip))
 (.seq (zs [zm 17 0,zm 18 1,qcs 19 17 18]
 (zc 19 (zs [qdl 4]
 .ret) .skip))
 (zs [qm 4]
 .ret))))))))
theorem Tryz.known104:aS prog 104 pc104 20 [4]:=⟨f104,_,func104,rfl,by kernel_rfl,rfl,rfl⟩
def Tryz.pc105:PC:=
 (zs [qk 2 0 0]
 (zs [zm 12 0,qz 13 58 12,zm 3 13]
 (zs [zm 14 0,qz 15 95 14,zm 4 15]
 (zs [qk 5 0 0]
 (.seq (zl 0 ((.seq (zs [zm 16 3,qi 17 16,qbv 18 17]
 (zx 18 0))
 (.block 1 (zs [qau 6]
 (.seq (zs [qm 7]
 (zl 2 ((.seq (zs [zm 19 7,zm 20 3,qi 21 20,qh 22 19 21]
 (zx 22 2))
 (.seq (.block 3 (zs [qbo 8]
 (.seq (zs [qm 9]
 (zl 4 ((.seq (zs [zm 25 9,qg 26 25,zm 27 4,qi 28 27,qh 29 26 28]
 (zx 29 4))
 (.seq (.block 5 (.seq (.aK [] 16 [zm 32 4,zm 33 9,qg 34 33,qa 35 33 32 34,qc 36 33 35,zm 37 3,zm 38 7,qa 39 33 37 38,qc 40 33 39,qai 41 27 36 40,zm 42 41,qj 43 42 3,qj 44 42 4,qj 45 42 9,qaa 46 42 33 44 45,qag 47 42 33 46,qao 48 42 60 43 47,qn 49 42 48])
 (zc 49 (.ops [qx 8]) .skip)))
 (.ops [zm 30 9,zo 31 (.bin .add (.t 30) (.v (.int .i64 2))),zm 9 31]))))))
 (.seq (.aK [] 13 [zm 50 8,zm 51 50,qj 52 51 6,zg 53 51 true (.bin .lss (.t 52) zi),qj 54 51 53,ql 55 54 3,ql 56 54 7,qas 57 54 33 55 56,qt 58 54 33 57,ql 59 54 3,ql 60 54 6,qas 61 54 33 59 60,qt 62 54 33 61,qaq 63 54 108 58 62,qbh 64 51 54 63,qn 65 51 64])
 (zc 65 (.ops [zm 66 7,zm 6 66]) .skip)))))
 (.ops [zm 23 7,qg 24 23,zm 7 24]))))))
 (.seq (zs [zm 67 6,qcm 68 67]
 (zc 68 (zs [zm 69 5,zm 2 69]
 .ret) .skip))
 (zs [zm 70 5,zm 71 0,zm 72 3,zm 73 6,qa 74 33 72 73,qc 75 33 74,qo 76 126 71 75,qbb 77 145 1 0 35 76,qr 78 142 145 35 64 70 77,zm 5 78]
 (zs [qk 10 0 0]
 (.seq (zs [qm 11]
 (zl 6 ((.seq (zs [zm 79 11,zm 80 3,qi 81 80,qh 82 79 81]
 (zx 82 6))
 (.seq (.block 7 (zs [zm 85 11,zm 86 6,qar 87 85 86]
 (zc 87 (.ops [zm 88 10,zm 89 3,zm 90 11,qa 91 33 89 90,qc 92 33 91,qam 93 27 1 0 33 92,qd 94 44 27 33 40 88 93,zm 10 94]) .skip)))
 (.ops [zm 83 11,qg 84 83,zm 11 84]))))))
 (.ops [zm 95 10,zm 3 95])))))))))))
 (zs [zm 96 5,zm 2 96]
 .ret))))))
theorem Tryz.known105:aS prog 105 pc105 97 [2]:=⟨f105,_,func105,rfl,by kernel_rfl,rfl,rfl⟩
def Tryz.pc106:PC:=
 (zs [qx 4]
 (.seq (zs [qm 5]
 (zl 0 ((.seq (zs [zm 6 5,zm 7 0,qi 8 7,qh 9 6 8]
 (zx 9 0))
 (.seq (.block 1 (zs [zm 12 0,zm 13 5,qa 14 1 12 13,qe 15 14,zm 16 1,qcf 17 15 16]
 (zc 17 (zs [qbo 4]
 .ret) .skip)))
 (.ops [zm 10 5,qg 11 10,zm 5 11]))))))
 (zs [qx 4]
 .ret)))
theorem Tryz.known106:aS prog 106 pc106 18 [4]:=⟨f106,_,func106,rfl,by kernel_rfl,rfl,rfl⟩
def Tryz.pc107:PC:=
 (zs [qk 4 0 0,qm 5]
 (.seq (zs [zm 11 0,qi 12 11,zo 13 (.bin .gtr (.t 12) (.v (.int .i64 1024))),zm 14 13,ql 15 14 1,qbe 16 14 15,zg 17 14 false (.bin .gtr (.t 16) (.v (.int .i64 1024))),qp 18 14 17]
 (zc 18 (zs [qk 4 0 0,qdd 5]
 .ret) .skip))
 (zs [zm 19 0,zm 20 1,qo 21 127 19 20,zm 6 21]
 (zs [zm 22 1,qi 23 22,qg 24 23,zm 7 24]
 (zs [qm 8]
 (zs [qm 9]
 (zs [qk 10 0 0]
 (.seq (zl 0 ((.seq (zs [zm 25 8,zm 26 0,qi 27 26,qh 28 25 27,zm 29 28,ql 30 29 9,ql 31 29 1,qbe 32 29 31,zg 33 29 false (.bin .lss (.t 30) (.t 32)),qp 34 29 33]
 (zx 34 0))
 (.block 1 (.seq (.aK [] 19 [zm 35 8,zm 36 0,qi 37 36,qh 38 35 37,zm 39 38,qj 40 39 9,qj 41 39 1,qbm 42 39 41,zg 43 39 true (.bin .lss (.t 40) (.t 42)),qn 44 39 43,zm 45 44,qj 46 45 0,qj 47 45 8,qaa 48 45 1 46 47,qae 49 45 48,qj 50 45 1,qj 51 45 9,qaa 52 45 1 50 51,qae 53 45 52,qcb 54 45 49 53,qn 55 45 54])
 (zc 55 (zs [zm 56 10,zm 57 8,zm 58 9,zo 59 (.build zC11 [(0,1,zi),(1,1,(.t 57)),(2,1,(.t 58))]),qbq 60 186 1 0 3 59,qak 61 183 186 3 24 56 60,zm 10 61]
 (zs [zm 62 8,qg 63 62,zm 8 63]
 (.ops [zm 64 9,qg 65 64,zm 9 65]))) (.seq (.aK [] 28 [zm 66 8,zm 67 0,qi 68 67,qh 69 66 68,zm 70 69,qj 71 70 9,qj 72 70 1,qbm 73 70 72,qcb 74 70 71 73,qj 75 70 74,ql 76 75 6,ql 77 75 8,qcx 78 75 77,ql 79 75 7,zg 80 75 false (.bin .mul (.t 78) (.t 79)),ql 81 75 9,zg 82 75 false (.bin .add (.t 80) (.t 81)),qas 83 75 1 76 82,qal 84 75 83,ql 85 75 6,ql 86 75 8,ql 87 75 7,zg 88 75 false (.bin .mul (.t 86) (.t 87)),ql 89 75 9,zg 90 75 false (.bin .add (.t 88) (.t 89)),qcx 91 75 90,qas 92 75 1 85 91,qal 93 75 92,zg 94 75 false (.bin .geq (.t 84) (.t 93)),qbh 95 70 75 94,qn 96 70 95])
 (zc 96 (zs [zm 97 10,zm 98 8,zo 99 (.build zC11 [(0,1,zj),(1,1,(.t 98)),(2,1,zi)]),qbq 100 186 1 0 3 99,qak 101 183 186 3 24 97 100,zm 10 101]
 (.ops [zm 102 8,qg 103 102,zm 8 103])) (zs [zm 104 10,zm 105 9,zo 106 (.build zC11 [(0,1,(.v (.int .i64 2))),(1,1,zi),(2,1,(.t 105))]),qbq 107 186 1 0 3 106,qak 108 183 186 3 24 104 107,zm 10 108]
 (.ops [zm 109 9,qg 110 109,zm 9 110]))))))))))
 (zs [zm 111 10,zm 4 111,qm 5]
 .ret)))))))))
theorem Tryz.known107:aS prog 107 pc107 112 [4,5]:=⟨f107,_,func107,rfl,by kernel_rfl,rfl,rfl⟩
def Tryz.pc108:PC:=
 (zs [qy 2 27 0,qy 3 27 1,qx 4]
 (.seq (zs [qm 5]
 (zl 0 ((.seq (zs [zm 6 5,zo 7 (.bin .lss (.t 6) (.v (.int .i64 32)))]
 (zx 7 0))
 (.seq (.block 1 (.seq (.aK [] 8 [zm 10 5,qb 11 0 2,zo 12 (.ixA 32 1 (.t 11) (.t 10)),qe 13 12,zm 14 5,qb 15 0 3,zo 16 (.ixA 32 1 (.t 15) (.t 14)),qe 17 16,qar 18 13 17])
 (zc 18 (.seq (.aK [] 8 [zm 19 5,qb 20 0 2,zo 21 (.ixA 32 1 (.t 20) (.t 19)),qe 22 21,zm 23 5,qb 24 0 3,zo 25 (.ixA 32 1 (.t 24) (.t 23)),qe 26 25,qh 27 22 26,zm 4 27])
 .ret) .skip)))
 (.ops [zm 8 5,qg 9 8,zm 5 9]))))))
 (zs [qb 28 32 2,qe 29 28,qb 30 32 3,qe 31 30,qh 32 29 31,zm 4 32]
 .ret)))
theorem Tryz.known108:aS prog 108 pc108 33 [4]:=⟨f108,_,func108,rfl,by kernel_rfl,rfl,rfl⟩
def Tryz.pc109:PC:=
 (zl 0 ((.block 1 (zs [zm 5 1,qab 6 5,zo 7 (.bin .quo (.t 6) (.v (.int .i64 2))),zm 4 7]
 (.seq (zs [zm 8 4,zm 9 1,qcf 10 8 9,zm 11 10,ql 12 11 0,ql 13 11 1,ql 14 11 4,zg 15 11 false (.more (.other (.gen (.call { callee:=(.invoke (.tmp 12) "Less"),args:=#[(.tmp 13),(.tmp 14)],argTypes:=#[3,3] })))),qcc 16 11 15,qp 17 11 16]
 (zc 17 (.exit 0) .skip))
 (zs [zm 18 0,zm 19 4,zm 20 1,zo 21 (.more (.other (.gen (.call { callee:=(.invoke (.tmp 18) "Swap"),args:=#[(.tmp 19),(.tmp 20)],argTypes:=#[3,3] }))))]
 (.ops [zm 22 4,zm 1 22])))))))
theorem Tryz.known109:aS prog 109 pc109 23 []:=⟨f109,_,func109,rfl,by kernel_rfl,rfl,rfl⟩
def Tryz.pc110:PC:=
 (zs [qx 6]
 (zs [zm 11 1,zm 7 11]
 (.seq (zl 0 ((.block 1 (zs [zm 12 7,zo 13 (.bin .mul (.v (.int .i64 2)) (.t 12)),qg 14 13,zm 8 14]
 (.seq (zs [zm 15 8,zm 16 2,qde 17 15 16,zm 18 17,ql 19 18 8,zg 20 18 false (.bin .lss (.t 19) zi),qp 21 18 20]
 (zc 21 (.exit 0) .skip))
 (zs [zm 22 8,zm 9 22]
 (.seq (zs [zm 23 8,qg 24 23,zm 10 24]
 (zs [zm 25 10,zm 26 2,qh 27 25 26,zm 28 27,qj 29 28 0,qj 30 28 10,qj 31 28 8,zg 32 28 true (.more (.other (.gen (.call { callee:=(.invoke (.tmp 29) "Less"),args:=#[(.tmp 30),(.tmp 31)],argTypes:=#[3,3] })))),qn 33 28 32]
 (zc 33 (.ops [zm 34 10,zm 9 34]) .skip)))
 (.seq (zs [zm 35 0,zm 36 9,zm 37 7,zo 38 (.more (.other (.gen (.call { callee:=(.invoke (.tmp 35) "Less"),args:=#[(.tmp 36),(.tmp 37)],argTypes:=#[3,3] })))),qat 39 38]
 (zc 39 (.exit 0) .skip))
 (zs [zm 40 0,zm 41 7,zm 42 9,zo 43 (.more (.other (.gen (.call { callee:=(.invoke (.tmp 40) "Swap"),args:=#[(.tmp 41),(.tmp 42)],argTypes:=#[3,3] }))))]
 (.ops [zm 44 9,zm 7 44]))))))))))
 (zs [zm 45 7,zm 46 1,qcs 47 45 46,zm 6 47]
 .ret))))
theorem Tryz.known110:aS prog 110 pc110 48 [6]:=⟨f110,_,func110,rfl,by kernel_rfl,rfl,rfl⟩
def Tryz.pc111:PC:=
 (zs [qy 3 27 1,qm 4]
 (.seq (zs [zm 6 0,qi 7 6,qm 8]
 (zl 0 ((zs [qh 9 8 7]
 (.seq (zx 9 0)
 (.seq (.block 1 (zs [zm 10 8,zm 5 10]
 (.seq (.aK [] 5 [qc 11 33 3,zm 12 0,zm 13 5,qa 14 33 12 13,qc 15 33 14,qai 16 27 11 15])
 (zc 16 (zs [zm 17 5,zm 4 17]
 .ret) .skip))))
 (.ops [qg 18 8,zm 8 18])))))))
 (zs [qau 4]
 .ret)))
theorem Tryz.known111:aS prog 111 pc111 19 [4]:=⟨f111,_,func111,rfl,by kernel_rfl,rfl,rfl⟩
def Tryz.pc112:PC:=
 (zs [qk 6 0 0]
 (zs [zm 8 0,zm 9 1,zm 10 2,zm 11 0,qi 12 11,zo 13 (.more (.other (.gen (.slice 44 (.tmp 8) (some (.tmp 9)) (some (.tmp 10)) (some (.tmp 12))))))]
 (.seq (zs [zm 14 1,zm 15 2,qcf 16 14 15]
 (zc 16 (zs [zm 17 0,zm 6 17]
 .ret) .skip))
 (zs [zm 18 0,qi 19 18,zm 7 19]
 (.seq (.aK [] 6 [zm 20 0,zm 21 1,qca 22 33 20 21,zm 23 0,zm 24 2,qcn 25 33 23 24,qd 26 44 27 33 40 22 25,zm 0 26])
 (zs [zm 27 0,zm 28 0,qi 29 28,zm 30 7,qcu 31 33 27 29 30,⟨none,none,.more (.clr 27 33 (.agg #[zz,zz,zz,zz,zz,zz,zz,zz,zz,zz,zz,zz,zz,zz,zz,zz,zz,zz,zz,zz,zz,zz,zz,zz,zz,zz,zz,zz,zz,zz,zz,zz,.int .i64 0]) (.t 31))⟩]
 (zs [zm 32 0,zm 6 32]
 .ret)))))))
theorem Tryz.known112:aS prog 112 pc112 33 [6]:=⟨f112,_,func112,rfl,by kernel_rfl,rfl,rfl⟩
def Tryz.pc113:PC:=
 (zs [qx 4]
 (.seq (zs [zm 6 0,qi 7 6,zm 8 1,qi 9 8,qar 10 7 9]
 (zc 10 (zs [qx 4]
 .ret) .skip))
 (.seq (zs [zm 11 0,qi 12 11,qm 13]
 (zl 0 ((zs [qh 14 13 12]
 (.seq (zx 14 0)
 (.seq (.block 1 (zs [zm 15 13,zm 5 15]
 (.seq (.aK [] 8 [zm 16 0,zm 17 5,qa 18 1 16 17,qe 19 18,zm 20 1,zm 21 5,qa 22 1 20 21,qe 23 22,qar 24 19 23])
 (zc 24 (zs [qx 4]
 .ret) .skip))))
 (.ops [qg 25 13,zm 13 25])))))))
 (zs [qbo 4]
 .ret))))
theorem Tryz.known113:aS prog 113 pc113 26 [4]:=⟨f113,_,func113,rfl,by kernel_rfl,rfl,rfl⟩
def Tryz.pc125:PC:=
 (zs [qx 2]
 (zs [zm 3 0,zm 4 0,qar 5 3 4,zm 2 5]
 .ret))
theorem Tryz.known125:aS prog 125 pc125 6 [2]:=⟨f125,_,func125,rfl,by kernel_rfl,rfl,rfl⟩
def Tryz.pc126:PC:=
 (zs [qy 3 27 1,qdh 4 145]
 (zs [qc 9 33 3,zo 10 (.build zC3 [(0,33,(.t 9)),(34,1,zt)]),qdh 5 145,qf 35 5 10]
 (.seq (zs [qm 6]
 (zl 0 ((.seq (zs [zm 11 6,zm 12 0,qi 13 12,qh 14 11 13]
 (zx 14 0))
 (.seq (.block 1 (zs [zm 17 0,zm 18 6,qa 19 102 17 18,qc 20 102 19,qz 21 59 20,zm 7 21]
 (.seq (zs [qm 8]
 (zl 2 ((.seq (zs [zm 22 8,zm 23 7,qi 24 23,qh 25 22 24]
 (zx 25 2))
 (.seq (.block 3 (.seq (.aK [] 5 [zm 28 7,zm 29 8,qa 30 33 28 29,qc 31 33 30,qc 32 33 3,qai 33 27 31 32])
 (zc 33 (.ops [zm 34 0,zm 35 6,qa 36 102 34 35,qb 37 100 36,qe 38 37,zm 39 8,qa 40 1 38 39,qe 41 40,qb 42 33 5,qf 1 42 41]) .skip)))
 (.ops [zm 26 8,qg 27 26,zm 8 27]))))))
 (.seq (.aK [] 6 [zm 43 0,zm 44 6,qa 45 102 43 44,qb 46 101 45,qe 47 46,qc 48 33 3,qo 49 60 47 48])
 (zc 49 (.ops [qb 50 34 5,⟨none,none,.st 1 (.t 50) zf⟩]) .skip)))))
 (.ops [zm 15 6,qg 16 15,zm 6 16]))))))
 (zs [qc 51 35 5,qf 35 4 51]
 .ret))))
theorem Tryz.known126:KnownC prog 126 pc126 52 4 (some 35):=⟨f126,_,_,func126,rfl,by kernel_rfl,rfl,rfl,by kernel_rfl⟩
def Tryz.pc127:PC:=
 (zs [qk 4 0 0]
 (zs [zm 10 1,qi 11 10,qg 12 11,zm 5 12]
 (zs [zm 13 0,qi 14 13,qg 15 14,zm 16 5,qcg 17 15 16,zo 18 (.dE 73 3 1 8 (.int .i64 0) (.t 17) (.t 17)),zm 6 18]
 (.seq (zs [zm 19 0,qi 20 19,qab 21 20,zm 7 21]
 (zl 0 ((.seq (zs [zm 22 7,qbf 23 22]
 (zx 23 0))
 (.seq (.block 1 (zs [zm 26 1,qi 27 26,qab 28 27,zm 8 28]
 (zl 2 ((.seq (zs [zm 29 8,qbf 30 29]
 (zx 30 2))
 (.seq (.block 3 (zs [zm 33 6,zm 34 7,qg 35 34,zm 36 5,qcg 37 35 36,zm 38 8,qav 39 37 38,qa 40 1 33 39,qe 41 40,zm 9 41]
 (.seq (zs [zm 42 6,zm 43 7,zm 44 5,qcg 45 43 44,zm 46 8,qav 47 45 46,qg 48 47,qa 49 1 42 48,qe 50 49,zm 51 9,qcs 52 50 51]
 (zc 52 (.ops [zm 53 6,zm 54 7,zm 55 5,qcg 56 54 55,zm 57 8,qav 58 56 57,qg 59 58,qa 60 1 53 59,qe 61 60,zm 9 61]) .skip))
 (.seq (.seq (.aK [] 22 [zm 62 0,zm 63 7,qa 64 1 62 63,qe 65 64,zm 66 1,zm 67 8,qa 68 1 66 67,qe 69 68,qcf 70 65 69,zm 71 70,qj 72 71 6,qj 73 71 7,qcz 74 71 73,qj 75 71 5,zg 76 71 true (.bin .mul (.t 74) (.t 75)),qj 77 71 8,zg 78 71 true (.bin .add (.t 76) (.t 77)),qcz 79 71 78,qaa 80 71 1 72 79,qae 81 71 80,qcz 82 71 81,qj 83 71 9,zg 84 71 true (.bin .gtr (.t 82) (.t 83)),qn 85 71 84])
 (zc 85 (.ops [zm 86 6,zm 87 7,qg 88 87,zm 89 5,qcg 90 88 89,zm 91 8,qav 92 90 91,qg 93 92,qa 94 1 86 93,qe 95 94,qg 96 95,zm 9 96]) .skip))
 (.ops [zm 97 6,zm 98 7,zm 99 5,qcg 100 98 99,zm 101 8,qav 102 100 101,zm 103 9,qa 104 1 97 102,qf 1 104 103])))))
 (.ops [zm 31 8,qab 32 31,zm 8 32])))))))
 (.ops [zm 24 7,qab 25 24,zm 7 25]))))))
 (zs [zm 105 6,zm 4 105]
 .ret)))))
theorem Tryz.known127:aS prog 127 pc127 106 [4]:=⟨f127,_,func127,rfl,by kernel_rfl,rfl,rfl⟩
def Tryz.pc150:PC:=
 (zs [qx 6]
 (.seq (.aK [] 8 [zm 7 0,zm 8 1,qa 9 33 7 8,qc 10 33 9,zm 11 0,zm 12 2,qa 13 33 11 12,qc 14 33 13,qo 15 72 10 14,qcm 16 15,zm 6 16])
 .ret))
theorem Tryz.known150:aS prog 150 pc150 17 [6]:=⟨f150,_,func150,rfl,by kernel_rfl,rfl,rfl⟩
def Tryz.pc151:PC:=
 (zs [zo 2 (.mov (.v .nilIface))]
 (zs [zm 5 0,qw 6 5,qe 7 6,qi 8 7,qab 9 8,zm 3 9]
 (zs [zm 10 0,qw 11 10,qe 12 11,zm 13 3,qa 14 33 12 13,qc 15 33 14,qbc 4 27,qf 33 4 15]
 (zs [zm 16 0,zm 17 0,qw 18 17,qe 19 18,zm 20 3,qca 21 33 19 20,qw 22 16,qf 1 22 21]
 (zs [qc 23 33 4,qci 24 27 23,zm 2 24]
 .ret)))))
theorem Tryz.known151:aS prog 151 pc151 25 [2]:=⟨f151,_,func151,rfl,by kernel_rfl,rfl,rfl⟩
def Tryz.pc152:PC:=
 (zs [zm 7 1,zo 8 (.more (.other (.gen (.typeAssert (.tmp 7) 20 27 true)))),zm 6 8,qu 9 0 6,qu 10 1 6,qbc 4 27,qf 33 4 9,zm 5 10]
 (zs [zm 11 5]
 (zc 11 (.aK [0,0,2,6,0,16] 6 [zm 12 0,zm 13 0,qw 14 13,qe 15 14,qc 16 33 4,qam 17 27 1 0 33 16,qd 18 156 27 33 40 15 17,qw 19 12,qf 1 19 18]) .skip)))
theorem Tryz.known152:aS prog 152 pc152 20 []:=⟨f152,_,func152,rfl,by kernel_rfl,rfl,rfl⟩
def Tryz.pc153:PC:=
 (.aK [] 12 [zm 6 0,zm 7 1,zm 8 0,zm 9 2,zm 10 0,zm 11 2,qa 12 33 10 11,qc 13 33 12,zm 14 0,zm 15 1,qa 16 33 14 15,qc 17 33 16,qa 18 33 6 7,qf 33 18 13,qa 19 33 8 9,qf 33 19 17])
theorem Tryz.known153:aS prog 153 pc153 20 []:=⟨f153,_,func153,rfl,by kernel_rfl,rfl,rfl⟩
end Go.Proofs

namespace Go.SL
open Go.RowKit Go.ChangeShapes
theorem map_eraseIdx {γ δ:Type}(h:γ->δ):∀(l:List γ) (i:Nat),(l.eraseIdx i).map h=(l.map h).eraseIdx i
 |[],i=>by simp
 |a::l,0=>by simp
 |a::l,i+1=>by simp[map_eraseIdx h l i]
section plain
variable {α β γ:Type}[DecidableEq α]
def fo (l:List (α×β)) (a:α):Option β:=(l.find? fun p=>decide (a=p.1)).map (·.2)
def dM:List (α×β)->α->β->List (α×β)
 |[],a,b=>[(a,b)]
 |p::r,a,b=>if a=p.1 then(a,b)::r else p::dM r a b
def mdl (l:List (α×β)) (a:α):List (α×β):=l.filter fun p=>!decide (a=p.1)
def bu (l:List (α×β)):List α:=l.map (·.1)
theorem mgt_cons (p:α×β) (l:List (α×β)) (a:α):fo (p::l) a=if a=p.1 then some p.2 else fo l a:=by
 unfold fo;rw[List.find?_cons];by_cases h:a=p.1
 ·simp[h]
 simp[h]
theorem mgt_nil (a:α):fo ([]:List (α×β)) a=none:=rfl
theorem mgt_mpt (l:List (α×β)) (a c:α) (b:β):fo (dM l a b) c=if c=a then some b else fo l c:=by
 induction l with
 |nil=>simp only[dM,mgt_cons,mgt_nil]
 |cons p l ih=>
  simp only[dM];split
  ·rename_i h;simp only[mgt_cons];subst h;split<;>rfl
  rename_i h;simp only[mgt_cons,ih];by_cases h1:c=p.1
  ·subst h1;rw[if_pos rfl,if_neg (fun e=>h e.symm)]
   simp
  simp[h1]
theorem mgt_none {l:List (α×β)}{a:α}:fo l a=none↔a∉bu l:=by
 induction l with
 |nil=>simp[mgt_nil,bu]
 |cons p l ih=>
  rw[mgt_cons];unfold bu at ih ⊢;by_cases h:a=p.1
  ·simp[h]
  simp[h,ih]
theorem mgt_mem {l:List (α×β)}(hn:(bu l).Nodup) {a:α}{b:β}:fo l a=some b↔(a,b)∈l:=by
 induction l with
 |nil=>simp[mgt_nil]
 |cons p l ih=>
  obtain⟨c,d⟩:=p;unfold bu at hn ih;simp only[List.map_cons,List.nodup_cons] at hn;rw[mgt_cons];simp only[List.mem_cons,Prod.mk.injEq];by_cases h:a=c
  ·subst h;rw[if_pos rfl];constructor
   ·intro e;exact .inl ⟨rfl,(Option.some.inj e).symm⟩
   rintro (⟨_,e⟩|e)
   ·rw[e]
   exact absurd (List.mem_map.2 ⟨_,e,rfl⟩) hn.1
  rw[if_neg h,ih hn.2];simp[h]
theorem dZ {l:List (α×β)}{a:α}{b:β}(h:fo l a=some b):(a,b)∈l:=by
 unfold fo at h;obtain⟨p,hp,rfl⟩:=Option.map_eq_some_iff.1 h;have h1:=List.find?_some hp
 have h2:=List.mem_of_find?_eq_some hp
 simp only[decide_eq_true_eq] at h1;rw[h1];exact h2
theorem mks_mpt (l:List (α×β)) (a:α) (b:β):bu (dM l a b)=if a∈bu l then bu l else bu l++[a]:=by
 induction l with
 |nil=>simp[dM,bu]
 |cons p l ih=>
  simp only[dM];unfold bu at ih ⊢;by_cases h:a=p.1
  ·simp[h]
  simp only[h,if_false,List.map_cons,ih,List.mem_cons,false_or];split<;>simp
theorem mpt_nodup {l:List (α×β)}(h:(bu l).Nodup) (a:α) (b:β):(bu (dM l a b)).Nodup:=by
 rw[mks_mpt];split
 ·exact h
 rename_i hn;rw[List.nodup_append];exact⟨h,by simp,by simp;rintro c hc rfl;exact hn hc⟩
theorem mdl_nodup {l:List (α×β)}(h:(bu l).Nodup) (a:α):(bu (mdl l a)).Nodup:=by
 unfold bu mdl at *;exact h.sublist (List.filter_sublist.map _)
theorem mks_mdl (l:List (α×β)) (a:α):bu (mdl l a)=(bu l).filter fun c=>!decide (a=c):=by
 unfold bu mdl;rw[List.filter_map];rfl
theorem mpt_new {l:List (α×β)}{a:α}(h:∀b,(a,b)∉l) (b:β):dM l a b=l++[(a,b)]:=by
 induction l with
 |nil=>rfl
 |cons p l ih=>
  simp only[dM];rw[if_neg (fun e=>h p.2 (by rw[e];simp)),ih (fun b hb=>h b (by simp[hb]))]
  rfl
theorem mpt_set {l:List (α×β)}(hn:(bu l).Nodup) {a:α}{c:β}{j:Nat}(h:l[j]? = some (a,c)) (b:β):dM l a b=l.set j (a,b):=by
 induction l generalizing j with
 |nil=>simp at h
 |cons p l ih=>
  unfold bu at hn ih;simp only[List.map_cons,List.nodup_cons] at hn;cases j with
  |zero=>simp at h;simp[dM,h]
  |succ j=>
   simp at h;have hne:a≠p.1:=fun e=>hn.1 (by rw[<- e];exact List.mem_map.2 ⟨_,List.mem_of_getElem? h,rfl⟩)
   simp only[dM,if_neg hne,List.set_cons_succ,ih hn.2 h]
theorem mdl_new {l:List (α×β)}{a:α}(h:∀b,(a,b)∉l):mdl l a=l:=by
 unfold mdl;rw[List.filter_eq_self];intro p hp;simp only[Bool.not_eq_true',decide_eq_false_iff_not];intro e;exact h p.2 (by rw[e];exact hp)
end plain
section
variable {P:Program}{w0:World}{n:Nat}{T:TT}{S:SS}
variable {α β:Type}[DecidableEq α] {f:α->Value}{g:β->Value}{kt et t:TypeId}{ok:α->Prop}
def dU (f:α->Value) (g:β->Value) (l:List (α×β)):List (Value×Value):=l.map fun p=>(f p.1,g p.2)
structure Keys (P:Program) (kt:TypeId) (f:α->Value) (ok:α->Prop):Prop where
 law:WideMaps.KeyLaw P kt
 key:∀a,ok a->∃l,keyOf P kt (f a)=some l
 inj:∀a b,f a=f b->a=b
theorem mem_at {S:SS}{j b:Nat}{o:AO}(hk:S[j]? = some [(b,o)]):(b,o)∈S.flatten:=List.mem_flatten.2 ⟨_,List.mem_of_getElem? hk,List.mem_singleton.2 rfl⟩
theorem df.gmAt {w:World}{b:Nat}{es:List (Value×Value)}(h:df w0 S w) (hm:(b,AO.gm es)∈S.flatten) :
  w0.heap.size<=b/\∃en clk,w.heap[b]? = some (.map en clk)/\en.toList.map (fun e=>(e.key,e.val))=es/\(en.toList.map (·.born)).Nodup/\(∀e∈en.toList,e.born<clk)/\(en.toList.map (·.key)).Nodup:=h.own _ hm
theorem gmL_nodup {en:Array MapEntry}{l:List (α×β)}(he:en.toList.map (fun e=>(e.key,e.val))=dU f g l) (hn:(en.toList.map (·.key)).Nodup):(bu l).Nodup:=by
 have:en.toList.map (·.key)=(bu l).map f:=by
  have:=congrArg (List.map Prod.fst) he
  unfold dU at this;unfold bu;simpa[Function.comp_def] using this
 rw[this] at hn;unfold List.Nodup at hn ⊢;rw[List.pairwise_map] at hn;exact hn.imp fun h e=>h (by rw[e])
theorem gmL_get {en:Array MapEntry}{l:List (α×β)}(he:en.toList.map (fun e=>(e.key,e.val))=dU f g l) {j:Nat}{e:MapEntry}(h:en.toList[j]? = some e):∃a b,l[j]? = some (a,b)/\e.key=f a/\e.val=g b:=by
 have h1:(en.toList.map (fun e=>(e.key,e.val)))[j]? = some (e.key,e.val):=by simp[h]
 rw[he] at h1;unfold dU at h1;rw[List.getElem?_map,Option.map_eq_some_iff] at h1;obtain⟨p,h1,h2⟩:=h1;exact⟨p.1,p.2,h1,(congrArg Prod.fst h2).symm,(congrArg Prod.snd h2).symm⟩
theorem Keys.find (K:Keys P kt f ok) {en:Array MapEntry}{l:List (α×β)}(hl:∀p∈l,ok p.1) (he:en.toList.map (fun e=>(e.key,e.val))=dU f g l) (a:α) (ha:ok a) (w:World) :
  ((Instr.findKey kt (f a) en.toList).run P w=.ok none w/\∀b,(a,b)∉l) ∨
  ∃j e b,(Instr.findKey kt (f a) en.toList).run P w=.ok (some (j,e.val)) w/\en.toList[j]? = some e/\e.key=f a/\e.val=g b/\l[j]? = some (a,b):=by
 obtain⟨lx,hx⟩:=K.key a ha;have hall:∀e∈en.toList,∃l,keyOf P kt e.key=some l:=by
  intro e hm;obtain⟨j,hj⟩:=List.getElem?_of_mem hm;obtain⟨a',_,hq,hk,_⟩:=gmL_get he hj;rw[hk];exact K.key a' (hl _ (List.mem_of_getElem? hq))
 rcases K.law.find w hx en.toList hall with⟨h1,h2⟩|⟨j,e,h1,h2,h3⟩
 ·refine .inl ⟨h1,fun b hb=>?_⟩
  have:(f a,g b)∈en.toList.map (fun e=>(e.key,e.val)):=by rw[he];exact List.mem_map.2 ⟨(a,b),hb,rfl⟩
  obtain⟨e,hm,hk⟩:=List.mem_map.1 this;exact h2 e hm (congrArg Prod.fst hk)
 obtain⟨a',b,h4,h5,h6⟩:=gmL_get he h2;obtain rfl:=K.inj a' a (by rw[<- h5,h3])
 exact .inr ⟨j,e,b,h1,h2,h3,h6,h4⟩
theorem Yields.lenG {x:PV}{b:Nat}{l:List (α×β)}(hx:x.val T=some (.map (some b))) (hk:(b,AO.gm (dU f g l))∈S.flatten):Yields P w0 n (.lenM x) T S (.int .i64 l.length):=by
 intro o a w hco hs hr;obtain⟨t,kt,vt,c,cl,ho,hca,hat,har,rfl,hu⟩:=aM P hco;obtain⟨_,en,clk,hw,he,_⟩:=hr.gmAt hk;have hlen:en.size=l.length:=by have:=congrArg List.length he;simpa[dU] using this
 simp[execOp,ho,resolve,hca,invoke,builtin,Builtin.len_,hat,har,hs.eval hx,run_underlying hu,goInt,getObj,Sem.run,hw,hlen]
theorem Yields.lookG {m k:Operand}{okc:Bool}{i:TypeInfo}{b:Nat}{l:List (α×β)}{a:α}{z:β}(hu:P.underlying t=some (.map kt et)) (hi:P.info? et=some i) (hz:i.zero=some (g z)) (K:Keys P kt f ok) (hl:∀p∈l,ok p.1) (ha:ok a)
  (hm:(cV m).val T=some (.map (some b))) (hx:(cV k).val T=some (f a)) (hk:(b,AO.gm (dU f g l))∈S.flatten) :
  Yields P w0 n (.more (.other (.gen (.lookup t m k okc)))) T S (if okc then .tuple #[g ((fo l a).getD z),.bool (fo l a).isSome] else g ((fo l a).getD z)):=by
 intro o ac w hco hs hr;have ho:o.op=.lookup t m k okc:=aM P hco
 obtain⟨_,en,clk,hw,he,hb,hlt,hn⟩:=hr.gmAt hk;obtain⟨lx,hlx⟩:=K.key a ha;have hck:=fun bb=>K.law.check w bb hlx
 have hg:(getObj b).run P w=.ok (.map en clk) w:=by simp[getObj,Sem.run,hw]
 simp only[execOp,ho,hs.eval hm,hs.eval hx,Instr.lookup];simp only[Sem.run_bind,run_underlying hu,Result.andThen_ok,hg,Sem.run_pure,hck];rcases K.find hl he a ha w with⟨h1,h2⟩|⟨j,e,b',h1,h2,h3,h4,h5⟩
 ·have hget:fo l a=none:=mgt_none.2 fun h=>by
   unfold bu at h;obtain⟨p,hp,rfl⟩:=List.mem_map.1 h;exact h2 p.2 hp
  simp only[h1,Result.andThen_ok,hget];cases okc<;>simp[zeroValue,typeInfo,program,hi,hz,Sem.run]
 have hget:fo l a=some b':=(mgt_mem (gmL_nodup he hn)).2 (List.mem_of_getElem? h5)
 simp only[h1,Result.andThen_ok,hget,h4];cases okc<;>simp
theorem OW.mkG:OW P w0 n .mkM T S (fun v S'=>∃r,v=.map (some r)/\S'=[(r,.gm [])]::S):=by
 intro op a w Q hco hs hr;obtain⟨t,ho⟩:=aM P hco;have hrun:(execOp a.eval op).run P w=.ok (.value (.map (some w.heap.size))) (w.alloc (.map #[] 0)):=by
  simp[execOp,ho,Instr.makeMap,newObj,Sem.run]
 unfold Oper.wp;rw[hrun];refine⟨_,_,rfl,?_,w.heap.size,rfl,rfl⟩;refine hr.push (fB hr _) (fun i hi=>ey w _ i hi) (by simp) ?_
 intro p hp;simp only[List.mem_singleton] at hp;subst hp;exact⟨⟨#[],0,alloc_heap_new w _,by simp⟩,Nat.le_refl _⟩
theorem OW.mkGr {x:Operand}{j:Int}{q:IntKind}(hu:P.underlying t=some (.map kt et)) (hx:(cV x).val T=some (.int q j)):OW P w0 n (.more (.other (.gen (.makeMap t (some x))))) T S (fun v S'=>∃r,v=.map (some r)/\S'=[(r,.gm [])]::S):=by
 intro op a w Q hco hs hr;have ho:op.op=.makeMap t (some x):=aM P hco
 have hrun:(execOp a.eval op).run P w=.ok (.value (.map (some w.heap.size))) (w.alloc (.map #[] 0)):=by
  simp[execOp,ho,Instr.makeMap,newObj,Sem.run,hs.eval hx,run_underlying hu,asInt,asIntOf]
 unfold Oper.wp;rw[hrun];refine⟨_,_,rfl,?_,w.heap.size,rfl,rfl⟩;refine hr.push (fB hr _) (fun i hi=>ey w _ i hi) (by simp) ?_
 intro p hp;simp only[List.mem_singleton] at hp;subst hp;exact⟨⟨#[],0,alloc_heap_new w _,by simp⟩,Nat.le_refl _⟩
theorem run_setMap {w:World}{b:Nat}{en:Array MapEntry}{clk:Nat}(hw:w.heap[b]? = some (.map en clk)) (o:Obj):(setObj b o).run P w=.ok () { w with heap:=w.heap.setIfInBounds b o }:=by
 simp[setObj,Sem.run,hw]
theorem df.setAt {w:World}{k b:Nat}{o:AO}{ob:Obj}{o':AO}(h:df w0 S w) (hk:S[k]? = some [(b,o)]) (ho:Owns { w with heap:=w.heap.setIfInBounds b ob } b o'):df w0 (S.set k [(b,o')]) { w with heap:=w.heap.setIfInBounds b ob }:=by
 obtain⟨hge,how⟩:=h.own (b,o) (mem_at hk);simp only at hge;refine h.replace hk ⟨rfl,rfl,rfl,by simp,fun i hi=>?_⟩ (fun i hi hne=>?_) (by simp) ?_
 ·have:b≠i:=by omega
  simp[Array.getElem?_setIfInBounds_ne this]
 ·have:b≠i:=by simp at hne;omega
  simp[Array.getElem?_setIfInBounds_ne this]
 intro p hp;simp only[List.mem_singleton] at hp;subst hp;exact⟨hge,ho,.inl (by simp)⟩
theorem keys_set {l:List MapEntry}{j:Nat}{e:MapEntry}(h:l[j]? = some e) (e':MapEntry) (hk:e'.key=e.key):(l.set j e').map (·.key)=l.map (·.key):=by
 apply List.ext_getElem?;intro i;by_cases he:j=i
 ·subst he;have hlt:=(List.getElem?_eq_some_iff.1 h).1
  rw[List.getElem?_map,List.getElem?_map,List.getElem?_set_self hlt,h];simp[hk]
 simp[List.getElem?_set_ne he]
theorem borns_set {l:List MapEntry}{j:Nat}{e:MapEntry}(h:l[j]? = some e) (e':MapEntry) (hk:e'.born=e.born):(l.set j e').map (·.born)=l.map (·.born):=by
 apply List.ext_getElem?;intro i;by_cases he:j=i
 ·subst he;have hlt:=(List.getElem?_eq_some_iff.1 h).1
  rw[List.getElem?_map,List.getElem?_map,List.getElem?_set_self hlt,h];simp[hk]
 simp[List.getElem?_set_ne he]
theorem run_updG {w:World}{b:Nat}{l:List (α×β)}{a:α}{v:β}(hu:P.underlying t=some (.map kt et)) (K:Keys P kt f ok) (hl:∀p∈l,ok p.1) (ha:ok a) {en:Array MapEntry}{clk:Nat}(hw:w.heap[b]? = some (.map en clk)) (he:en.toList.map (fun e=>(e.key,e.val))=dU f g l)
  (hb:(en.toList.map (·.born)).Nodup) (hlt:∀e∈en.toList,e.born<clk) (hn:(en.toList.map (·.key)).Nodup) :
  ∃en' clk',(Instr.mapUpdate t (.map (some b)) (f a) (g v)).run P w=.ok () { w with heap:=w.heap.setIfInBounds b (.map en' clk') }/\en'.toList.map (fun e=>(e.key,e.val))=dU f g (dM l a v) /\
   (en'.toList.map (·.born)).Nodup/\(∀e∈en'.toList,e.born<clk')/\(en'.toList.map (·.key)).Nodup:=by
 obtain⟨lx,hlx⟩:=K.key a ha;have hck:=K.law.check w false hlx
 have hst:=K.law.stays w hlx
 have hg:(getObj b).run P w=.ok (.map en clk) w:=by simp[getObj,Sem.run,hw]
 rcases K.find hl he a ha w with⟨h1,h2⟩|⟨j,e,b',h1,h2,h3,h4,h5⟩
 ·refine⟨en.push { key:=f a,val:=g v,born:=clk },clk+1,?_,?_,?_,?_,?_⟩
  ·unfold Instr.mapUpdate;simp[run_underlying hu,hg,hck,h1,run_setMap hw]
  ·rw[mpt_new h2];simp[he,dU]
  ·simp only[Array.toList_push,List.map_append,List.map_cons,List.map_nil];rw[List.nodup_append];refine⟨hb,by simp,?_⟩
   simp only[List.mem_map,List.mem_singleton];rintro x ⟨e,he',rfl⟩ y rfl hxy;have:=hlt e he'
   omega
  ·simp only[Array.toList_push,List.mem_append,List.mem_singleton];rintro e (h|rfl)
   ·have:=hlt e h;omega
   exact Nat.lt_succ_self _
  simp only[Array.toList_push,List.map_append,List.map_cons,List.map_nil];rw[List.nodup_append];refine⟨hn,by simp,?_⟩
  simp only[List.mem_map,List.mem_singleton];rintro x ⟨e,he',rfl⟩ y rfl hxy;obtain⟨i,hi⟩:=List.getElem?_of_mem he';obtain⟨a',b',q1,q2,q3⟩:=gmL_get he hi;obtain rfl:=K.inj a' a (by rw[<- q2,hxy])
  exact h2 b' (List.mem_of_getElem? q1)
 have hlj:j<en.toList.length:=(List.getElem?_eq_some_iff.1 h2).1
 have hmod:(en.modify j fun e=>{ e with key:=f a,val:=g v }).toList=en.toList.set j { e with key:=f a,val:=g v }:=by
  apply List.ext_getElem?;intro i;by_cases hi:j=i
  ·subst hi;have hlj':j<en.size:=by simpa using hlj
   have h2':en[j] = e:=by have:=h2;simp[hlj'] at this;exact this
   simp[Array.getElem?_modify,List.getElem?_set_self hlj,hlj',h2']
  simp[Array.getElem?_modify,hi,List.getElem?_set_ne hi]
 refine⟨en.modify j fun e=>{ e with key:=f a,val:=g v },clk,?_,?_,?_,?_,?_⟩
 ·have hkey:((en[j]?).map (·.key)).getD (f a)=f a:=by
   have:en[j]? = some e:=by simpa using h2
   simp[this,h3]
  unfold Instr.mapUpdate;simp[run_underlying hu,hg,hck,h1,hkey,hst,run_setMap hw]
 ·rw[hmod,mpt_set (gmL_nodup he hn) h5,List.map_set,he];unfold dU;rw[List.map_set]
 ·rw[hmod,borns_set h2 _ (by rfl)];exact hb
 ·rw[hmod];intro x hx;rcases List.mem_or_eq_of_mem_set hx with h|rfl
  ·exact hlt x h
  exact hlt e (List.mem_of_getElem? h2)
 rw[hmod,keys_set h2 _ (by simpa using h3.symm)];exact hn
theorem OW.updG {m k x:Operand}{b j:Nat}{l:List (α×β)}{a:α}{v:β}(hu:P.underlying t=some (.map kt et)) (K:Keys P kt f ok) (hl:∀p∈l,ok p.1) (ha:ok a) (hm:(cV m).val T=some (.map (some b))) (hx:(cV k).val T=some (f a)) (hv:(cV x).val T=some (g v))
  (hk:S[j]? = some [(b,AO.gm (dU f g l))]):OW P w0 n (.more (.other (.gen (.mapUpdate t m k x)))) T S (fun _ S'=>S'=S.set j [(b,.gm (dU f g (dM l a v)))]):=by
 intro op ac w Q hco hs hr;have ho:op.op=.mapUpdate t m k x:=aM P hco
 obtain⟨hge,en,clk,hw,he,hb,hlt,hn⟩:=hr.gmAt (mem_at hk);obtain⟨en',clk',hrun,h1,h2,h3,h4⟩:=run_updG (a:=a) (v:=v) hu K hl ha hw he hb hlt hn;unfold Oper.wp;have hrun2:(execOp ac.eval op).run P w=.ok .skip { w with heap:=w.heap.setIfInBounds b (.map en' clk') }:=by
  simp[execOp,ho,hs.eval hm,hs.eval hx,hs.eval hv,hrun]
 rw[hrun2];refine⟨undef,_,rfl,?_,rfl⟩;have hlb:b<w.heap.size:=(Array.getElem?_eq_some_iff.1 hw).1
 exact hr.setAt hk ⟨en',clk',by simp[hlb],h1,h2,h3,h4⟩
theorem OW.insG {m k x:Operand}{b j:Nat}{l:List (α×β)}{a:α}{v:β}(hu:P.underlying t=some (.map kt et)) (K:Keys P kt f ok) (hl:∀p∈l,ok p.1) (ha:ok a) (hm:(cV m).val T=some (.map (some b))) (hx:(cV k).val T=some (f a)) (hv:(cV x).val T=some (g v))
  (hk:S[j]? = some [(b,AO.gm (dU f g l))]):OW P w0 n (.more (.other (.gen (.insert t m k x)))) T S (fun _ S'=>S'=S.set j [(b,.gm (dU f g (dM l a v)))]):=by
 intro op ac w Q hco hs hr;have ho:op.op=.insert t m k x:=aM P hco
 obtain⟨hge,en,clk,hw,he,hb,hlt,hn⟩:=hr.gmAt (mem_at hk);obtain⟨en',clk',hrun,h1,h2,h3,h4⟩:=run_updG (a:=a) (v:=v) hu K hl ha hw he hb hlt hn;unfold Oper.wp;have hrun2:(execOp ac.eval op).run P w=.ok .skip { w with heap:=w.heap.setIfInBounds b (.map en' clk') }:=by
  simp[execOp,ho,hs.eval hm,hs.eval hx,hs.eval hv,hrun]
 rw[hrun2];refine⟨undef,_,rfl,?_,rfl⟩;have hlb:b<w.heap.size:=(Array.getElem?_eq_some_iff.1 hw).1
 exact hr.setAt hk ⟨en',clk',by simp[hlb],h1,h2,h3,h4⟩
def It (f:α->Value) (g:β->Value) (en:Array MapEntry) (seen:Array Nat) (l done rest:List (α×β)):Prop:=
 (done++rest).Perm l/\∃D R:List MapEntry,seen.toList=D.map (·.born)/\(D++R).Perm en.toList/\D.map (fun e=>(e.key,e.val))=dU f g done/\R.map (fun e=>(e.key,e.val))=dU f g rest
structure Opened (f:α->Value) (g:β->Value) (en:Array MapEntry) (clk:Nat) (l:List (α×β)):Prop where
 es:en.toList.map (fun e=>(e.key,e.val))=dU f g l
 born:(en.toList.map (·.born)).Nodup
 lt:∀e∈en.toList,e.born<clk
 keys:(en.toList.map (·.key)).Nodup
theorem OW.rngG {m:Operand}{b j:Nat}{l:List (α×β)}(hu:P.underlying t=some (.map kt et)) (hm:(cV m).val T=some (.map (some b))) (hk:S[j]? = some [(b,AO.gm (dU f g l))]) :
  OW P w0 n (.more (.other (.gen (.range t m)))) T S (fun v S'=>∃r en clk,v=.pointer (some ⟨r,0,none⟩)/\Opened f g en clk l/\It f g en #[] l [] l/\S'=[(r,.obj (.mapIter (some b) clk #[] clk))]::S.set j [(b,.obj (.map en clk))]):=by
 intro op ac w Q hco hs hr;have ho:op.op=.range t m:=aM P hco
 obtain⟨hge,en,clk,hw,he,hb,hlt,hn⟩:=hr.gmAt (mem_at hk);have hg:(getObj b).run P w=.ok (.map en clk) w:=by simp[getObj,Sem.run,hw]
 unfold Oper.wp;have hrun:(execOp ac.eval op).run P w=.ok (.value (.pointer (some ⟨w.heap.size,0,none⟩))) (w.alloc (.mapIter (some b) clk #[] clk)):=by
  simp[execOp,ho,hs.eval hm,Instr.range,run_underlying hu,hg,newObj,Sem.run]
 rw[hrun];have hr2:df w0 (S.set j [(b,.obj (.map en clk))]) w:=hr.replace hk (Below.refl _ _) (fun _ _ _=>rfl) (by simp) (by
  intro p hp;simp only[List.mem_singleton] at hp;subst hp;exact⟨hge,hw,.inl (by simp)⟩)
 refine⟨_,_,rfl,hr2.allocObj _,w.heap.size,en,clk,rfl,⟨he,hb,hlt,hn⟩,⟨by simp,[],en.toList,by simp,by simp,by simp[dU],he⟩,rfl⟩
theorem perm_take {γ:Type}{D R L:List γ}{i:Nat}{x:γ}(h:R[i]? = some x) (hp:(D++R).Perm L):((D++[x])++R.eraseIdx i).Perm L:=by
 refine List.Perm.trans ?_ hp;rw[List.append_assoc];refine List.Perm.append_left D ?_;have hlt:=(List.getElem?_eq_some_iff.1 h).1
 have hx:R[i] = x:=by rw[List.getElem?_eq_getElem hlt] at h;exact Option.some.inj h
 have:R=R.take i++x::R.drop (i+1):=by rw[<- hx];simp
 have e:R.eraseIdx i=R.take i++R.drop (i+1):=List.eraseIdx_eq_take_drop_succ ..
 rw[e]
 calc [x]++(R.take i++R.drop (i+1))=x::(R.take i++R.drop (i+1)):=rfl
  List.Perm _ (R.take i++x::R.drop (i+1)):=(List.perm_middle).symm
  List.Perm _ R:=by rw[<- this]
theorem OW.nxtG {it:Operand}{b r j clk:Nat}{en:Array MapEntry}{seen:Array Nat}{l done rest:List (α×β)}(ht:(cV it).val T=some (.pointer (some ⟨r,0,none⟩))) (hk:S[j]? = some [(r,AO.obj (.mapIter (some b) clk seen clk))])
  (hm:(b,AO.obj (.map en clk))∈S.flatten) (ho:Opened f g en clk l) (hi:It f g en seen l done rest) :
  OW P w0 n (.more (.other (.gen (.next it false)))) T S (fun v S'=>(rest=[]/\v=.tuple #[.bool false]/\S'=S) ∨
   ∃(i:Nat) (p:α×β) (q:Nat),rest[i]? = some p/\v=.tuple #[.bool true,f p.1,g p.2]/\It f g en (seen.push q) l (done++[p]) (rest.eraseIdx i)/\S'=S.set j [(r,.obj (.mapIter (some b) clk (seen.push q) clk))]):=by
 intro op ac w Q hco hs hr;have hop:op.op=.next it false:=aM P hco
 obtain⟨hge,hw⟩:=hr.own _ hm;obtain⟨hge2,hw2⟩:=hr.own (r,AO.obj (.mapIter (some b) clk seen clk)) (mem_at hk);simp only[Owns] at hw hw2;obtain⟨hperm,D,R,hseen,hDR,hD,hR⟩:=hi;have hbn:((D++R).map (·.born)).Nodup:=(hDR.map _).nodup_iff.2 ho.born
 have hleft:∀e,e∈(leftOf en seen).toList↔e∈R:=by
  intro e;unfold leftOf;simp only[Array.toList_filter,List.mem_filter,Bool.not_eq_true',Array.contains_eq_mem,decide_eq_false_iff_not,<- Array.mem_toList_iff,hseen];constructor
  ·rintro⟨h1,h2⟩;rcases List.mem_append.1 (hDR.mem_iff.2 h1) with h|h
   ·exact absurd (List.mem_map.2 ⟨e,h,rfl⟩) h2
   exact h
  intro h;refine⟨hDR.mem_iff.1 (by simp[h]),fun h2=>?_⟩
  obtain⟨e',h3,h4⟩:=List.mem_map.1 h2;rw[List.map_append,List.nodup_append] at hbn;exact hbn.2.2 _ (List.mem_map.2 ⟨e',h3,rfl⟩) _ (List.mem_map.2 ⟨e,h,rfl⟩) h4
 have hnx:=run_next_at (P:=P) w op.type r b clk clk seen en clk hw2 hw ho.lt (Nat.le_refl _)
 unfold Oper.wp;rcases hnx with⟨h0,hrun⟩|⟨e,he,w1,hw1,hrun⟩
 ·have hrun2:(execOp ac.eval op).run P w=.ok (.value (.tuple #[.bool false])) w:=by
   simp[execOp,hop,hs.eval ht,hrun]
  rw[hrun2];refine⟨_,_,rfl,hr,.inl ⟨?_,rfl,rfl⟩⟩;have hR0:R=[]:=by
   cases hRR:R with
   |nil=>rfl
   |cons x R'=>
    exfalso;have:=(hleft x).2 (by rw[hRR];simp)
    have h2:(leftOf en seen)=#[]:=Array.eq_empty_of_size_eq_zero h0
    rw[h2] at this;simp at this
  rw[hR0] at hR;cases rest with
  |nil=>rfl
  |cons x r'=>simp[dU] at hR
 have heR:=(hleft e).1 he
 obtain⟨i,hRi⟩:=List.getElem?_of_mem heR;have h1:(R.map (fun e=>(e.key,e.val)))[i]? = some (e.key,e.val):=by simp[hRi]
 rw[hR] at h1;unfold dU at h1;rw[List.getElem?_map,Option.map_eq_some_iff] at h1;obtain⟨p,hp,hkv⟩:=h1;have hke:e.key=f p.1:=(congrArg Prod.fst hkv).symm
 have hve:e.val=g p.2:=(congrArg Prod.snd hkv).symm
 have hrun2:(execOp ac.eval op).run P w=.ok (.value (.tuple #[.bool true,f p.1,g p.2])) (ChangeMaps.setBlock w1 r (.mapIter (some b) clk (seen.push e.born) clk)):=by
  simp[execOp,hop,hs.eval ht,hrun,hke,hve]
 rw[hrun2];have hr1:df w0 S w1:=by
  rcases hw1 with rfl|rfl
  ·exact hr
  exact hr.same ⟨rfl,rfl,rfl,Nat.le_refl _,fun _ _=>rfl⟩ (fun _ _=>rfl)
 have hlr:r<w1.heap.size:=hr1.lt (p:=(r,AO.obj (.mapIter (some b) clk seen clk))) (mem_at hk)
 refine⟨_,_,rfl,hr1.setAt (ob:=.mapIter (some b) clk (seen.push e.born) clk) (o':=.obj (.mapIter (some b) clk (seen.push e.born) clk)) hk (by simp[Owns,hlr]),.inr ⟨i,p,e.born,hp,rfl,?_,rfl⟩⟩
 refine⟨perm_take hp hperm,D++[e],R.eraseIdx i,by simp[hseen],perm_take hRi hDR,?_,?_⟩
 ·rw[List.map_append,hD];simp[dU,hke,hve]
 rw[map_eraseIdx,hR];unfold dU;rw[map_eraseIdx]
theorem Yields.entG {it:Operand}{b r clk q:Nat}{en:Array MapEntry}{seen:Array Nat}{l done rest:List (α×β)}{p:α×β}(ht:(cV it).val T=some (.pointer (some ⟨r,0,none⟩))) (hk:(r,AO.obj (.mapIter (some b) clk (seen.push q) clk))∈S.flatten)
  (hm:(b,AO.obj (.map en clk))∈S.flatten) (ho:Opened f g en clk l) (hi:It f g en (seen.push q) l (done++[p]) rest) :
  Yields P w0 n (.more (.other (.gen (.entry it)))) T S (.tuple #[f p.1,g p.2]):=by
 intro o ac w hco hs hr;have hop:o.op=.entry it:=aM P hco
 obtain⟨hge,hw⟩:=hr.own _ hm;obtain⟨hge2,hw2⟩:=hr.own _ hk;simp only[Owns] at hw hw2;obtain⟨hperm,D,R,hseen,hDR,hD,hR⟩:=hi;have hDne:D≠[]:=by rintro rfl;simp[dU] at hD
 obtain⟨D',e,rfl⟩:∃D' e,D=D'++[e]:=⟨D.dropLast,D.getLast hDne,(List.dropLast_concat_getLast hDne).symm⟩;have hDl:=hD
 rw[dU,List.map_append,List.map_append] at hDl;have hlast:=(List.append_inj' hDl rfl).2
 simp only[List.map_cons,List.map_nil,List.cons.injEq,Prod.mk.injEq,and_true] at hlast;have hq:q=e.born:=by
  have:=hseen
  simp only[Array.toList_push,List.map_append,List.map_cons,List.map_nil] at this;have h2:=(List.append_inj' this rfl).2
  simpa using h2
 subst hq;have hem:e∈en.toList:=hDR.mem_iff.1 (by simp)
 have:=run_entry_at (P:=P) w r b clk seen en clk e hw2 hw hem ho.born
 simp[execOp,hop,hs.eval ht,this,hlast.1,hlast.2]
theorem It.perm {en:Array MapEntry}{seen:Array Nat}{l done rest:List (α×β)}(h:It f g en seen l done rest):(done++rest).Perm l:=h.1
theorem df.tell {w:World}{k b:Nat}{o o':AO}(h:df w0 S w) (hk:S[k]? = some [(b,o)]) (ho:∀w,Owns w b o->Owns w b o'):df w0 (S.set k [(b,o')]) w:=by
 obtain⟨hge,how⟩:=h.own (b,o) (mem_at hk);refine h.replace hk (Below.refl _ _) (fun _ _ _=>rfl) (by simp) (by
  intro p hp;simp only[List.mem_singleton] at hp;subst hp;exact⟨hge,ho _ how,.inl (by simp)⟩)
theorem Opened.close {en:Array MapEntry}{clk:Nat}{l:List (α×β)}(h:Opened f g en clk l) (b:Nat) (w:World) (hw:Owns w b (.obj (.map en clk))):Owns w b (.gm (dU f g l)):=⟨en,clk,hw,h.es,h.born,h.lt,h.keys⟩
theorem OL.tell {l:List PI}{k b:Nat}{o o':AO}{K:TT->SS->Prop}(hk:S[k]? = some [(b,o)]) (ho:∀w,Owns w b o->Owns w b o') (h:OL P w0 n l T (S.set k [(b,o')]) K):OL P w0 n l T S K:=
 fun ops is a w Q hc hs hr hq=>h ops is a w Q hc hs (hr.tell hk ho) hq
def entL (l:List (α×β)) (a:α) (z:β):List (α×β):=dM l a ((fo l a).getD z)
theorem mpt_idem {l:List (α×β)}{a:α}{b:β}(h:fo l a=some b):dM l a b=l:=by
 induction l with
 |nil=>simp[mgt_nil] at h
 |cons p l ih=>
  rw[mgt_cons] at h;unfold dM;split
  ·rename_i e;rw[if_pos e] at h;rw[e,<- Option.some.inj h]
  rename_i e;rw[if_neg e] at h;rw[ih h]
theorem OW.entry {m k:Operand}{i:TypeInfo}{b j:Nat}{l:List (α×β)}{a:α}{z:β}(hu:P.underlying t=some (.map kt et)) (hi:P.info? et=some i) (hz:i.zero=some (g z)) (K:Keys P kt f ok) (hl:∀p∈l,ok p.1) (ha:ok a)
  (hm:(cV m).val T=some (.map (some b))) (hx:(cV k).val T=some (f a)) (hk:S[j]? = some [(b,AO.gm (dU f g l))]) :
  OW P w0 n (.more (.other (.gen (.mapEntry t m k)))) T S (fun v S'=>∃(en:Array MapEntry) (clk q:Nat) (e:MapEntry),v=.tuple #[g ((fo l a).getD z),.int .i64 (q:Int)]/\Opened f g en clk (entL l a z)/\e∈en.toList/\e.born=q/\e.key=f a/\S'=S.set j [(b,.obj (.map en clk))]):=by
 intro op ac w Q hco hs hr;have ho:op.op=.mapEntry t m k:=aM P hco
 obtain⟨hge,en,clk,hw,he,hb,hlt,hn⟩:=hr.gmAt (mem_at hk);obtain⟨lx,hlx⟩:=K.key a ha;have hck:=K.law.check w false hlx
 have hst:=K.law.stays w hlx
 have hg:(getObj b).run P w=.ok (.map en clk) w:=by simp[getObj,Sem.run,hw]
 have hlb:b<w.heap.size:=(Array.getElem?_eq_some_iff.1 hw).1
 unfold Oper.wp;rcases K.find hl he a ha w with⟨h1,h2⟩|⟨i',e,b',h1,h2,h3,h4,h5⟩
 ·have hget:fo l a=none:=mgt_none.2 fun h=>by
   unfold bu at h;obtain⟨p,hp,rfl⟩:=List.mem_map.1 h;exact h2 p.2 hp
  have hrun:(execOp ac.eval op).run P w=.ok (.value (.tuple #[g z,.int .i64 (clk:Int)])) { w with heap:=w.heap.setIfInBounds b (.map (en.push { key:=f a,val:=g z,born:=clk }) (clk+1)) }:=by
   simp[execOp,ho,hs.eval hm,hs.eval hx,Instr.mapEntry,run_underlying hu,hg,hck,h1,run_setMap hw,zeroValue,typeInfo,program,Sem.run,hi,hz,goInt]
  rw[hrun];refine⟨_,_,rfl,hr.setAt hk (o':=.obj (.map (en.push { key:=f a,val:=g z,born:=clk }) (clk+1))) (by simp[Owns,hlb]),_,clk+1,clk,{ key:=f a,val:=g z,born:=clk },by rw[hget];rfl,⟨?_,?_,?_,?_⟩,by simp,rfl,rfl,rfl⟩
  ·unfold entL;rw[hget,mpt_new h2];simp[he,dU]
  ·simp only[Array.toList_push,List.map_append,List.map_cons,List.map_nil];rw[List.nodup_append];refine⟨hb,by simp,?_⟩
   simp only[List.mem_map,List.mem_singleton];rintro x ⟨e,he',rfl⟩ y rfl hxy;have:=hlt e he'
   omega
  ·simp only[Array.toList_push,List.mem_append,List.mem_singleton];rintro e (h|rfl)
   ·have:=hlt e h;omega
   exact Nat.lt_succ_self _
  simp only[Array.toList_push,List.map_append,List.map_cons,List.map_nil];rw[List.nodup_append];refine⟨hn,by simp,?_⟩
  simp only[List.mem_map,List.mem_singleton];rintro x ⟨e,he',rfl⟩ y rfl hxy;obtain⟨i,hi⟩:=List.getElem?_of_mem he';obtain⟨a',b',q1,q2,q3⟩:=gmL_get he hi;obtain rfl:=K.inj a' a (by rw[<- q2,hxy])
  exact h2 b' (List.mem_of_getElem? q1)
 have hget:fo l a=some b':=(mgt_mem (gmL_nodup he hn)).2 (List.mem_of_getElem? h5)
 have h2':en[i']? = some e:=by simpa using h2
 have hsame:en.modify i' (fun e=>{ e with key:=f a })=en:=by
  apply Array.ext';apply List.ext_getElem?;intro x;rw[Array.getElem?_toList,Array.getElem?_toList,Array.getElem?_modify];split
  ·rename_i hx;subst hx;rw[h2'];simp only[Option.map_some];rw[<- h3]
  rfl
 have hrun:(execOp ac.eval op).run P w=.ok (.value (.tuple #[e.val,.int .i64 (e.born:Int)])) { w with heap:=w.heap.setIfInBounds b (.map en clk) }:=by
  simp[execOp,ho,hs.eval hm,hs.eval hx,Instr.mapEntry,run_underlying hu,hg,hck,h1,h2',h3,hst,hsame,run_setMap hw,goInt]
 rw[hrun];refine⟨_,_,rfl,hr.setAt hk (o':=.obj (.map en clk)) (by simp[Owns,hlb]),en,clk,e.born,e,by rw[hget,h4];rfl,?_,List.mem_of_getElem? h2,rfl,h3,rfl⟩
 unfold entL;rw[hget,Option.getD_some,mpt_idem hget];exact⟨he,hb,hlt,hn⟩
theorem OW.store {m k x:Operand}{b j q clk:Nat}{en:Array MapEntry}{e:MapEntry}{l:List (α×β)}{a:α}{v:β}(hinj:∀a b,f a=f b->a=b) (hm:(cV m).val T=some (.map (some b))) (hx:(cV k).val T=some (.int .i64 (q:Int))) (hv:(cV x).val T=some (g v))
  (ho:Opened f g en clk l) (hee:e∈en.toList) (heb:e.born=q) (hek:e.key=f a) (hk:S[j]? = some [(b,AO.obj (.map en clk))]) :
  OW P w0 n (.more (.other (.gen (.entryStore t m k x)))) T S (fun _ S'=>S'=S.set j [(b,.gm (dU f g (dM l a v)))]):=by
 intro op ac w Q hco hs hr;have hop:op.op=.entryStore t m k x:=aM P hco
 obtain⟨hge,hw⟩:=hr.own _ (mem_at hk);simp only[Owns] at hw;have hg:(getObj b).run P w=.ok (.map en clk) w:=by simp[getObj,Sem.run,hw]
 have hlb:b<w.heap.size:=(Array.getElem?_eq_some_iff.1 hw).1
 obtain⟨i,hi⟩:=List.getElem?_of_mem hee;have hil:=(List.getElem?_eq_some_iff.1 hi).1
 obtain⟨a',b',q1,q2,q3⟩:=gmL_get ho.es hi;obtain rfl:=hinj a' a (by rw[<- q2,hek])
 have hfi:en.findIdx? (fun e=>(e.born:Int) == (q:Int))=some i:=by
  rw[Array.findIdx?_eq_some_iff_getElem];obtain⟨h1,h2⟩:=List.getElem?_eq_some_iff.1 hi;have h2':en[i]'(by simpa using h1)=e:=by simpa using h2
  refine⟨by simpa using h1,by rw[h2',heb];simp,fun x hx=>?_⟩
  have hxl:x<en.toList.length:=by omega
  have hne:(en.toList.map (·.born))[x]'(by simpa using hxl)≠(en.toList.map (·.born))[i]'(by simpa using h1):=fun e=>by
   have:=(List.getElem_inj ho.born).1 e
   omega
  have hxe:en[x] = en.toList[x]:=by simp
  simp only[List.getElem_map,h2,heb] at hne;simp only[beq_iff_eq,Bool.not_eq_true,beq_eq_false_iff_ne,ne_eq];rw[hxe];omega
 have hmod:(en.modify i fun e=>{ e with val:=g v }).toList=en.toList.set i { e with val:=g v }:=by
  apply List.ext_getElem?;intro x;by_cases hx:i=x
  ·subst hx;have hlj':i<en.size:=by simpa using hil
   have h2':en[i] = e:=by have:=hi;simp[hlj'] at this;exact this
   simp[Array.getElem?_modify,List.getElem?_set_self hil,hlj',h2']
  simp[Array.getElem?_modify,hx,List.getElem?_set_ne hx]
 unfold Oper.wp;have hrun:(execOp ac.eval op).run P w=.ok .skip { w with heap:=w.heap.setIfInBounds b (.map (en.modify i fun e=>{ e with val:=g v }) clk) }:=by
  simp[execOp,hop,hs.eval hm,hs.eval hx,hs.eval hv,Instr.entryStore,hg,asInt,asIntOf,hfi,run_setMap hw]
 rw[hrun];refine⟨undef,_,rfl,?_,rfl⟩;refine hr.setAt hk ⟨_,clk,by simp[hlb];rfl,?_,?_,?_,?_⟩
 ·rw[hmod,mpt_set (gmL_nodup ho.es ho.keys) q1,List.map_set,ho.es];unfold dU;rw[List.map_set,<- q2]
 ·rw[hmod,borns_set hi _ (by rfl)];exact ho.born
 ·rw[hmod];intro x hx;rcases List.mem_or_eq_of_mem_set hx with h|rfl
  ·exact ho.lt x h
  exact ho.lt e hee
 rw[hmod,keys_set hi _ (by rfl)];exact ho.keys
theorem Yields.lookO {m k:Operand}{okc:Bool}{i:TypeInfo}{b clk:Nat}{en:Array MapEntry}{l:List (α×β)}{a:α}{z:β}(hu:P.underlying t=some (.map kt et)) (hi:P.info? et=some i) (hz:i.zero=some (g z)) (K:Keys P kt f ok) (hl:∀p∈l,ok p.1) (ha:ok a)
  (hm:(cV m).val T=some (.map (some b))) (hx:(cV k).val T=some (f a)) (ho:Opened f g en clk l) (hk:(b,AO.obj (.map en clk))∈S.flatten) :
  Yields P w0 n (.more (.other (.gen (.lookup t m k okc)))) T S (if okc then .tuple #[g ((fo l a).getD z),.bool (fo l a).isSome] else g ((fo l a).getD z)):=by
 intro o ac w hco hs hr;have hop:o.op=.lookup t m k okc:=aM P hco
 obtain⟨hge,hw⟩:=hr.own _ hk;simp only[Owns] at hw;obtain⟨lx,hlx⟩:=K.key a ha;have hck:=fun bb=>K.law.check w bb hlx
 have hg:(getObj b).run P w=.ok (.map en clk) w:=by simp[getObj,Sem.run,hw]
 simp only[execOp,hop,hs.eval hm,hs.eval hx,Instr.lookup];simp only[Sem.run_bind,run_underlying hu,Result.andThen_ok,hg,Sem.run_pure,hck];rcases K.find hl ho.es a ha w with⟨h1,h2⟩|⟨j,e,b',h1,h2,h3,h4,h5⟩
 ·have hget:fo l a=none:=mgt_none.2 fun h=>by
   unfold bu at h;obtain⟨p,hp,rfl⟩:=List.mem_map.1 h;exact h2 p.2 hp
  simp only[h1,Result.andThen_ok,hget];cases okc<;>simp[zeroValue,typeInfo,program,hi,hz,Sem.run]
 have hget:fo l a=some b':=(mgt_mem (gmL_nodup ho.es ho.keys)).2 (List.mem_of_getElem? h5)
 simp only[h1,Result.andThen_ok,hget,h4];cases okc<;>simp
theorem Yields.tas {x:Operand}{u:TypeId}{d:TypeDesc}{ok:Bool}{v:Value}(hx:(cV x).val T=some (.iface t v)) (hu:P.underlying t=some d) (hd:∀ms,d≠.interface ms) :
  Yields P w0 n (.more (.other (.gen (.typeAssert x u t ok)))) T S (if ok then .tuple #[v,.bool true] else v):=by
 intro o ac w hco hs hr;have hop:o.op=.typeAssert x u t ok:=aM P hco
 have:(Instr.typeAssert (.iface t v) u t ok).run P w=.ok (if ok then .tuple #[v,.bool true] else v) w:=by
  unfold Instr.typeAssert;simp only[Sem.run_bind,run_underlying hu,Result.andThen_ok];cases d<;>(first|(cases ok<;>simp;done)|exact absurd rfl (hd _))
 simp[execOp,hop,hs.eval hx,this]
theorem OW.inv {recv:Operand}{name:String}{args:Array Operand}{ts:Array TypeId}{k:FuncId}{v rv:Value}{vs:List Value}{post:Value->SS->Prop}(hx:(cV recv).val T=some (.iface t v)) (hv:valsP T (args.toList.map cV)=some vs)
  (hm:∀w,df w0 S w->(method (P.types.size+Made.depth) t v name).run P w=.ok (k,rv) w) (hok:fnOk P k=true) (h:FC P w0 k (rv::vs) S post) :
  OW P w0 n (.more (.other (.gen (.call { callee:=.invoke recv name,args:=args,argTypes:=ts })))) T S post:=by
 intro op ac w Q hco hs hr;have hop:op.op=.call { callee:=.invoke recv name,args:=args,argTypes:=ts }:=aM P hco
 have hargs:args.map ac.eval=vs.toArray:=by
  have:=valsP_spec hs hv
  rw[<- this,<- Array.toArray_toList (xs:=args.map ac.eval),Array.toList_map]
 have hrun:(execOp ac.eval op).run P w=.ok (.enter k (rv::vs).toArray) w:=by
  unfold fnOk at hok;split at hok
  ·rename_i fn hfn;simp only[Bool.and_eq_true,bne_iff_ne,ne_eq] at hok;have hb:¬fn.body=none:=by intro hh;simp[hh] at hok
   have hex:(#[(Value.iface t v)]++vs.toArray).extract 1 (#[(Value.iface t v)]++vs.toArray).size=vs.toArray:=by
    apply Array.toList_inj.1;simp
   simp only[execOp,hop,resolve,hs.eval hx,hargs];simp only[Sem.run_bind,Sem.run_pure,Result.andThen_ok,invoke];have h0:(#[(Value.iface t v)]++vs.toArray)[0]? = some (.iface t v):=by simp
   simp only[h0,hex,callMethod,Sem.run_bind,program,Sem.run,Result.andThen_ok,hm w hr];simp[callFunc,program,Sem.run,hfn,hok.1,hb]
  simp at hok
 unfold Oper.wp;rw[hrun];refine(h w hr).mono ?_;rintro e w' ⟨v,S',rfl,hr',hp⟩;exact⟨v,S',rfl,hr',hp⟩
end
end Go.SL

namespace Go.HP
variable {α:Type}[Inhabited α]
def dR (l:List α) (i j:Nat):List α:=(l.set i l[j]!).set j l[i]!
theorem bP (l:List α) (i j:Nat):(dR l i j).length=l.length:=by simp[dR]
theorem swapL_get {l:List α}{i j:Nat}(hi:i<l.length) (hj:j<l.length) (k:Nat):(dR l i j)[k]! = if k=j then l[i]! else if k=i then l[j]! else l[k]!:=by
 unfold dR;simp only[List.getElem!_eq_getElem?_getD];by_cases h1:k=j
 ·subst h1;rw[if_pos rfl,List.getElem?_set_self (by simpa using hj)]
  rfl
 rw[if_neg h1,List.getElem?_set_ne (fun e=>h1 e.symm)]
 by_cases h2:k=i
 ·subst h2;rw[if_pos rfl,List.getElem?_set_self hi];rfl
 rw[if_neg h2,List.getElem?_set_ne (fun e=>h2 e.symm)]
theorem swapL_perm {l:List α}{i j:Nat}(hi:i<l.length) (hj:j<l.length):(dR l i j).Perm l:=by
 unfold dR;rw[getElem!_pos l i hi,getElem!_pos l j hj];exact List.set_set_perm hi hj
variable (lt:α->α->Bool)
def upL:Nat->List α->Nat->List α
 |0,l,_=>l
 |f+1,l,j=>if j=0 then l else if lt l[j]! l[(j-1) / 2]! then upL f (dR l ((j-1) / 2) j) ((j-1) / 2) else l
def bY (l:List α) (i n:Nat):Nat:=if 2*i+2<n/\lt l[2*i+2]! l[2*i+1]! = true then 2*i+2 else 2*i+1
def dS:Nat->List α->Nat->Nat->List α
 |0,l,_,_=>l
 |f+1,l,i,n=>if n<=2*i+1 then l else if lt l[bY lt l i n]! l[i]! then dS f (dR l i (bY lt l i n)) (bY lt l i n) n else l
structure Ord:Prop where
 asymm:∀a b,lt a b=true->lt b a=false
 trans:∀a b c,lt b a=false->lt c b=false->lt c a=false
variable {lt}
def Hp (lt:α->α->Bool) (l:List α) (n:Nat):Prop:=∀k,0<k->k<n->lt l[k]! l[(k-1) / 2]! = false
theorem upL_spec (O:Ord lt):∀(f:Nat) (l:List α) (j:Nat),j<=f->j<l.length->(∀k,0<k->k<l.length->k≠j->lt l[k]! l[(k-1) / 2]! = false) ->
  (∀k,0<k->k<l.length->0<j->(k-1) / 2=j->lt l[k]! l[(j-1) / 2]! = false)->Hp lt (upL lt f l j) l.length/\(upL lt f l j).Perm l
 |0,l,j,hf,hj,h1,h2=>by
  refine⟨fun k h0 hk=>?_,List.Perm.refl _⟩
  exact h1 k h0 hk (by omega)
 |f+1,l,j,hf,hj,h1,h2=>by
  unfold upL;by_cases hj0:j=0
  ·rw[if_pos hj0];exact⟨fun k h0 hk=>h1 k h0 hk (by omega),List.Perm.refl _⟩
  rw[if_neg hj0];by_cases hl:lt l[j]! l[(j-1) / 2]! = true
  ·rw[if_pos hl];have hi:(j-1) / 2<j:=by omega
   generalize hp:(j-1) / 2=i at hi hl ⊢
   have hil:i<l.length:=by omega
   have hg:=swapL_get hil hj
   have key:=upL_spec O f (dR l i j) i (by omega) (by rw[bP];exact hil) ?_ ?_
   ·rw[bP] at key;exact⟨key.1,key.2.trans (swapL_perm hil hj)⟩
   ·intro k h0 hk hki;rw[bP] at hk;rw[hg,hg];by_cases hkj:k=j
    ·subst hkj;rw[if_pos rfl,hp,if_neg (by omega),if_pos rfl]
     exact O.asymm _ _ hl
    rw[if_neg hkj,if_neg hki];by_cases hpj:(k-1) / 2=j
    ·rw[if_pos hpj];have:=h2 k h0 hk (by omega) hpj
     rwa [hp] at this
    rw[if_neg hpj];by_cases hpi:(k-1) / 2=i
    ·rw[if_pos hpi];have:=h1 k h0 hk hkj
     rw[hpi] at this;exact O.trans _ _ _ (O.asymm _ _ hl) this
    rw[if_neg hpi];exact h1 k h0 hk hkj
   intro k h0 hk hi0 hki;rw[bP] at hk;rw[hg,hg];have hii:(i-1) / 2≠j:=by omega
   have hii2:(i-1) / 2≠i:=by omega
   rw[if_neg hii,if_neg hii2];by_cases hkj:k=j
   ·subst hkj;rw[if_pos rfl];exact h1 i hi0 hil (by omega)
   rw[if_neg hkj,if_neg (by omega)]
   have a:=h1 k h0 hk hkj
   rw[hki] at a;exact O.trans _ _ _ (h1 i hi0 hil (by omega)) a
  rw[if_neg hl];refine⟨fun k h0 hk=>?_,List.Perm.refl _⟩
  by_cases hkj:k=j
  ·subst hkj;simpa using hl
  exact h1 k h0 hk hkj
theorem downL_spec (O:Ord lt):∀(f:Nat) (l:List α) (i n:Nat),n<=f+i->i<n->n<=l.length->(∀k,0<k->k<n->(k-1) / 2≠i->lt l[k]! l[(k-1) / 2]! = false) ->
  (∀k,0<k->k<n->0<i->(k-1) / 2=i->lt l[k]! l[(i-1) / 2]! = false)->Hp lt (dS lt f l i n) n/\(dS lt f l i n).Perm l/\∀k,n<=k->(dS lt f l i n)[k]! = l[k]!
 |0,l,i,n,hf,hi,hn,h1,h2=>by omega
 |f+1,l,i,n,hf,hi,hn,h1,h2=>by
  unfold dS;by_cases hc:n<=2*i+1
  ·rw[if_pos hc];exact⟨fun k h0 hk=>h1 k h0 hk (by omega),List.Perm.refl _,fun _ _=>rfl⟩
  rw[if_neg hc];have hj:bY lt l i n<n/\(bY lt l i n-1) / 2=i/\0<bY lt l i n/\i<bY lt l i n/\∀k,0<k->k<n->(k-1) / 2=i->lt l[k]! l[bY lt l i n]! = false:=by
   unfold bY;split
   ·rename_i h;refine⟨h.1,by omega,by omega,by omega,fun k h0 hk hp=>?_⟩
    have:k=2*i+1∨k=2*i+2:=by omega
    rcases this with rfl|rfl
    ·exact O.asymm _ _ h.2
    cases hx:lt l[2*i+2]! l[2*i+2]! with
    |false=>rfl
    |true=>have:=O.asymm _ _ hx;rw[hx] at this;cases this
   rename_i h;refine⟨by omega,by omega,by omega,by omega,fun k h0 hk hp=>?_⟩
   have:k=2*i+1∨k=2*i+2:=by omega
   rcases this with rfl|rfl
   ·cases hx:lt l[2*i+1]! l[2*i+1]! with
    |false=>rfl
    |true=>have:=O.asymm _ _ hx;rw[hx] at this;cases this
   cases hx:lt l[2*i+2]! l[2*i+1]! with
   |false=>rfl
   |true=>exact absurd ⟨hk,hx⟩ h
  generalize bY lt l i n=j at hj ⊢
  obtain⟨hjn,hjp,hj0,hij,hjm⟩:=hj;by_cases hl:lt l[j]! l[i]! = true
  ·rw[if_pos hl];have hil:i<l.length:=by omega
   have hjl:j<l.length:=by omega
   have hg:=swapL_get hil hjl
   have key:=downL_spec O f (dR l i j) j n (by omega) hjn (by rw[bP];exact hn) ?_ ?_
   ·refine⟨key.1,key.2.1.trans (swapL_perm hil hjl),fun k hk=>?_⟩
    rw[key.2.2 k hk,hg,if_neg (by omega),if_neg (by omega)]
   ·intro k h0 hk hkj;rw[hg,hg,if_neg hkj];by_cases hk1:k=j
    ·subst hk1;rw[if_pos rfl,hjp,if_pos rfl];exact O.asymm _ _ hl
    rw[if_neg hk1];by_cases hpi:(k-1) / 2=i
    ·rw[if_pos hpi,if_neg (by omega)]
     exact hjm k h0 hk hpi
    rw[if_neg hpi];by_cases hki:k=i
    ·subst hki;rw[if_pos rfl];exact h2 j hj0 hjn h0 hjp
    rw[if_neg hki];exact h1 k h0 hk hpi
   intro k h0 hk _ hkj;rw[hg,hg,hjp];rw[if_neg (by omega),if_neg (by omega),if_neg (by omega),if_pos rfl]
   have a:=h1 k h0 hk (by omega)
   rw[hkj] at a;exact a
  rw[if_neg hl];refine⟨fun k h0 hk=>?_,List.Perm.refl _,fun _ _=>rfl⟩
  by_cases hpi:(k-1) / 2=i
  ·have hl':lt l[j]! l[i]! = false:=by simpa using hl
   rw[hpi];exact O.trans _ _ _ hl' (hjm k h0 hk hpi)
  exact h1 k h0 hk hpi
def pushL (lt:α->α->Bool) (l:List α) (x:α):List α:=upL lt l.length (l++[x]) l.length
theorem get_app {l:List α}{x:α}{k:Nat}(h:k<l.length):(l++[x])[k]! = l[k]!:=by
 rw[getElem!_pos _ k (by simp;omega),getElem!_pos l k h,List.getElem_append_left h]
theorem pushL_spec (O:Ord lt) {l:List α}(h:Hp lt l l.length) (x:α):Hp lt (pushL lt l x) (pushL lt l x).length/\(pushL lt l x).Perm (x::l):=by
 have:=upL_spec O l.length (l++[x]) l.length (Nat.le_refl _) (by simp) (fun k h0 hk hne=>?_) (fun k h0 hk h1 hp=>?_)
 ·unfold pushL;refine⟨?_,this.2.trans (List.perm_append_singleton x l)⟩;rw[this.2.length_eq];exact this.1
 ·simp only[List.length_append,List.length_singleton] at hk;rw[get_app (by omega),get_app (by omega)]
  exact h k h0 (by omega)
 simp only[List.length_append,List.length_singleton] at hk;omega
def popL (lt:α->α->Bool) (l:List α):List α:=(dS lt l.length (dR l 0 (l.length-1)) 0 (l.length-1)).take (l.length-1)
theorem heap_min (O:Ord lt) {l:List α}{n:Nat}(h:Hp lt l n):∀k,k<n->lt l[k]! l[0]! = false
 |0,hk=>by
  cases hx:lt l[0]! l[0]! with
  |false=>rfl
  |true=>have:=O.asymm _ _ hx;rw[hx] at this;cases this
 |k+1,hk=>O.trans _ _ _ (heap_min O h ((k+1-1) / 2) (by omega)) (h (k+1) (by omega) hk)
theorem popL_spec (O:Ord lt) {l:List α}(h:Hp lt l l.length) (h0:0<l.length) :
  Hp lt (popL lt l) (popL lt l).length/\(l[0]!::popL lt l).Perm l/\(dS lt l.length (dR l 0 (l.length-1)) 0 (l.length-1))[l.length-1]! = l[0]!/\(popL lt l).length=l.length-1/\∀x∈popL lt l,lt x l[0]! = false:=by
 by_cases h1:l.length=1
 ·match l,h1 with
  |[a],_=>
   have e:dS lt 1 (dR [a] 0 0) 0 0=[a]:=by simp[dS,dR]
   refine⟨?_,?_,?_,?_,?_⟩
   ·intro k hk hk2;simp[popL] at hk2
   ·simp[popL]
   ·simp[dS,dR]
   ·simp[popL]
   simp[popL]
 have hl:l.length-1<l.length:=by omega
 have hg:=swapL_get h0 hl
 have key:=downL_spec O l.length (dR l 0 (l.length-1)) 0 (l.length-1) (by omega) (by omega) (by rw[bP];omega) ?_ ?_
 ·obtain⟨k1,k2,k3⟩:=key;have hlast:(dS lt l.length (dR l 0 (l.length-1)) 0 (l.length-1))[l.length-1]! = l[0]!:=by
   rw[k3 _ (Nat.le_refl _),hg,if_pos rfl]
  unfold popL
  generalize dS lt l.length (dR l 0 (l.length-1)) 0 (l.length-1)=d at k1 k2 k3 hlast
  have hd:d.length=l.length:=by rw[k2.length_eq,bP]
  have hp2:d.Perm l:=k2.trans (swapL_perm h0 hl)
  have hsplit:d=d.take (l.length-1)++[l[0]!]:=by
   have:d=d.take (l.length-1)++d.drop (l.length-1):=(List.take_append_drop _ _).symm
   rw[getElem!_pos d _ (by omega)] at hlast
   rw[List.drop_eq_getElem_cons (by omega),hlast,List.drop_of_length_le (by omega)] at this
   exact this
  have hperm:(l[0]!::d.take (l.length-1)).Perm l:=by
   refine List.Perm.trans ?_ hp2
   conv=>rhs;rw[hsplit]
   exact(List.perm_append_singleton _ _).symm
  refine⟨?_,hperm,hlast,by simp;omega,fun x hx=>?_⟩
  ·intro k hk hk2;simp only[List.length_take] at hk2;have a1:(d.take (l.length-1))[k]! = d[k]!:=by
    rw[getElem!_pos _ k (by simp;omega),getElem!_pos d k (by omega),List.getElem_take]
   have a2:(d.take (l.length-1))[(k-1) / 2]! = d[(k-1) / 2]!:=by
    rw[getElem!_pos _ _ (by simp;omega),getElem!_pos d _ (by omega),List.getElem_take]
   rw[a1,a2];exact k1 k hk (by omega)
  have hx2:x∈l:=hperm.mem_iff.1 (List.mem_cons_of_mem _ hx)
  obtain⟨k,hk,rfl⟩:=List.mem_iff_getElem.1 hx2;have:=heap_min O h k hk
  rwa [getElem!_pos l k hk] at this
 ·intro k hk0 hk hp;rw[hg,hg,if_neg (by omega),if_neg (by omega),if_neg (by omega),if_neg hp]
  exact h k hk0 (by omega)
 intro k hk0 hk hi0 hp;omega
end Go.HP

namespace Go.GP
section
variable {V:Type}[DecidableEq V]
def Free (E:List (V×V)) (left:List V) (v:V):Prop:=∀e∈E,e.2=v->e.1∉left
inductive eZ (lt:V->V->Bool) (E:List (V×V)):List V->List V->Prop
 |nil {left:List V}(h:∀v∈left,¬Free E left v):eZ lt E left []
 |cons {left:List V}{v:V}{L:List V}(h1:v∈left) (h2:Free E left v) (h3:∀u∈left,Free E left u->lt u v=false) (h4:eZ lt E (left.erase v) L):eZ lt E left (v::L)
variable {lt:V->V->Bool}
theorem Free.congr {E E':List (V×V)}{left left':List V}{v:V}(hE:∀e,e∈E↔e∈E') (hl:∀u,u∈left↔u∈left') (h:Free E left v):Free E' left' v:=
 fun e he hv hm=>h e ((hE e).2 he) hv ((hl _).2 hm)
theorem eZ.unique (tot:∀a b,lt a b=false->lt b a=false->a=b) {E:List (V×V)}{left L:List V}(h:eZ lt E left L):∀{E':List (V×V)}{left' L':List V},(∀e,e∈E↔e∈E')->left.Perm left'->eZ lt E' left' L'->L=L':=by
 induction h with
 |nil h=>
  intro E' left' L' hE hp h';cases h' with
  |nil _=>rfl
  |cons h1 h2 h3 h4=>exact absurd (h2.congr (fun e=>(hE e).symm) (fun u=>hp.symm.mem_iff)) (h _ (hp.mem_iff.2 h1))
 |cons h1 h2 h3 h4 ih=>
  intro E' left' L' hE hp h';cases h' with
  |nil h=>exact absurd (h2.congr hE (fun u=>hp.mem_iff)) (h _ (hp.mem_iff.1 h1))
  |cons g1 g2 g3 g4=>
   have e:=tot _ _ (g3 _ (hp.mem_iff.1 h1) (h2.congr hE (fun u=>hp.mem_iff))) (h3 _ (hp.mem_iff.2 g1) (g2.congr (fun e=>(hE e).symm) (fun u=>hp.symm.mem_iff)))
   subst e;rw[ih hE (hp.erase _) g4]
theorem eZ.perm {E:List (V×V)}{left L:List V}(h:eZ lt E left L) (r:V->Nat) (hr:∀e∈E,e.1∈left->e.2∈left->r e.1<r e.2):L.Perm left:=by
 induction h with
 |@nil left h=>
  cases left with
  |nil=>exact List.Perm.refl _
  |cons x l=>
   exfalso;have key:∀n (v:V),r v<=n->v∈x::l->False:=by
    intro n
    induction n with
    |zero=>
     intro v hv hm;exact h v hm fun e he hev hmem=>by have:=hr e he hmem (by rw[hev];exact hm);rw[hev] at this;omega
    |succ n ih=>
     intro v hv hm;refine h v hm fun e he hev hmem=>?_
     have:=hr e he hmem (by rw[hev];exact hm)
     rw[hev] at this;exact ih e.1 (by omega) hmem
   exact key _ x (Nat.le_refl _) (by simp)
 |cons h1 h2 h3 h4 ih=>
  refine List.Perm.trans (List.Perm.cons _ (ih fun e he ha hb=>hr e he (List.mem_of_mem_erase ha) (List.mem_of_mem_erase hb))) ?_
  exact(List.perm_cons_erase h1).symm
theorem eZ.sub {E:List (V×V)}{left L:List V}(h:eZ lt E left L):∀v∈L,v∈left:=by
 induction h with
 |nil h=>intro v hv;cases hv
 |cons h1 h2 h3 h4 ih=>
  intro u hu;rcases List.mem_cons.1 hu with rfl|hu
  ·exact h1
  exact List.mem_of_mem_erase (ih u hu)
theorem eZ.order {E:List (V×V)}{left L:List V}(h:eZ lt E left L) (hn:left.Nodup):L.Pairwise (fun x y=>(y,x)∉E)/\L.Nodup:=by
 induction h with
 |nil h=>exact⟨List.Pairwise.nil,List.nodup_nil⟩
 |@cons left v L h1 h2 h3 h4 ih=>
  obtain⟨i1,i2⟩:=ih (hn.erase v);refine⟨List.pairwise_cons.2 ⟨fun y hy he=>h2 _ he rfl (List.mem_of_mem_erase (h4.sub y hy)),i1⟩,List.nodup_cons.2 ⟨fun hm=>?_,i2⟩⟩
  have:=h4.sub v hm
  rw[hn.mem_erase_iff] at this;exact this.1 rfl
inductive Rch (E:List (V×V)):V->V->Prop
 |one {a b:V}(h:(a,b)∈E):Rch E a b
 |cons {a c b:V}(h:(a,c)∈E) (t:Rch E c b):Rch E a b
theorem Rch.mono {E E':List (V×V)}{a b:V}(h:Rch E a b) (hE:∀e∈E,e∈E'):Rch E' a b:=by
 induction h with
 |one h=>exact .one (hE _ h)
 |cons h t ih=>exact .cons (hE _ h) ih
theorem Rch.trans {E:List (V×V)}{a b c:V}(h:Rch E a b) (k:Rch E b c):Rch E a c:=by
 induction h with
 |one h=>exact .cons h k
 |cons h t ih=>exact .cons h (ih k)
theorem Rch.snoc {E:List (V×V)}{a b c:V}(h:Rch E a b) (k:(b,c)∈E):Rch E a c:=h.trans (.one k)
theorem Rch.rank {E:List (V×V)}{a b:V}(h:Rch E a b) (r:V->Nat) (hr:∀e∈E,r e.1<r e.2):r a<r b:=by
 induction h with
 |one h=>exact hr _ h
 |cons h t ih=>exact Nat.lt_trans (hr _ h) ih
theorem Rch.src {E:List (V×V)}{a b:V}(h:Rch E a b):∃c,(a,c)∈E:=by
 cases h with
 |one h=>exact⟨_,h⟩
 |cons h t=>exact⟨_,h⟩
theorem Rch.tgt {E:List (V×V)}{a b:V}(h:Rch E a b):∃c,(c,b)∈E:=by
 induction h with
 |one h=>exact⟨_,h⟩
 |cons h t ih=>exact ih
end
end Go.GP
