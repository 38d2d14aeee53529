/- Walks. -/
import Derived.Test.YtbejcoeajlhmcaaGreatPart2
import Derived.DeepKeys5
import Derived.Lib.Bytealg
set_option linter.unusedVariables false
set_option linter.unusedSimpArgs false
set_option linter.unusedSectionVars false

namespace Go.GP
abbrev HashB:={ l:List UInt8 // l.length=32 }
abbrev ay:=HashB×Int
def h0:HashB:=⟨List.replicate 32 0,by simp⟩
instance:Inhabited HashB:=⟨h0⟩
def aU:ay:=(h0,-1)
def bQ:ay:=(h0,-2)
theorem root_ne_end:aU≠bQ:=by decide
structure ar where
 patch:HashB
 at_:Int
 first:Int
 up:ay
 down:ay
 lines:List ByteArray
 gone:List ay
def ar.vtx (p:ar) (i:Nat):ay:=(p.patch,p.first+(i:Int))
def ar.name (p:ar):HashB×Int:=(p.patch,p.at_)
def own (p:ar):List ay:=(List.range p.lines.length).map p.vtx
def dx {V:Type}:List V->List (V×V)
 |a::b::r=>(a,b)::dx (b::r)
 |_=>[]
def way (p:ar):List ay:=p.up::(own p++[p.down])
def dB (p:ar):List (ay×ay):=if p.lines.length=0 then [] else dx (way p)
def names (p:ar):List ay:=p.up::p.down::p.gone
def bh (ps:List ar):List ay:=ps.flatMap own
def cN (ps:List ar):List (ay×ay):=ps.flatMap dB
def HasV (ps:List ar) (v:ay):Prop:=v=aU∨v=bQ∨v∈bh ps
def Bef (ps:List ar) (a b:ay):Prop:=HasV ps a/\HasV ps b/\a≠b/\a≠bQ/\b≠aU/\(a=aU∨b=bQ∨Rch (cN ps) a b)
theorem dG {p:ar}{v:ay}:v∈own p↔∃i,i<p.lines.length/\p.vtx i=v:=by
 unfold own;simp[List.mem_map]
theorem vtx_inj {p:ar}{i j:Nat}(h:p.vtx i=p.vtx j):i=j:=by
 have:=congrArg Prod.snd h
 simp only[ar.vtx] at this;omega
theorem own_nodup (p:ar):(own p).Nodup:=by
 unfold own List.Nodup;rw[List.pairwise_map];exact List.Pairwise.imp (fun h e=>h (vtx_inj e)) List.nodup_range
theorem eE (p:ar):(own p).length=p.lines.length:=by simp[own]
theorem edgeL_mem {V:Type}{l:List V}{e:V×V}:e∈dx l↔∃i,l[i]? = some e.1/\l[i+1]? = some e.2:=by
 induction l with
 |nil=>simp[dx]
 |cons a l ih=>
  cases l with
  |nil=>simp[dx]
  |cons b r=>
   simp only[dx,List.mem_cons,ih];constructor
   ·rintro (rfl|⟨i,h1,h2⟩)
    ·exact⟨0,rfl,rfl⟩
    exact⟨i+1,by simpa using h1,by simpa using h2⟩
   rintro⟨i,h1,h2⟩;cases i with
   |zero=>
    simp at h1 h2;left;exact Prod.ext h1.symm h2.symm
   |succ i=>exact .inr ⟨i,by simpa using h1,by simpa using h2⟩
theorem way_get (p:ar) (i:Nat):(way p)[i]? = if i=0 then some p.up else if i<=p.lines.length then some (p.vtx (i-1)) else if i=p.lines.length+1 then some p.down else none:=by
 unfold way;cases i with
 |zero=>simp
 |succ i=>
  rw[List.getElem?_cons_succ,if_neg (by omega),List.getElem?_append,eE]
  by_cases h:i<p.lines.length
  ·rw[if_pos h,if_pos (by omega)]
   simp[own,h]
  rw[if_neg h,if_neg (by omega)]
  by_cases h2:i=p.lines.length
  ·subst h2;simp
  rw[if_neg (by omega),List.getElem?_eq_none (by simp;omega)]
theorem mem_edges {p:ar}{e:ay×ay}:e∈dB p↔∃i,i<=p.lines.length/\0<p.lines.length/\e.1=(if i=0 then p.up else p.vtx (i-1))/\e.2=(if i<p.lines.length then p.vtx i else p.down):=by
 unfold dB;by_cases h:p.lines.length=0
 ·rw[if_pos h];constructor
  ·intro h;cases h
  rintro⟨i,h1,h2,_⟩;omega
 rw[if_neg h,edgeL_mem];constructor
 ·rintro⟨i,h1,h2⟩;rw[way_get] at h1 h2;have hi:i<=p.lines.length:=by
   by_cases h3:i<=p.lines.length
   ·exact h3
   rw[if_neg (by omega),if_neg (by omega),if_neg (by omega)] at h2
   cases h2
  refine⟨i,hi,by omega,?_,?_⟩
  ·split at h1
   ·rename_i h0;rw[if_pos h0];exact(Option.some.inj h1).symm
   rename_i h0;rw[if_neg h0];exact(Option.some.inj h1).symm
  rw[if_neg (by omega)] at h2
  by_cases h3:i<p.lines.length
  ·rw[if_pos h3];rw[if_pos (by omega)] at h2;exact(Option.some.inj h2).symm
  rw[if_neg h3];rw[if_neg (by omega),if_pos (by omega)] at h2;exact(Option.some.inj h2).symm
 rintro⟨i,h1,h2,h3,h4⟩;refine⟨i,?_,?_⟩
 ·rw[way_get,h3];split<;>rfl
 rw[way_get,h4,if_neg (by omega)]
 by_cases h5:i<p.lines.length
 ·rw[if_pos (by omega),if_pos h5];rfl
 rw[if_neg (by omega),if_pos (by omega),if_neg h5]
theorem edge_src {p:ar}{e:ay×ay}(h:e∈dB p):e.1=p.up∨e.1∈own p:=by
 obtain⟨i,h1,h2,h3,h4⟩:=mem_edges.1 h;by_cases h0:i=0
 ·rw[if_pos h0] at h3;exact .inl h3
 rw[if_neg h0] at h3;exact .inr (dG.2 ⟨i-1,by omega,h3.symm⟩)
theorem edge_tgt {p:ar}{e:ay×ay}(h:e∈dB p):e.2=p.down∨e.2∈own p:=by
 obtain⟨i,h1,h2,h3,h4⟩:=mem_edges.1 h;by_cases h0:i<p.lines.length
 ·rw[if_pos h0] at h4;exact .inr (dG.2 ⟨i,h0,h4.symm⟩)
 rw[if_neg h0] at h4;exact .inl h4
theorem bN {ps:List ar}{v:ay}:v∈bh ps↔∃p∈ps,v∈own p:=List.mem_flatMap
theorem fF {ps:List ar}{e:ay×ay}:e∈cN ps↔∃p∈ps,e∈dB p:=List.mem_flatMap
structure New (ps:List ar) (p:ar):Prop where
 name:∀q∈ps,q.name≠p.name
 own:∀v∈own p,v∉bh ps
 first:0<=p.first
 upE:p.up≠bQ
 downR:p.down≠aU
 gone0:p.gone.Nodup
 goneR:∀v∈p.gone,v≠aU/\v≠bQ
 up:HasV ps p.up
 down:HasV ps p.down
 gone:∀v∈p.gone,v∈bh ps
 bef:Bef ps p.up p.down
inductive Sq:List ar->Prop
 |nil:Sq []
 |cons {p:ar}{ps:List ar}(h:New ps p) (t:Sq ps):Sq (p::ps)
theorem own_ge {p:ar}(h:0<=p.first) {v:ay}(hv:v∈own p):0<=v.2:=by
 obtain⟨i,_,rfl⟩:=dG.1 hv;simp only[ar.vtx];omega
theorem Sq.ge {ps:List ar}(h:Sq ps) {v:ay}(hv:v∈bh ps):0<=v.2:=by
 induction h with
 |nil=>simp[bh] at hv
 |cons h t ih=>
  obtain⟨q,hq,hv2⟩:=bN.1 hv;rcases List.mem_cons.1 hq with rfl|hq
  ·exact own_ge h.first hv2
  exact ih (bN.2 ⟨q,hq,hv2⟩)
theorem ge_ne {v:ay}(h:0<=v.2):v≠aU/\v≠bQ:=by
 constructor
 ·rintro rfl;revert h;decide
 rintro rfl;revert h;decide
theorem Sq.line {ps:List ar}(h:Sq ps) {v:ay}(hv:v∈bh ps):v≠aU/\v≠bQ:=ge_ne (h.ge hv)
theorem Sq.edge {ps:List ar}(h:Sq ps) {e:ay×ay}(he:e∈cN ps):(e.1=aU∨e.1∈bh ps)/\(e.2=bQ∨e.2∈bh ps):=by
 induction h with
 |nil=>simp[cN] at he
 |@cons p ps h t ih=>
  obtain⟨q,hq,he2⟩:=fF.1 he;have up:∀v,v∈bh ps->v∈bh (p::ps):=fun v hv=>by
   obtain⟨r,hr,hv⟩:=bN.1 hv;exact bN.2 ⟨r,List.mem_cons_of_mem _ hr,hv⟩
  rcases List.mem_cons.1 hq with rfl|hq
  ·constructor
   ·rcases edge_src he2 with h1|h1
    ·rcases h.up with h2|h2|h2
     ·exact .inl (h1.trans h2)
     ·exact absurd h2 h.upE
     exact .inr (by rw[h1];exact up _ h2)
    exact .inr (bN.2 ⟨q,hq,h1⟩)
   rcases edge_tgt he2 with h1|h1
   ·rcases h.down with h2|h2|h2
    ·exact absurd h2 h.downR
    ·exact .inl (h1.trans h2)
    exact .inr (by rw[h1];exact up _ h2)
   exact .inr (bN.2 ⟨q,hq,h1⟩)
  obtain⟨i1,i2⟩:=ih (fF.2 ⟨q,hq,he2⟩);exact⟨i1.imp_right (up _),i2.imp_right (up _)⟩
theorem Sq.noEnd {ps:List ar}(h:Sq ps) {b:ay}:¬Rch (cN ps) bQ b:=by
 intro hr;obtain⟨c,hc⟩:=hr.src;rcases(h.edge hc).1 with h1|h1
 ·exact root_ne_end h1.symm
 exact(h.line h1).2 rfl
theorem Sq.rank {ps:List ar}(h:Sq ps):∃r:ay->Nat,(∀e∈cN ps,r e.1<r e.2)/\(∀v∈bh ps,r aU<r v/\r v<r bQ)/\r aU<r bQ:=by
 induction h with
 |nil=>exact⟨fun v=>if v=bQ then 1 else 0,by simp[cN],by simp[bh],by decide⟩
 |@cons p ps h t ih=>
  obtain⟨r,h1,h2,h3⟩:=ih;have hb:r p.up<r p.down:=by
   obtain⟨b1,b2,b3,b4,b5,b6⟩:=h.bef;rcases b6 with b6|b6|b6
   ·rw[b6];rcases b2 with b2|b2|b2
    ·exact absurd b2 b5
    ·rw[b2];exact h3
    exact(h2 _ b2).1
   ·rw[b6];rcases b1 with b1|b1|b1
    ·rw[b1];exact h3
    ·exact absurd b1 b4
    exact(h2 _ b1).2
   exact b6.rank r h1
  let K:=p.lines.length+1
  let r':ay->Nat:=fun v=>if v∈own p then K*r p.up+((v.2-p.first).toNat+1) else K*r v
  have hown:∀i,i<p.lines.length->r' (p.vtx i)=K*r p.up+(i+1):=by
   intro i hi;have:p.vtx i∈own p:=dG.2 ⟨i,hi,rfl⟩
   show(if p.vtx i∈own p then K*r p.up+(((p.vtx i).2-p.first).toNat+1) else K*r (p.vtx i))=_
   rw[if_pos this];simp only[ar.vtx];omega
  have hold:∀v,v∉own p->r' v=K*r v:=fun v hv=>by simp only[r',if_neg hv]
  have hvold:∀v,HasV ps v->v∉own p:=by
   intro v hv hm;have:=ge_ne (own_ge h.first hm)
   rcases hv with hv|hv|hv
   ·exact this.1 hv
   ·exact this.2 hv
   exact h.own v hm hv
  have hK:∀a b,a<b->K*a+p.lines.length<K*b:=by
   intro a b hab;have:K*(a+1)<=K*b:=Nat.mul_le_mul_left _ hab
   rw[Nat.mul_add,Nat.mul_one] at this;omega
  have hK0:∀a b,a<b->K*a<K*b:=fun a b hab=>by have:=hK a b hab;omega
  have hr0:aU∉own p:=hvold _ (.inl rfl)
  have he0:bQ∉own p:=hvold _ (.inr (.inl rfl))
  refine⟨r',?_,?_,?_⟩
  ·intro e he;obtain⟨q,hq,he2⟩:=fF.1 he;rcases List.mem_cons.1 hq with rfl|hq
   ·obtain⟨i,i1,i2,i3,i4⟩:=mem_edges.1 he2;have s1:r' e.1=K*r q.up+i:=by
     rw[i3];split
     ·rename_i h0;rw[hold _ (hvold _ h.up),h0];rfl
     rename_i h0;rw[hown _ (by omega)];omega
    have s2:K*r q.up+i<r' e.2:=by
     rw[i4];split
     ·rename_i h0;rw[hown _ h0];omega
     rw[hold _ (hvold _ h.down)];have:=hK _ _ hb
     omega
    omega
   have he':e∈cN ps:=fF.2 ⟨q,hq,he2⟩
   obtain⟨e1,e2⟩:=t.edge he';rw[hold _ (hvold _ (e1.imp_right .inr)),hold _ (hvold _ (.inr e2))];exact hK0 _ _ (h1 e he')
  ·intro v hv;rw[hold _ hr0,hold _ he0];obtain⟨q,hq,hv2⟩:=bN.1 hv;rcases List.mem_cons.1 hq with rfl|hq
   ·obtain⟨i,hi,rfl⟩:=dG.1 hv2;rw[hown i hi];have hup:r aU<=r q.up:=by
     rcases h.up with h4|h4|h4
     ·rw[h4];exact Nat.le_refl _
     ·exact absurd h4 h.upE
     exact Nat.le_of_lt (h2 _ h4).1
    have hdn:r q.down<=r bQ:=by
     rcases h.down with h4|h4|h4
     ·exact absurd h4 h.downR
     ·rw[h4];exact Nat.le_refl _
     exact Nat.le_of_lt (h2 _ h4).2
    have a1:K*r aU<=K*r q.up:=Nat.mul_le_mul_left _ hup
    have a2:=hK _ _ (Nat.lt_of_lt_of_le hb hdn)
    omega
   have hv':v∈bh ps:=bN.2 ⟨q,hq,hv2⟩
   rw[hold _ (hvold _ (.inr (.inr hv')))];exact⟨hK0 _ _ (h2 v hv').1,hK0 _ _ (h2 v hv').2⟩
  rw[hold _ hr0,hold _ he0];exact hK0 _ _ h3
theorem Sq.irrefl {ps:List ar}(h:Sq ps) {v:ay}:¬Rch (cN ps) v v:=by
 intro hr;obtain⟨r,h1,_⟩:=h.rank;have:=hr.rank r h1
 omega
theorem HasV.mono {ps qs:List ar}{v:ay}(h:HasV ps v) (hs:∀p∈ps,p∈qs):HasV qs v:=by
 rcases h with h|h|h
 ·exact .inl h
 ·exact .inr (.inl h)
 obtain⟨p,hp,hv⟩:=bN.1 h;exact .inr (.inr (bN.2 ⟨p,hs p hp,hv⟩))
theorem allE_mono {ps qs:List ar}(hs:∀p∈ps,p∈qs):∀e∈cN ps,e∈cN qs:=fun e he=>by
 obtain⟨p,hp,he⟩:=fF.1 he;exact fF.2 ⟨p,hs p hp,he⟩
theorem Bef.mono {ps qs:List ar}{a b:ay}(h:Bef ps a b) (hs:∀p∈ps,p∈qs):Bef qs a b:=
 ⟨h.1.mono hs,h.2.1.mono hs,h.2.2.1,h.2.2.2.1,h.2.2.2.2.1,h.2.2.2.2.2.imp_right fun h=>h.imp_right fun h=>h.mono (allE_mono hs)⟩
theorem New.fresh {ps:List ar}{p:ar}(h:New ps p) (t:Sq ps):(∀v∈GP.own p,∀e∈cN ps,e.1≠v/\e.2≠v)/\(∀v,HasV ps v->v∉GP.own p):=by
 have hvold:∀v,HasV ps v->v∉GP.own p:=by
  intro v hv hm;have:=ge_ne (own_ge h.first hm)
  rcases hv with hv|hv|hv
  ·exact this.1 hv
  ·exact this.2 hv
  exact h.own v hm hv
 refine⟨fun v hv e he=>⟨?_,?_⟩,hvold⟩
 ·rintro rfl;exact hvold _ ((t.edge he).1.imp_right .inr) hv
 rintro rfl;exact hvold _ (.inr (t.edge he).2) hv
theorem New.names_has {ps:List ar}{p:ar}(h:New ps p) {v:ay}(hv:v∈names p):HasV ps v:=by
 unfold names at hv;rcases List.mem_cons.1 hv with rfl|hv
 ·exact h.up
 rcases List.mem_cons.1 hv with rfl|hv
 ·exact h.down
 exact .inr (.inr (h.gone v hv))
theorem Sq.names_has {ps:List ar}(h:Sq ps) {q:ar}(hq:q∈ps) {v:ay}(hv:v∈names q):HasV ps v:=by
 induction h with
 |nil=>cases hq
 |@cons p ps h t ih=>
  rcases List.mem_cons.1 hq with rfl|hq
  ·exact(h.names_has hv).mono fun r hr=>List.mem_cons_of_mem _ hr
  exact(ih hq).mono fun r hr=>List.mem_cons_of_mem _ hr
theorem Sq.gone_has {ps:List ar}(h:Sq ps) {q:ar}(hq:q∈ps) {v:ay}(hv:v∈q.gone):HasV ps v:=h.names_has hq (List.mem_cons_of_mem _ (List.mem_cons_of_mem _ hv))
theorem Bef.trans {ps:List ar}(hs:Sq ps) {a b c:ay}(h:Bef ps a b) (k:Bef ps b c):Bef ps a c:=by
 obtain⟨a1,a2,a3,a4,a5,a6⟩:=h;obtain⟨b1,b2,b3,b4,b5,b6⟩:=k;have hbr:b≠aU:=a5
 have hbe:b≠bQ:=b4
 have h6:=b6.resolve_left hbr
 by_cases har:a=aU
 ·exact⟨a1,b2,by rw[har];exact fun e=>b5 e.symm,a4,b5,.inl har⟩
 by_cases hce:c=bQ
 ·exact⟨a1,b2,by rw[hce];exact a4,a4,b5,.inr (.inl hce)⟩
 have r1:=(a6.resolve_left har).resolve_left hbe
 have r2:=h6.resolve_left hce
 have r3:=r1.trans r2
 exact⟨a1,b2,fun e=>hs.irrefl (e▸r3),a4,b5,.inr (.inr r3)⟩
end Go.GP

namespace Go.GP
open Go.SL
structure bK where
 text:ByteArray
 gone:Int
 named:Int
 next:List ay
def zN:bK:=⟨⟨#[]⟩,0,0,[]⟩
instance:Inhabited bK:=⟨zN⟩
structure Gr where
 parts:List ((HashB×Int)×ar)
 nodes:List (ay×bK)
 first:List ay
def nd (N:List (ay×bK)) (v:ay):bK:=(fo N v).getD zN
def b9 (G:Gr) (v:ay):List ay:=if v=aU then G.first else(nd G.nodes v).next
def linkG (there:Bool) (G:Gr) (e:ay×ay):Gr:=
 if e.1=aU then { G with first:=if there then b9 G e.1++[e.2] else(b9 G e.1).erase e.2 }
 else { G with nodes:=dM G.nodes e.1 { nd G.nodes e.1 with next:=if there then b9 G e.1++[e.2] else(b9 G e.1).erase e.2 } }
def eC (there:Bool) (G:Gr) (es:List (ay×ay)):Gr:=es.foldl (linkG there) G
def name1 (d:Int) (N:List (ay×bK)) (v:ay):List (ay×bK):=match fo N v with|some n=>dM N v { n with named:=n.named+d }|none=>N
def gone1 (d:Int) (N:List (ay×bK)) (v:ay):List (ay×bK):=dM N v { nd N v with gone:=(nd N v).gone+d }
def countG (d:Int) (N:List (ay×bK)) (p:ar):List (ay×bK):=p.gone.foldl (gone1 d) ((names p).foldl (name1 d) N)
def laidN (N:List (ay×bK)) (p:ar) (k:Nat):List (ay×bK):=(List.range k).foldl (fun N i=>dM N (p.vtx i) ⟨p.lines[i]!,0,0,[]⟩) N
def addG (G:Gr) (p:ar):Gr:=
 let G1:=eC true { parts:=dM G.parts p.name p,nodes:=laidN G.nodes p p.lines.length,first:=G.first } (dB p)
 { G1 with nodes:=countG 1 G1.nodes p }
def dX (G:Gr) (v:ay):Prop:=v=aU∨v=bQ∨v∈bu G.nodes
def EG (N:List (ay×bK)):List (ay×ay):=N.flatMap fun p=>p.2.next.map fun w=>(p.1,w)
def BefG (G:Gr) (a b:ay):Prop:=dX G a/\dX G b/\a≠b/\a≠bQ/\b≠aU/\(a=aU∨b=bQ∨Rch (EG G.nodes) a b)
def eM (G:Gr) (p:ar):Prop:=p.name∈bu G.parts∨∃v∈own p,v∈bu G.nodes
structure eJ (p:ar):Prop where
 gone0:p.gone.Nodup
 goneR:∀v∈p.gone,v≠aU/\v≠bQ
 first:0<=p.first
 upE:p.up≠bQ
 downR:p.down≠aU
def outE (ps:List ar) (v:ay):List ay:=((cN ps).filter fun e=>decide (e.1=v)).map (·.2)
def dJ (v:ay) (l:List ay):Int:=(l.count v:Nat)
structure NodeOk (ps:List ar) (v:ay) (n:bK):Prop where
 gone:n.gone=dJ v (ps.flatMap (·.gone))
 named:n.named=dJ v (ps.flatMap names)
 next:n.next.Perm (outE ps v)
structure Inv (ps:List ar) (G:Gr):Prop where
 pk:(bu G.parts).Nodup
 part:∀q,(q.name,q)∈G.parts↔q∈ps
 pname:∀q∈G.parts,q.1=q.2.name
 nk:(bu G.nodes).Nodup
 keys:∀v,v∈bu G.nodes↔v∈bh ps
 node:∀v n,fo G.nodes v=some n->NodeOk ps v n
 text:∀p∈ps,∀i s,p.lines[i]? = some s->(nd G.nodes (p.vtx i)).text=s
 first:G.first.Perm (outE ps aU)
theorem Inv.nil:Inv [] ⟨[],[],[]⟩:=⟨by simp[bu],by simp,by simp,by simp[bu],by simp[bu,bh],by simp[mgt_nil],by simp,by simp[outE,cN]⟩
theorem mks_mpt_mem {α β:Type}[DecidableEq α] (l:List (α×β)) (a c:α) (b:β):c∈bu (dM l a b)↔c=a∨c∈bu l:=by
 rw[mks_mpt];split
 ·rename_i h;constructor
  ·exact .inr
  rintro (rfl|h2)
  ·exact h
  exact h2
 simp;exact or_comm
theorem mem_mks {α β:Type}[DecidableEq α] {l:List (α×β)}{a:α}:a∈bu l↔∃b,fo l a=some b:=by
 constructor
 ·intro h;cases e:fo l a with
  |none=>exact absurd h (mgt_none.1 e)
  |some b=>exact⟨b,rfl⟩
 rintro⟨b,h⟩;exact List.mem_map.2 ⟨_,dZ h,rfl⟩
theorem nd_some {N:List (ay×bK)}{v:ay}(h:v∈bu N):fo N v=some (nd N v):=by
 obtain⟨b,hb⟩:=mem_mks.1 h;unfold nd;rw[hb];rfl
theorem nd_mpt (N:List (ay×bK)) (a c:ay) (n:bK):nd (dM N a n) c=if c=a then n else nd N c:=by
 unfold nd;rw[mgt_mpt];split<;>rfl
theorem laidN_spec {N:List (ay×bK)}{p:ar}:∀k,k<=p.lines.length->(∀v,v∈bu (laidN N p k)↔v∈bu N∨∃i,i<k/\p.vtx i=v)/\((bu N).Nodup->(bu (laidN N p k)).Nodup) /\
  (∀v,(∀i,i<k->p.vtx i≠v)->nd (laidN N p k) v=nd N v)/\∀i,i<k->nd (laidN N p k) (p.vtx i)=⟨p.lines[i]!,0,0,[]⟩
 |0,_=>by simp[laidN]
 |k+1,h=>by
  obtain⟨h1,h2,h3,h4⟩:=laidN_spec (N:=N) (p:=p) k (by omega)
  have e:laidN N p (k+1)=dM (laidN N p k) (p.vtx k) ⟨p.lines[k]!,0,0,[]⟩:=by
   unfold laidN;rw[List.range_succ,List.foldl_append];rfl
  rw[e];refine⟨fun v=>?_,fun hn=>mpt_nodup (h2 hn) _ _,fun v hv=>?_,fun i hi=>?_⟩
  ·rw[mks_mpt_mem,h1];constructor
   ·rintro (rfl|h|⟨i,hi,rfl⟩)
    ·exact .inr ⟨k,by omega,rfl⟩
    ·exact .inl h
    exact .inr ⟨i,by omega,rfl⟩
   rintro (h|⟨i,hi,rfl⟩)
   ·exact .inr (.inl h)
   by_cases hk:i=k
   ·subst hk;exact .inl rfl
   exact .inr (.inr ⟨i,by omega,rfl⟩)
  ·rw[nd_mpt,if_neg (fun e=>hv k (by omega) e.symm)]
   exact h3 v fun i hi=>hv i (by omega)
  rw[nd_mpt];by_cases hk:i=k
  ·subst hk;rw[if_pos rfl]
  rw[if_neg (fun e=>hk (vtx_inj e))]
  exact h4 i (by omega)
theorem name1_spec (d:Int) (N:List (ay×bK)) (v:ay):bu (name1 d N v)=bu N/\∀c,nd (name1 d N v) c=if c=v/\c∈bu N then { nd N c with named:=(nd N c).named+d } else nd N c:=by
 unfold name1;cases e:fo N v with
 |none=>
  refine⟨rfl,fun c=>?_⟩
  have:=mgt_none.1 e
  by_cases hc:c=v/\c∈bu N
  ·exact absurd (hc.1▸hc.2) this
  rw[if_neg hc]
 |some n=>
  have hm:v∈bu N:=mem_mks.2 ⟨n,e⟩
  have hn:nd N v=n:=by unfold nd;rw[e];rfl
  refine⟨by simp only;rw[mks_mpt,if_pos hm],fun c=>?_⟩
  simp only;rw[nd_mpt];by_cases hc:c=v
  ·subst hc;rw[if_pos rfl,if_pos ⟨rfl,hm⟩,hn]
  rw[if_neg hc,if_neg (fun h=>hc h.1)]
theorem cntV_cons (v a:ay) (l:List ay):dJ v (a::l)=dJ v l+if a=v then 1 else 0:=by
 unfold dJ;rw[List.count_cons];by_cases h:a=v
 ·simp[h]
 simp[h]
theorem cntV_app (v:ay) (a b:List ay):dJ v (a++b)=dJ v a+dJ v b:=by
 unfold dJ;rw[List.count_append];omega
theorem names_spec (d:Int):∀(l:List ay) (N:List (ay×bK)),bu (l.foldl (name1 d) N)=bu N/\∀c∈bu N,nd (l.foldl (name1 d) N) c={ nd N c with named:=(nd N c).named+d*dJ c l }
 |[],N=>by simp[dJ]
 |a::l,N=>by
  obtain⟨h1,h2⟩:=name1_spec d N a;obtain⟨i1,i2⟩:=names_spec d l (name1 d N a);simp only[List.foldl_cons];refine⟨i1.trans h1,fun c hc=>?_⟩
  rw[i2 c (by rw[h1];exact hc),h2,cntV_cons]
  by_cases hca:c=a
  ·subst hca;rw[if_pos ⟨rfl,hc⟩,if_pos rfl];simp only[bK.mk.injEq,true_and,and_true];rw[Int.mul_add];omega
  rw[if_neg (fun h=>hca h.1),if_neg (fun h=>hca h.symm)]
  simp
theorem gone1_spec (d:Int) (N:List (ay×bK)) (v:ay):(∀c,c∈bu (gone1 d N v)↔c=v∨c∈bu N)/\((bu N).Nodup->(bu (gone1 d N v)).Nodup)/\∀c,nd (gone1 d N v) c=if c=v then { nd N c with gone:=(nd N c).gone+d } else nd N c:=by
 unfold gone1;refine⟨fun c=>mks_mpt_mem _ _ _ _,fun h=>mpt_nodup h _ _,fun c=>?_⟩
 rw[nd_mpt];split
 ·rename_i h;subst h;rfl
 rfl
theorem gones_spec (d:Int):∀(l:List ay) (N:List (ay×bK)),(∀v∈l,v∈bu N)->(∀c,c∈bu (l.foldl (gone1 d) N)↔c∈bu N)/\((bu N).Nodup->(bu (l.foldl (gone1 d) N)).Nodup) /\
  ∀c,nd (l.foldl (gone1 d) N) c={ nd N c with gone:=(nd N c).gone+d*dJ c l }
 |[],N,_=>by simp[dJ]
 |a::l,N,h=>by
  obtain⟨h1,h2,h3⟩:=gone1_spec d N a;have ha:=h a (by simp)
  obtain⟨i1,i2,i3⟩:=gones_spec d l (gone1 d N a) (fun v hv=>(h1 v).2 (.inr (h v (by simp[hv]))))
  simp only[List.foldl_cons];refine⟨fun c=>?_,fun hn=>i2 (h2 hn),fun c=>?_⟩
  ·rw[i1,h1];constructor
   ·rintro (rfl|h)
    ·exact ha
    exact h
   exact .inr
  rw[i3,h3,cntV_cons];by_cases hca:c=a
  ·subst hca;rw[if_pos rfl,if_pos rfl];simp only[bK.mk.injEq,true_and,and_true];rw[Int.mul_add];omega
  rw[if_neg hca,if_neg (fun h=>hca h.symm)]
  simp
theorem countG_spec {d:Int}{N:List (ay×bK)}{p:ar}(hg:∀v∈p.gone,v∈bu N):(∀c,c∈bu (countG d N p)↔c∈bu N)/\((bu N).Nodup->(bu (countG d N p)).Nodup) /\
  ∀c∈bu N,nd (countG d N p) c=⟨(nd N c).text,(nd N c).gone+d*dJ c p.gone,(nd N c).named+d*dJ c (names p),(nd N c).next⟩:=by
 obtain⟨h1,h2⟩:=names_spec d (names p) N;obtain⟨i1,i2,i3⟩:=gones_spec d p.gone ((names p).foldl (name1 d) N) (fun v hv=>by rw[h1];exact hg v hv)
 unfold countG;refine⟨fun c=>by rw[i1,h1],fun hn=>i2 (by rw[h1];exact hn),fun c hc=>?_⟩
 rw[i3,h2 c hc]
def outL (es:List (ay×ay)) (v:ay):List ay:=(es.filter fun e=>decide (e.1=v)).map (·.2)
theorem outL_cons (e:ay×ay) (es:List (ay×ay)) (v:ay):outL (e::es) v=(if e.1=v then [e.2] else [])++outL es v:=by
 unfold outL;rw[List.filter_cons];by_cases h:e.1=v<;>simp[h]
def undo (there:Bool) (l es:List ay):List ay:=es.foldl (fun l w=>if there then l++[w] else l.erase w) l
theorem linkG_spec (there:Bool) (G:Gr) (e:ay×ay) (he:e.1=aU∨e.1∈bu G.nodes) (hr:aU∉bu G.nodes):(linkG there G e).parts=G.parts/\bu (linkG there G e).nodes=bu G.nodes /\
  (∀c∈bu G.nodes,nd (linkG there G e).nodes c={ nd G.nodes c with next:=undo there (nd G.nodes c).next (outL [e] c) })/\(linkG there G e).first=undo there G.first (outL [e] aU):=by
 unfold linkG;by_cases h:e.1=aU
 ·rw[if_pos h];refine⟨rfl,rfl,fun c hc=>?_,?_⟩
  ·have:e.1≠c:=fun e2=>hr (by rw[<- h,e2];exact hc)
   rw[outL_cons,if_neg this];simp[outL,undo]
  rw[outL_cons,if_pos h];simp[outL,undo,b9,h]
 have hm:=he.resolve_left h
 rw[if_neg h];refine⟨rfl,?_,fun c hc=>?_,?_⟩
 ·rw[mks_mpt,if_pos hm]
 ·rw[nd_mpt,outL_cons];by_cases hc2:c=e.1
  ·subst hc2;rw[if_pos rfl,if_pos rfl];simp[outL,undo,b9,h]
  rw[if_neg hc2,if_neg (fun e=>hc2 e.symm)]
  simp[outL,undo]
 rw[outL_cons,if_neg h];simp[outL,undo]
theorem undo_app (there:Bool) (l a b:List ay):undo there l (a++b)=undo there (undo there l a) b:=by unfold undo;rw[List.foldl_append]
theorem linksG_spec (there:Bool):∀(es:List (ay×ay)) (G:Gr),(∀e∈es,e.1=aU∨e.1∈bu G.nodes)->aU∉bu G.nodes->(eC there G es).parts=G.parts/\bu (eC there G es).nodes=bu G.nodes /\
  (∀c∈bu G.nodes,nd (eC there G es).nodes c={ nd G.nodes c with next:=undo there (nd G.nodes c).next (outL es c) })/\(eC there G es).first=undo there G.first (outL es aU)
 |[],G,_,_=>by simp[eC,outL,undo]
 |e::es,G,h,hr=>by
  obtain⟨h1,h2,h3,h4⟩:=linkG_spec there G e (h e (by simp)) hr
  obtain⟨i1,i2,i3,i4⟩:=linksG_spec there es (linkG there G e) (fun x hx=>by rw[h2];exact h x (by simp[hx])) (by rw[h2];exact hr)
  have hun:eC there G (e::es)=eC there (linkG there G e) es:=rfl
  rw[hun];have hout:∀v,outL (e::es) v=outL [e] v++outL es v:=fun v=>by rw[outL_cons,outL_cons];simp[outL]
  refine⟨i1.trans h1,i2.trans h2,fun c hc=>?_,?_⟩
  ·rw[i3 c (by rw[h2];exact hc),h3 c hc,hout,undo_app]
  rw[i4,h4,hout,undo_app]
theorem undo_true (l a:List ay):undo true l a=l++a:=by
 induction a generalizing l with
 |nil=>simp[undo]
 |cons x a ih=>
  have:undo true l (x::a)=undo true (l++[x]) a:=rfl
  rw[this,ih];simp
theorem outE_cons (p:ar) (ps:List ar) (v:ay):outE (p::ps) v=outL (dB p) v++outE ps v:=by
 unfold outE outL cN;rw[List.flatMap_cons,List.filter_append,List.map_append]
theorem allV_cons (p:ar) (ps:List ar):bh (p::ps)=own p++bh ps:=by unfold bh;rw[List.flatMap_cons]
theorem outL_nil {es:List (ay×ay)}{v:ay}(h:∀e∈es,e.1≠v):outL es v=[]:=by
 unfold outL;rw[List.filter_eq_nil_iff.2 (fun e he=>by simpa using h e he)]
 rfl
theorem cntV_zero {v:ay}{l:List ay}(h:v∉l):dJ v l=0:=by
 unfold dJ;rw[List.count_eq_zero.2 h];rfl
theorem Inv.root {ps:List ar}{G:Gr}(h:Inv ps G) (hs:Sq ps):aU∉bu G.nodes:=fun hm=>(hs.line ((h.keys _).1 hm)).1 rfl
theorem Inv.add {ps:List ar}{G:Gr}{p:ar}(h:Inv ps G) (hs:Sq ps) (hn:New ps p):Inv (p::ps) (addG G p):=by
 have hs':Sq (p::ps):=.cons hn hs
 obtain⟨l1,l2,l3,l4⟩:=laidN_spec (N:=G.nodes) (p:=p) p.lines.length (Nat.le_refl _);have hkeys1:∀v,v∈bu (laidN G.nodes p p.lines.length)↔v∈bh (p::ps):=fun v=>by
  rw[l1,allV_cons,List.mem_append,h.keys,dG];exact or_comm
 generalize hN:laidN G.nodes p p.lines.length=N1 at *
 have hroot1:aU∉bu N1:=fun hm=>(hs'.line ((hkeys1 _).1 hm)).1 rfl
 have hsrc:∀e∈dB p,e.1=aU∨e.1∈bu N1:=fun e he=>by
  rcases(hs'.edge (fF.2 ⟨p,by simp,he⟩)).1 with h1|h1
  ·exact .inl h1
  exact .inr ((hkeys1 _).2 h1)
 obtain⟨k1,k2,k3,k4⟩:=linksG_spec true (dB p) { parts:=dM G.parts p.name p,nodes:=N1,first:=G.first } hsrc hroot1
 have hgo:∀v∈p.gone,v∈bu (eC true { parts:=dM G.parts p.name p,nodes:=N1,first:=G.first } (dB p)).nodes:=fun v hv=>by
  rw[k2];exact(hkeys1 v).2 (by rw[allV_cons];exact List.mem_append_right _ (hn.gone v hv))
 obtain⟨c1,c2,c3⟩:=countG_spec (d:=1) hgo;have hA:addG G p={ parts:=(eC true { parts:=dM G.parts p.name p,nodes:=N1,first:=G.first } (dB p)).parts,nodes:=countG 1 (eC true { parts:=dM G.parts p.name p,nodes:=N1,first:=G.first } (dB p)).nodes p,first:=(eC true { parts:=dM G.parts p.name p,nodes:=N1,first:=G.first } (dB p)).first }:=by
  unfold addG;rw[hN]
 rw[hA];have hnew:p.name∉bu G.parts:=fun hm=>by
  obtain⟨q,hq⟩:=mem_mks.1 hm;have hq':=dZ hq
  have hnm:=h.pname _ hq'
  simp only at hnm;exact hn.name q ((h.part q).1 (by rw[<- hnm];exact hq')) hnm.symm
 obtain⟨f1,f2⟩:=hn.fresh hs;refine⟨?_,?_,?_,?_,?_,?_,?_,?_⟩
 ·simp only;rw[k1];exact mpt_nodup h.pk _ _
 ·intro q;simp only;rw[k1];simp only;rw[mpt_new (a:=p.name) (fun b hb=>hnew (List.mem_map.2 ⟨_,hb,rfl⟩)),List.mem_append,h.part,List.mem_singleton,List.mem_cons]
  constructor
  ·rintro (h1|h1)
   ·exact .inr h1
   exact .inl (Prod.mk.inj h1).2
  rintro (rfl|h1)
  ·exact .inr rfl
  exact .inl h1
 ·intro q;simp only;rw[k1];simp only;rw[mpt_new (a:=p.name) (fun b hb=>hnew (List.mem_map.2 ⟨_,hb,rfl⟩)),List.mem_append,List.mem_singleton]
  rintro (h1|rfl)
  ·exact h.pname q h1
  rfl
 ·simp only;exact c2 (by rw[k2];exact l2 h.nk)
 ·intro v;simp only;rw[c1,k2,hkeys1]
 ·intro v n hv;simp only at hv;have hm0:=mem_mks.2 ⟨n,hv⟩
  have hm1:v∈bu N1:=by rw[c1,k2] at hm0;exact hm0
  have hm2:v∈bu (eC true { parts:=dM G.parts p.name p,nodes:=N1,first:=G.first } (dB p)).nodes:=by rw[k2];exact hm1
  have hnd:=nd_some hm0
  rw[hv] at hnd;obtain rfl:=Option.some.inj hnd;rw[c3 v hm2,k3 v hm1,undo_true];simp only;by_cases hown:v∈own p
  ·obtain⟨i,hi,rfl⟩:=dG.1 hown;rw[l4 i hi];simp only;have hnv:p.vtx i∉bh ps:=hn.own _ hown
   refine⟨?_,?_,?_⟩
   ·rw[List.flatMap_cons,cntV_app];rw[cntV_zero (v:=p.vtx i) (l:=p.gone) (fun hm=>hnv (hn.gone _ hm)),cntV_zero (v:=p.vtx i) (l:=ps.flatMap (·.gone)) (fun hm=>?_)]
    ·simp
    obtain⟨q,hq,hm⟩:=List.mem_flatMap.1 hm;exact(f2 _ (Sq.gone_has hs hq hm)) hown
   ·rw[List.flatMap_cons,cntV_app];have a1:dJ (p.vtx i) (names p)=0:=cntV_zero fun hm=>f2 _ (New.names_has hn hm) hown
    have a2:dJ (p.vtx i) (ps.flatMap names)=0:=cntV_zero fun hm=>by
     obtain⟨q,hq,hm⟩:=List.mem_flatMap.1 hm;exact f2 _ (Sq.names_has hs hq hm) hown
    simp only[a1,a2];simp
   rw[outE_cons];have:outE ps (p.vtx i)=[]:=outL_nil fun e he=>(f1 _ hown e he).1
   rw[this,List.append_nil,List.nil_append]
  have hold:v∈bu G.nodes:=by
   rw[l1] at hm1;rcases hm1 with h1|⟨i,hi,rfl⟩
   ·exact h1
   exact absurd (dG.2 ⟨i,hi,rfl⟩) hown
  rw[l3 v (fun i hi e=>hown (dG.2 ⟨i,hi,e⟩))]
  obtain⟨o1,o2,o3⟩:=h.node v _ (nd_some hold);refine⟨?_,?_,?_⟩
  ·rw[List.flatMap_cons,cntV_app,o1];simp only;omega
  ·rw[List.flatMap_cons,cntV_app,o2];simp only;omega
  rw[outE_cons];exact(List.Perm.append_right _ o3).trans List.perm_append_comm
 ·intro q hq i s hi;simp only;have hil:i<q.lines.length:=(List.getElem?_eq_some_iff.1 hi).1
  have hm1:q.vtx i∈bu N1:=(hkeys1 _).2 (bN.2 ⟨q,hq,dG.2 ⟨i,hil,rfl⟩⟩)
  rw[c3 _ (by rw[k2];exact hm1),k3 _ hm1]
  simp only;rcases List.mem_cons.1 hq with rfl|hq
  ·rw[l4 i hil];simp only;rw[getElem!_pos q.lines i hil];have:=(List.getElem?_eq_some_iff.1 hi).2
   exact this
  have:q.vtx i∈bh ps:=bN.2 ⟨q,hq,dG.2 ⟨i,hil,rfl⟩⟩
  rw[l3 _ (fun j hj e=>hn.own _ (dG.2 ⟨j,hj,e⟩) this)]
  exact h.text q hq i s hi
 simp only;rw[k4,undo_true,outE_cons];exact(List.Perm.append_right _ h.first).trans List.perm_append_comm
end Go.GP

namespace Go.Proofs.Gr
open Go.SL Go.RowKit Go.Proofs Go.GP Go.Proofs.Tryz
set_option maxHeartbeats 1000000
def au (v:ay):List Value:=bd v.1.1++[.int .i64 v.2]
def aP (v:ay):Value:=.agg (au v).toArray
def aI (l:List ay):List Value:=l.flatMap au
def er (v:ay):Prop:=-9223372036854775808<=v.2/\v.2<=9223372036854775807
def v0:ay:=(h0,0)
def z33:List Value:=List.replicate 32 (.int .u8 0)++[.int .i64 0]
theorem cz (h:HashB):(bd h.1).length=32:=by rw[bytesC_length];exact h.2
theorem aa (v:ay):(au v).length=33:=by simp[au,cz]
theorem bT (l:List ay):(aI l).length=l.length*33:=by unfold aI;rw[List.length_flatMap];simp[aa,List.map_const']
theorem dc (a b:List ay):aI (a++b)=aI a++aI b:=by unfold aI;rw[List.flatMap_append]
theorem vtxs_cons (a:ay) (b:List ay):aI (a::b)=au a++aI b:=rfl
theorem vtxs_one1 (a:ay):aI [a] = au a:=by simp[aI]
theorem bL (v:ay):(au v).all (·.oneCell')=true:=by rw[au,List.all_append,bytesC_all];rfl
theorem vtxs_one (l:List ay):(aI l).all (·.oneCell')=true:=by
 rw[List.all_eq_true];intro v hv;obtain⟨a,_,h⟩:=List.mem_flatMap.1 hv;exact List.all_eq_true.1 (bL a) v h
theorem fm {α:Type}[Inhabited α] {enc:α->List Value}{k:Nat}(hk:∀x,(enc x).length=k):∀(l:List α) (t:Nat),t<l.length*k->(l.flatMap enc)[t]? = (enc l[t / k]!)[t % k]?
 |[],t,h=>by simp at h
 |x::l,t,h=>by
  have h':t<l.length*k+k:=by simpa[Nat.add_mul] using h
  have k0:0<k:=by exact Nat.pos_of_ne_zero fun e=>by subst e;simp at h
  rw[List.flatMap_cons];rcases Nat.lt_or_ge t k with a|a
  ·rw[List.getElem?_append_left (by rw[hk];exact a),Nat.div_eq_of_lt a,Nat.mod_eq_of_lt a];simp
  obtain⟨u,rfl⟩:∃u,t=u+k:=⟨t-k,by omega⟩
  rw[List.getElem?_append_right (by rw[hk];omega),hk,Nat.add_sub_cancel,fm hk l u (by omega),Nat.add_div_right _ k0,Nat.add_mod_right]
  simp
theorem vtxs_get {l:List ay}{k:Nat}(hk:k<l.length) {j:Nat}(hj:j<33):(aI l)[k*33+j]? = (au l[k])[j]?:=by
 unfold aI;rw[fm aa l (k*33+j) (by omega),show(k*33+j) / 33=k from by omega,show(k*33+j) % 33=j from by omega,getElem!_pos l k hk]
theorem bE {w0:World}{S:SS}{A:Option Addr}{l:List ay}(h:Rd w0 S A (aI l)) (hk:0<l.length):∃a,A=some a:=
 h.some (fun e=>by have:=bT l;rw[e] at this;simp at this;omega)
theorem bS {w0:World}{S:SS}{a:Addr}{l:List ay}(h:Rd w0 S (some a) (aI l)) {k:Nat}(hk:k<l.length) :
  ∀(j:Nat) (v:Value),(au l[k])[j]? = some v->Cell w0 S ((a.add (k*33)).add j) v:=by
 intro j v hj;have hj2:j<33:=by have:=(List.getElem?_eq_some_iff.1 hj).1;rwa [aa] at this
 rw[aZ];exact h.at (by rw[vtxs_get hk hj2];exact hj)
theorem bytesC_inj:∀{a b:List UInt8},bd a=bd b->a=b
 |[],[],_=>rfl
 |[],_::_,h=>by simp[bd] at h
 |_::_,[],h=>by simp[bd] at h
 |a::l,b::r,h=>by
  simp only[bd,List.map_cons,List.cons.injEq,Value.int.injEq,true_and] at h;obtain⟨h1,h2⟩:=h;have h3:a=b:=UInt8.toNat_inj.1 (by omega)
  rw[h3,bytesC_inj h2]
theorem vtxL_inj {a b:ay}(h:au a=au b):a=b:=by
 unfold au at h;obtain⟨h1,h2⟩:=List.append_inj h (by rw[cz,cz])
 simp only[List.cons.injEq,Value.int.injEq,true_and,and_true] at h2;exact Prod.ext (Subtype.ext (bytesC_inj h1)) h2
theorem vtx_inj' {a b:ay}(h:aP a=aP b):a=b:=by
 unfold aP at h;exact vtxL_inj (by simpa using h)
def KV:List CK:=[.int .u8,.int .u8,.int .u8,.int .u8,.int .u8,.int .u8,.int .u8,.int .u8,.int .u8,.int .u8,.int .u8,.int .u8,.int .u8,.int .u8,.int .u8,.int .u8,.int .u8,.int .u8,.int .u8,.int .u8,.int .u8,.int .u8,.int .u8,.int .u8,.int .u8,.int .u8,.int .u8,.int .u8,.int .u8,.int .u8,.int .u8,.int .u8,.int .i64]
theorem eqL_bytes:∀{x y:List UInt8},x.length=y.length->eqL (List.replicate x.length (.int .u8)) (bd x) (bd y)=some (decide (x=y))
 |[],[],_=>rfl
 |a::l,b::r,h=>by
  have ih:=eqL_bytes (x:=l) (y:=r) (by simpa using h)
  unfold bd at ih ⊢;simp only[List.length_cons,List.replicate_succ,List.map_cons,eqL,eqCell,and_self,if_true,ih,Option.some.injEq];by_cases h1:a=b
  ·subst h1;simp
  have:¬(a.toNat:Int)=(b.toNat:Int):=fun e=>h1 (UInt8.toNat_inj.1 (by omega))
  simp[h1,this]
theorem eqL_app:∀{s t:List CK}{a b a' b':List Value}{p q:Bool},eqL s a a'=some p->eqL t b b'=some q->eqL (s++t) (a++b) (a'++b')=some (p && q)
 |[],t,a,b,a',b',p,q,h,k=>by
  obtain⟨l1,l2⟩:=eqL_len h;have e1:a=[]:=List.eq_nil_of_length_eq_zero l1
  have e2:a'=[]:=List.eq_nil_of_length_eq_zero l2
  subst e1;subst e2;have:p=true:=by simpa[eqL] using h.symm
  subst this;simpa using k
 |c::s,t,a,b,a',b',p,q,h,k=>by
  obtain⟨x,xs,y,ys,p1,q1,rfl,rfl,h1,h2,rfl⟩:=eqL_cons h;have:=eqL_app h2 k
  simp only[List.cons_append,eqL,h1,this];rw[Bool.and_assoc]
theorem aO (a b:ay):eqL KV (au a) (au b)=some (decide (a=b)):=by
 have h1:=eqL_bytes (x:=a.1.1) (y:=b.1.1) (a.1.2.trans b.1.2.symm)
 rw[a.1.2] at h1;have:=eqL_app h1 (show eqL [.int .i64] [.int .i64 a.2] [.int .i64 b.2] = some (decide (a.2=b.2)) by simp only[eqL,eqCell,and_self,if_true];rw[Bool.and_true];congr 1)
 refine(Eq.trans (by rfl) this).trans ?_
 congr 1;rw[<- Bool.decide_and];congr 1;apply propext;constructor
 ·rintro⟨h1,h2⟩;exact Prod.ext (Subtype.ext h1) h2
 rintro rfl;exact⟨rfl,rfl⟩
theorem sub_at {w0:World}{S:SS}{r E tot off:Nat}{c A B C:List Value}(hm:(r,AO.cells c E tot)∈S.flatten) (hc:c=A++B++C) (hA:A.length=off):∀(j:Nat) (v:Value),B[j]? = some v->Cell w0 S ((⟨r,off,none⟩:Addr).add j) v:=by
 intro j v hj;have hl:j<B.length:=(List.getElem?_eq_some_iff.1 hj).1
 have:=az (w0:=w0) (j:=off+j) hm (show c[off+j]? = some v by
  rw[hc,List.append_assoc,List.getElem?_append_right (by omega),List.getElem?_append_left (by omega),show off+j-A.length=j from by omega,hj])
 rw[Addr.add_lit];exact this
theorem av {w0:World}{S:SS}{r E tot:Nat}{c:List Value}(hm:(r,AO.cells c E tot)∈S.flatten):∀(j:Nat) (v:Value),c[j]? = some v->Cell w0 S ((⟨r,0,none⟩:Addr).add j) v:=fun j v hj=>(Rd.own hm).at hj
theorem vtx_read {w0:World}{S:SS}{r E tot:Nat}{v:ay}(hm:(r,AO.cells (au v) E tot)∈S.flatten):ReadsAs w0 S (some 33) ⟨r,0,none⟩ (aP v):=⟨au v,rfl,aa v,av hm⟩
theorem eP {c d:List Value}(h:c.length=d.length):setAt c 0 d=d:=by
 rw[bU _ _ _ (by omega),Nat.zero_add,h.symm,List.drop_length];simp
theorem vset (h:HashB) (z:Int):setAt (bd h.1++[.int .i64 0]) 32 [.int .i64 z] = au (h,z):=by
 have hh:=cz h
 rw[bU _ _ _ (by simp[hh])]
 rw[List.take_append_of_le_length (by omega),List.take_of_length_le (by omega),List.drop_eq_nil_of_le (by simp[hh]),List.append_nil]
 rfl
theorem z33_hash (h:HashB):setAt z33 0 (bd h.1)=bd h.1++[.int .i64 0]:=by
 have hh:=cz h
 rw[bU _ _ _ (by rw[hh];decide),hh]
 rfl
theorem fill_vtx {T:TT}{h:HashB}{z:Int}{a b:Nat}(h1:Go.SL.look T a=some (.agg (bd h.1).toArray)) (h2:Go.SL.look T b=some (.int .i64 z)):dw T z33 [(0,32,.t a),(32,1,.t b)] = some (au (h,z)):=by
 have hh:=cz h
 have e1:(Value.agg (bd h.1).toArray).cells.size=32:=by simp[Value.cells,hh]
 have e2:(Value.agg (bd h.1).toArray).cells.toList=bd h.1:=rfl
 simp only[dw,PV.val,h1,h2];rw[if_pos ⟨e1,by decide⟩,e2,z33_hash,if_pos ⟨rfl,by simp[hh]⟩]
 exact congrArg some (vset h z)
theorem vtxL_take (v:ay):(au v).take 32=bd v.1.1:=by
 unfold au;rw[List.take_append_of_le_length (by rw[cz];decide),List.take_of_length_le (by rw[cz];decide)]
theorem vtxL_last (v:ay):(au v)[32]? = some (.int .i64 v.2):=by
 unfold au;rw[List.getElem?_append_right (by rw[cz];decide),cz];rfl
theorem mapM_some {α β:Type}{f:α->Option β}:∀{l:List α},(∀a∈l,∃b,f a=some b)->∃r,l.mapM f=some r
 |[],_=>⟨[],rfl⟩
 |a::l,h=>by
  obtain⟨b,hb⟩:=h a (by simp)
  obtain⟨r,hr⟩:=mapM_some (l:=l) fun x hx=>h x (by simp[hx])
  exact⟨b::r,by simp[hb,hr]⟩
theorem lits_byte {e:TypeId}(he:prog.underlying e=some (.int .u8)) (d:Nat) (b:UInt8):∃l,prog.keyLits (d+1) e [.int .u8 (b.toNat:Int)] = some l:=by
 have hw:(Lit.int .u8 (b.toNat:Int)).wf=true:=by
  have:=b.toNat_lt
  simp only[Lit.wf,Bool.and_eq_true,decide_eq_true_eq];constructor
  ·show(0:Int)<=_;omega
  show _<=(255:Int);omega
 exact⟨[.int .u8 (b.toNat:Int)],by simp only[Program.keyLits,he,hw];rfl⟩
theorem lits_int {e:TypeId}(he:prog.underlying e=some (.int .i64)) (d:Nat) (z:Int) (h1:-9223372036854775808<=z) (h2:z<=9223372036854775807):∃l,prog.keyLits (d+1) e [.int .i64 z] = some l:=by
 have hw:(Lit.int .i64 z).wf=true:=by
  simp only[Lit.wf,Bool.and_eq_true,decide_eq_true_eq];exact⟨h1,h2⟩
 exact⟨[.int .i64 z],by simp only[Program.keyLits,he,hw];rfl⟩
theorem lits_hash (d:Nat) (h:HashB):∃l,prog.keyLits (d+1+1) 25 (bd h.1)=some l:=by
 have c30:prog.cellsOf 25=32:=by kernel_rfl
 have c5:prog.cellsOf 5=1:=by kernel_rfl
 have u5:prog.underlying 5=some (.int .u8):=Tryz.underlying5
 have hm:∀i∈List.range 32,∃b,prog.keyLits (d+1) 5 (((bd h.1).drop (i*1)).take 1)=some b:=by
  intro i hi;have hi':i<h.1.length:=by rw[h.2];exact List.mem_range.1 hi
  have e:((bd h.1).drop (i*1)).take 1=[.int .u8 (h.1[i].toNat:Int)]:=by
   unfold bd;rw[Nat.mul_one,List.drop_eq_getElem_cons (by simpa using hi')]
   simp
  rw[e];exact lits_byte u5 d _
 obtain⟨r,hr⟩:=mapM_some hm;refine⟨r.flatten,?_⟩;unfold Program.keyLits;simp only[Tryz.underlying25,c30,c5,cz,if_true,hr,Option.map_some]
theorem lits_vtx (d:Nat) (v:ay) (hv:er v) {t:TypeId}{f1 f2:Field}(hu:prog.underlying t=some (.struct #[f1,f2])) (ht:prog.cellsOf t=33) (h1:f1.type=25) (h2:f1.offset=0) (h3:f2.type=3) (h4:f2.offset=32) (h5:f1.name≠"_") (h6:f2.name≠"_") :
  ∃l,prog.keyLits (d+1+1+1) t (au v)=some l:=by
 have c30:prog.cellsOf 25=32:=by kernel_rfl
 have c3:prog.cellsOf 3=1:=by kernel_rfl
 obtain⟨a,ha⟩:=lits_hash d v.1;obtain⟨b,hb⟩:=lits_int (e:=3) Tryz.underlying3 (d+1) v.2 hv.1 hv.2;have e1:((au v).drop 0).take 32=bd v.1.1:=vtxL_take v
 have e2:((au v).drop 32).take 1=[.int .i64 v.2]:=by
  unfold au;rw[List.drop_append_of_le_length (by rw[cz];decide),List.drop_eq_nil_of_le (by rw[cz];decide)];rfl
 refine⟨[a,b].flatten,?_⟩;unfold Program.keyLits;simp only[hu,ht,aa];rw[if_pos ⟨trivial,by simp[h5,h6]⟩]
 simp[h1,h2,h3,h4,c30,c3,ha,hb,e2,vtxL_take]
theorem vtx_key {t:TypeId}(hk:prog.keyType t=true) {f1 f2:Field}(hu:prog.underlying t=some (.struct #[f1,f2])) (ht:prog.cellsOf t=33) (h1:f1.type=25) (h2:f1.offset=0) (h3:f2.type=3) (h4:f2.offset=32) (h5:f1.name≠"_") (h6:f2.name≠"_") (v:ay) (hv:er v) :
  ∃l,keyOf prog t (aP v)=some l:=by
 have hs:prog.types.size+1=232+1+1+1:=by kernel_rfl
 obtain⟨l,hl⟩:=lits_vtx 232 v hv hu ht h1 h2 h3 h4 h5 h6;have hf:(aP v).formed prog t=true:=by
  unfold aP Value.formed;simp only[hu,List.size_toArray,aa,ht];rfl
 refine⟨.string (keyBytes l),?_⟩;unfold keyOf;simp only[hu,hk,hf,Bool.and_self,if_true,hs];rw[show(aP v).cells.toList=au v from rfl,hl]
 rfl
theorem tsize:prog.types.size=234:=by kernel_rfl
theorem laidOut:laidOutB prog=true:=by kernel_rfl
theorem dj:Keys prog 27 aP er:=
 ⟨deep_law_gate laidOut (by rw[tsize];decide) (by rw[tsize];decide) (by kernel_rfl) (by rw[Tryz.underlying27]),vtx_key (by kernel_rfl) Tryz.underlying27 (by kernel_rfl) rfl rfl rfl rfl (by decide) (by decide),fun a b=>vtx_inj'⟩
theorem keys97:Keys prog 119 aP er:=
 ⟨deep_law_gate laidOut (by rw[tsize];decide) (by rw[tsize];decide) (by kernel_rfl) (by rw[Tryz.underlying119]),vtx_key (by kernel_rfl) Tryz.underlying119 (by kernel_rfl) rfl rfl rfl rfl (by decide) (by decide),fun a b=>vtx_inj'⟩
end Go.Proofs.Gr

namespace Go.Proofs.Gr
open Go.SL Go.RowKit Go.Proofs Go.GP
def strs (l:List ByteArray):List Value:=l.map .string
structure ck where
 text:ByteArray
 gone:Int
 named:Int
 A:Option Addr
 c:Nat
 next:List ay
def zM:ck:=⟨⟨#[]⟩,0,0,none,0,[]⟩
instance:Inhabited ck:=⟨zM⟩
def cB (n:ck):List Value:=[.string n.text,.int .i64 n.gone,.int .i64 n.named,.slice n.A n.next.length n.c]
def nodeV (n:ck):Value:=.agg (cB n).toArray
def ck.pl (n:ck):bK:=⟨n.text,n.gone,n.named,n.next⟩
structure aN where
 patch:HashB
 at_:Int
 first:Int
 up:ay
 down:ay
 LA:Option Addr
 lc:Nat
 lines:List ByteArray
 GA:Option Addr
 gc:Nat
 gone:List ay
def aN.pl (p:aN):ar:=⟨p.patch,p.at_,p.first,p.up,p.down,p.lines,p.gone⟩
def bG (p:aN):List Value:=bd p.patch.1++[.int .i64 p.at_,.int .i64 p.first]++au p.up++au p.down++[.slice p.LA p.lines.length p.lc,.slice p.GA p.gone.length p.gc]
def fz (p:aN):Value:=.agg (bG p).toArray
def zPart:aN:=⟨h0,0,0,v0,v0,none,0,[],none,0,[]⟩
instance:Inhabited aN:=⟨zPart⟩
theorem bm (p:aN):(bG p).length=102:=by simp[bG,cz,aa]
theorem partC_one (p:aN):(bG p).all (·.oneCell')=true:=by
 unfold bG;simp only[List.all_append,bytesC_all,bL,Bool.and_true,Bool.true_and];rfl
theorem da (p:aN):bG p=bd p.patch.1++([.int .i64 p.at_]++([.int .i64 p.first]++(au p.up++(au p.down++([.slice p.LA p.lines.length p.lc]++[.slice p.GA p.gone.length p.gc]))))):=by simp[bG]
theorem partC_at (p:aN):(bG p)[32]? = some (.int .i64 p.at_)/\(bG p)[33]? = some (.int .i64 p.first)/\(bG p)[100]? = some (.slice p.LA p.lines.length p.lc)/\(bG p)[101]? = some (.slice p.GA p.gone.length p.gc):=by
 rw[da];have h1:=cz p.patch
 have h2:=aa p.up
 have h3:=aa p.down
 refine⟨?_,?_,?_,?_⟩
 ·rw[List.getElem?_append_right (by omega),h1];rfl
 ·rw[List.getElem?_append_right (by omega),h1];rfl
 ·rw[List.getElem?_append_right (by omega),h1,List.getElem?_append_right (by simp),List.getElem?_append_right (by simp),List.getElem?_append_right (by rw[h2];simp),h2,List.getElem?_append_right (by rw[h3];simp),h3];rfl
 rw[List.getElem?_append_right (by omega),h1,List.getElem?_append_right (by simp),List.getElem?_append_right (by simp),List.getElem?_append_right (by rw[h2];simp),h2,List.getElem?_append_right (by rw[h3];simp),h3];rfl
section
variable {w0:World}{S:SS}{r E tot:Nat}{p:aN}
theorem part_patch (hm:(r,AO.cells (bG p) E tot)∈S.flatten):∀(j:Nat) (v:Value),(bd p.patch.1)[j]? = some v->Cell w0 S ((⟨r,0,none⟩:Addr).add j) v:=
 sub_at (A:=[]) (B:=bd p.patch.1) hm (by rw[da];simp;rfl) rfl
theorem part_up (hm:(r,AO.cells (bG p) E tot)∈S.flatten):∀(j:Nat) (v:Value),(au p.up)[j]? = some v->Cell w0 S ((⟨r,34,none⟩:Addr).add j) v:=
 sub_at (A:=bd p.patch.1++[.int .i64 p.at_,.int .i64 p.first]) (B:=au p.up) hm (by rw[da];simp;rfl) (by simp[cz])
theorem dF (hm:(r,AO.cells (bG p) E tot)∈S.flatten):∀(j:Nat) (v:Value),(au p.down)[j]? = some v->Cell w0 S ((⟨r,67,none⟩:Addr).add j) v:=
 sub_at (A:=bd p.patch.1++[.int .i64 p.at_,.int .i64 p.first]++au p.up) (B:=au p.down) hm (by rw[da];simp;rfl) (by simp[cz,aa])
theorem part_at (hm:(r,AO.cells (bG p) E tot)∈S.flatten):Cell w0 S ⟨r,32,none⟩ (.int .i64 p.at_):=az hm (partC_at p).1
theorem part_first (hm:(r,AO.cells (bG p) E tot)∈S.flatten):Cell w0 S ⟨r,33,none⟩ (.int .i64 p.first):=az hm (partC_at p).2.1
theorem fp (hm:(r,AO.cells (bG p) E tot)∈S.flatten):Cell w0 S ⟨r,100,none⟩ (.slice p.LA p.lines.length p.lc):=az hm (partC_at p).2.2.1
theorem dh (hm:(r,AO.cells (bG p) E tot)∈S.flatten):Cell w0 S ⟨r,101,none⟩ (.slice p.GA p.gone.length p.gc):=az hm (partC_at p).2.2.2
end
structure dV where
 r:Nat
 pb:Nat
 nb:Nat
 FA:Option Addr
 fc:Nat
 parts:List (ay×aN)
 nodes:List (ay×ck)
 first:List ay
 aH:bD
 lim:Nat
def plP (l:List (ay×aN)):List ((HashB×Int)×ar):=l.map fun q=>(q.1,q.2.pl)
def plN (l:List (ay×ck)):List (ay×bK):=l.map fun q=>(q.1,q.2.pl)
def dV.gr (m:dV):Gr:=⟨plP m.parts,plN m.nodes,m.first⟩
def dV.cells (m:dV):List Value:=[.bool true,.map (some m.pb),.map (some m.nb),.slice m.FA m.first.length m.fc]
def dV.ptr (m:dV):Value:=.pointer (some ⟨m.r,0,none⟩)
def GS (m:dV):SS:=[[(m.r,.cells m.cells 111 4)],[(m.pb,.gm (dU aP fz m.parts))],[(m.nb,.gm (dU aP nodeV m.nodes))],m.aH]
structure NodeOk' (w0:World) (B:SS) (lim:Nat) (n:ck):Prop where
 rd:Rd w0 B n.A (aI n.next)
 ok:∀v∈n.next,er v
 len:n.next.length<=lim
 gone:-(lim:Int)<=n.gone/\n.gone<=lim
 named:-(lim:Int)<=n.named/\n.named<=lim
structure PartR (p:aN):Prop where
 at_:-9223372036854775808<=p.at_/\p.at_<=9223372036854775807
 first:-9223372036854775808<=p.first/\p.first<=4611686018427387904
 lines:p.lines.length<=1000000000
 gones:p.gone.length<=1000000000
 gcap:p.gone.length<=p.gc
 gnil:p.GA=none->p.gc=0
 up:er p.up
 down:er p.down
 gone:∀v∈p.gone,er v
structure PartOk' (w0:World) (S:SS) (p:aN):Prop where
 rdL:Rd w0 S p.LA (strs p.lines)
 rdG:Rd w0 S p.GA (aI p.gone)
 rng:PartR p
structure GOk (w0:World) (X:SS) (m:dV):Prop where
 pk:∀q∈m.parts,er q.1
 part:∀q∈m.parts,PartOk' w0 (m.aH::X) q.2
 nk:∀q∈m.nodes,er q.1
 node:∀q∈m.nodes,NodeOk' w0 (m.aH::X) m.lim q.2
 first:Rd w0 (m.aH::X) m.FA (aI m.first)
 firstOk:∀v∈m.first,er v
 fh:m.first.length<=m.lim
 lim:m.lim<=1000000000000
 pkd:(bu m.parts).Nodup
 nkd:(bu m.nodes).Nodup
theorem fw {m:dV}{S X:SS}(h:Over (GS m++X) S):(m.r,AO.cells m.cells 111 4)∈S.flatten/\(m.pb,AO.gm (dU aP fz m.parts))∈S.flatten/\(m.nb,AO.gm (dU aP nodeV m.nodes))∈S.flatten/\∀p∈m.aH,p∈S.flatten:=by
 unfold Over GS at h;exact⟨h _ (by simp),h _ (by simp),h _ (by simp),fun p hp=>h p (by simp[hp])⟩
theorem _root_.Go.SL.Rd.aH {w0:World}{m:dV}{S:SS}{X:SS}{A:Option Addr}{l:List Value}(h:Rd w0 (m.aH::X) A l) (hS:Over (GS m++X) S):Rd w0 S A l:=h.mono fun p hp=>by
 rw[List.flatten_cons,List.mem_append] at hp;rcases hp with hp|hp
 ·exact(fw hS).2.2.2 p hp
 exact hS p (by rw[List.flatten_append,List.mem_append];exact .inr hp)
theorem _root_.Go.SL.Over.app {a b:SS}:Over a (a++b):=fun q h=>by simp only[List.flatten_append,List.mem_append];exact .inl h
theorem _root_.Go.SL.Over.appR {a b c:SS}(h:Over a c):Over a (b++c):=fun q hq=>by simp only[List.flatten_append,List.mem_append];exact .inr (h q hq)
theorem _root_.Go.SL.Over.both {a b c:SS}(h:Over b c):Over (a++b) (a++c):=fun q hq=>by
 rw[List.flatten_append,List.mem_append] at hq ⊢;exact hq.imp_right (h q)
theorem _root_.Go.SL.Over.trans {a b c:SS}(h:Over a b) (k:Over b c):Over a c:=fun q hq=>k q (h q hq)
section
variable {w0:World}{S X:SS}{m:dV}
theorem g_made (h:Over (GS m++X) S):Cell w0 S ⟨m.r,0,none⟩ (.bool true):=az (c:=m.cells) (fw h).1 rfl
theorem g_parts (h:Over (GS m++X) S):Cell w0 S ⟨m.r,1,none⟩ (.map (some m.pb)):=az (c:=m.cells) (fw h).1 rfl
theorem dz (h:Over (GS m++X) S):Cell w0 S ⟨m.r,2,none⟩ (.map (some m.nb)):=az (c:=m.cells) (fw h).1 rfl
theorem g_first (h:Over (GS m++X) S):Cell w0 S ⟨m.r,3,none⟩ (.slice m.FA m.first.length m.fc):=az (c:=m.cells) (fw h).1 rfl
end
theorem eV (l:List (ay×ck)):bu (plN l)=bu l:=by unfold bu plN;simp[List.map_map,Function.comp_def]
theorem mgt_map {α β γ:Type}[DecidableEq α] (h:β->γ) (l:List (α×β)) (a:α):fo (l.map fun q=>(q.1,h q.2)) a=(fo l a).map h:=by
 induction l with
 |nil=>rfl
 |cons p l ih=>
  rw[List.map_cons,mgt_cons,mgt_cons,ih];split<;>rfl
theorem mpt_map {α β γ:Type}[DecidableEq α] (h:β->γ) (l:List (α×β)) (a:α) (b:β):(dM l a b).map (fun q=>(q.1,h q.2))=dM (l.map fun q=>(q.1,h q.2)) a (h b):=by
 induction l with
 |nil=>rfl
 |cons p l ih=>
  rw[List.map_cons];unfold dM;simp only;split
  ·rfl
  rw[List.map_cons,ih]
theorem mgt_plN (l:List (ay×ck)) (v:ay):fo (plN l) v=(fo l v).map ck.pl:=mgt_map _ l v
theorem mpt_plN (l:List (ay×ck)) (v:ay) (n:ck):plN (dM l v n)=dM (plN l) v n.pl:=mpt_map _ l v n
theorem mpt_plP (l:List (ay×aN)) (v:ay) (n:aN):plP (dM l v n)=dM (plP l) v n.pl:=mpt_map _ l v n
theorem nd_plN (l:List (ay×ck)) (v:ay):nd (plN l) v=((fo l v).getD zM).pl:=by
 unfold nd;rw[mgt_plN];cases fo l v<;>rfl
instance {G:Gr}{v:ay}:Decidable (dX G v):=by unfold dX;infer_instance
theorem mks_plP (l:List (ay×aN)):bu (plP l)=bu l:=by unfold bu plP;simp[List.map_map,Function.comp_def]
theorem isSome_mks {α β:Type}[DecidableEq α] {l:List (α×β)}{a:α}[Decidable (a∈bu l)]:(fo l a).isSome=decide (a∈bu l):=by
 cases h:fo l a with
 |none=>simp[mgt_none.1 h]
 |some b=>simp[mem_mks.2 ⟨b,h⟩]
end Go.Proofs.Gr

namespace Go.Proofs.Gr
open Go.SL Go.RowKit Go.Proofs Go.GP Go.Proofs.Tryz
set_option maxHeartbeats 1000000
abbrev bs (r:Nat) (v:ay):bD:=[(r,.cells (au v) 27 33)]
theorem bB (v:ay):(aP v).cells.toList=au v:=rfl
theorem fj (p:aN):(fz p).cells.toList=bG p:=rfl
theorem zero100:∃i,prog.info? 121=some i/\i.zero=some (nodeV zM):=Option.bind_eq_some_iff.1 (show(prog.info? 121).bind (·.zero)=some (nodeV zM) by kernel_rfl)
theorem zero36:∃i,prog.info? 59=some i/\i.zero=some (fz zPart):=Option.bind_eq_some_iff.1 (show(prog.info? 59).bind (·.zero)=some (fz zPart) by kernel_rfl)
theorem root_fc {w0:World}{S:SS}:FC prog w0 90 [] S (fun v S'=>v=aP aU/\S'=S):=by
 refine FC.ofC known90 (by simp) ?_
 unfold pc90;simp only[bo];refine PW.ae (OL.c OW.al ?_);rintro _ _ ⟨r0,rfl,rfl⟩;refine OL.nil (PW.k1 0 rfl (PW.ae (OL.x (Yields.build rfl) ?_)));refine OL.c (OW.st (k:=0) rfl rfl rfl rfl (by first|decide|(simp;done)|(simp;omega)) (by first|rfl|simp)) ?_
 rintro _ _ rfl;refine OL.nil (PW.k1 0 rfl (PW.ret ?_));exact⟨.inr rfl,_,_,rfl,vtx_read (r:=r0) (v:=aU) (E:=27) (tot:=33) (List.Mem.head _),_,Sub.drop (Sub.refl _),rfl,rfl⟩
theorem end_fc {w0:World}{S:SS}:FC prog w0 88 [] S (fun v S'=>v=aP bQ/\S'=S):=by
 refine FC.ofC known88 (by simp) ?_
 unfold pc88;simp only[bo];refine PW.ae (OL.c OW.al ?_);rintro _ _ ⟨r0,rfl,rfl⟩;refine OL.nil (PW.k1 0 rfl (PW.ae (OL.x (Yields.build rfl) ?_)));refine OL.c (OW.st (k:=0) rfl rfl rfl rfl (by first|decide|(simp;done)|(simp;omega)) (by first|rfl|simp)) ?_
 rintro _ _ rfl;refine OL.nil (PW.k1 0 rfl (PW.ret ?_));exact⟨.inr rfl,_,_,rfl,vtx_read (r:=r0) (v:=bQ) (E:=27) (tot:=33) (List.Mem.head _),_,Sub.drop (Sub.refl _),rfl,rfl⟩
theorem node_st {w0:World}{S:SS}{P:Program}{n r:Nat}{T:TT}{x v:PV}{u:ck}(hx:x.val T=some (.pointer (some ⟨r,0,none⟩))) (hv:v.val T=some (nodeV u)) (a b c d:Value) :
  OW P w0 n (.st 4 x v) T ([(r,.cells [a,b,c,d] 121 4)]::S) (fun _ S'=>S'=[(r,.cells (cB u) 121 4)]::S):=
 OW.st (k:=0) (c:=[a,b,c,d]) (u:=nodeV u) hx hv rfl rfl (Nat.le_refl 4) rfl
theorem is_fc {w0:World}{S X:SS}{m:dV}(hS:Over (GS m++X) S):FC prog w0 45 [m.ptr] S (fun v S'=>v=.bool true/\S'=S):=by
 refine FC.of known45 (by simp) ?_
 unfold pc45;simp only[bo];refine PW.s1 rfl (PW.k1 0 rfl (PW.ae (OL.dp rfl (OL.x (Yields.eqPn rfl rfl) (OL.dp rfl (OL.ak rfl (.pure rfl) (OL.ak rfl (Yields.cF rfl) (OL.ak rfl (.pure rfl) (OL.ak rfl (.ld rfl (g_made hS)) ?_)))))))));exact OL.n2 rfl rfl (PW.k1 2 rfl (PW.ret (zR rfl ⟨rfl,rfl⟩)))
theorem vertex_fc {w0:World}{S:SS}{p:aN}{i:Nat}(hr:PartR p) (hi:(i:Int)<=4611686018427387903):FC prog w0 55 [fz p,.int .i64 (i:Int)] S (fun v S'=>v=aP (p.pl.vtx i)/\S'=S):=by
 have h1:=hr.first
 refine FC.ofC known55 (by simp) ?_
 unfold pc55;simp only[bo];refine PW.ae (OL.c (OW.bx rfl) ?_);rintro _ _ ⟨r2,rfl,rfl⟩;rw[fj,bm];refine OL.c OW.al ?_;rintro _ _ ⟨r4,rfl,rfl⟩;refine OL.nil (PW.k3 1 2 4 rfl (PW.ae (OL.dp rfl (OL.x (Yields.aT rfl (cz _) (part_patch (p:=p) (E:=59) (tot:=102) dm)) (OL.dp rfl (OL.x (Yields.ld rfl (part_first (p:=p) (E:=59) (tot:=102) dm)) (OL.dp rfl (OL.x (Yields.ao rfl rfl (by omega) (by omega)) (OL.x (Yields.build (fill_vtx rfl rfl)) ?_)))))))))
 refine OL.c (OW.st (k:=0) (u:=aP (p.patch,p.first+(i:Int))) rfl rfl rfl (by rw[aP];exact(List.size_toArray).trans (aa _)) (by decide) (bL _)) ?_
 rintro _ _ rfl;rw[bB,eP (by rw[aa];rfl)]
 refine OL.nil (PW.k1 4 rfl (PW.ret ?_));exact⟨.inr rfl,_,_,rfl,vtx_read (r:=r4) (v:=(p.patch,p.first+(i:Int))) (E:=27) (tot:=33) (List.Mem.head _),_,Sub.drop (Sub.drop (Sub.refl _)),rfl,rfl⟩
theorem line_fc {w0:World}{S X:SS}{m:dV}(hm:GOk w0 X m) (hS:Over (GS m++X) S) {v:ay}(hv:er v):FC prog w0 51 [m.ptr,aP v] S (fun u S'=>u=.bool (decide (v∈bu m.nodes))/\S'=S):=by
 obtain⟨z,hz1,hz2⟩:=zero100;refine FC.ofD known51 (by simp) ?_
 unfold pc51;simp only[bo];refine PW.ae (OL.c (OW.bx rfl) ?_);rintro _ _ ⟨r3,rfl,rfl⟩;rw[bB,aa];refine OL.n1 rfl (PW.k2 0 3 rfl (PW.seq fun K1 hK1=>?_))
 have hS1:Over (GS m++X) (bs r3 v::S):=hS.cons
 refine PW.dy (Ss:=Over (bs r3 v::S)) (fr:=false) [(0,0),(1,0),(2,0),(3,0),(4,0),(5,0),(6,0),(7,0),(8,0),(9,2),(10,2)] mixed (by decide +kernel) (Over.refl _) (fun h=>by cases h) ?_
 refine GL.dp rfl ?_;refine GL.ak trivial (fun Sx hSx=>Yields.cF rfl) ?_
 refine GL.dp rfl ?_;refine GL.ak trivial (fun Sx hSx=>Yields.ld rfl (dz (hS1.trans hSx))) ?_
 refine GL.ak trivial (fun Sx hSx=>Yields.aT rfl (aa _) (av (c:=au v) (E:=27) (tot:=33) (hSx _ bF))) ?_
 refine GL.ak trivial (fun Sx hSx=>Yields.lookG (okc:=true) Tryz.underlying109 hz1 hz2 dj hm.nk hv rfl rfl (fw (hS1.trans hSx)).2.2.1) ?_
 refine GL.dp rfl ?_;refine GL.dp rfl ?_;refine GL.dp rfl ?_;refine GL.lo trivial (OW.mono (OW.al) ?_);rintro _ _ ⟨r5,rfl,rfl⟩;refine⟨(Over.refl _).cons,?_⟩;refine GL.lo trivial (OW.mono (node_st rfl rfl _ _ _ _) ?_);rintro _ _ rfl;refine⟨(Over.refl _).cons,?_⟩;change OL _ _ _ [_] _ _ _;exact OL.n1 rfl (hK1 _ _ (PW.k1 6 rfl (PW.s2 rfl rfl (PW.k1 4 rfl (PW.ret (zR rfl ⟨_,Sub.drop (Sub.drop (Sub.refl _)),congrArg Value.bool isSome_mks,rfl⟩))))))
theorem ef {m:dV}{v:ay}:dX m.gr v↔v=aU∨v=bQ∨v∈bu m.nodes:=by
 unfold dX
 show _∨_∨v∈bu (plN m.nodes)↔_
 rw[eV]
def idxZ (q:ay->Bool) (l:List ay):Int:=match l.findIdx? q with|some k=>(k:Int)|none=>-1
theorem idx_take {q:ay->Bool}{l:List ay}{k:Nat}(hk:k<l.length) (h:∀x∈l.take k,q x=false) (hq:q l[k] = true):idxZ q l=(k:Int):=by
 unfold idxZ;have:l.findIdx? q=some k:=by
  rw[List.findIdx?_eq_some_iff_getElem];refine⟨hk,hq,fun j hj=>?_⟩
  have:=h l[j] (List.mem_take_iff_getElem.2 ⟨j,by omega,rfl⟩)
  simp[this]
 rw[this]
theorem idx_no {q:ay->Bool}{l:List ay}(h:∀x∈l,q x=false):idxZ q l=-1:=by
 unfold idxZ;have:l.findIdx? q=none:=by rw[List.findIdx?_eq_none_iff];exact h
 rw[this]
theorem idx_any {q:ay->Bool}{l:List ay}:(idxZ q l≥0)=(l.any q=true):=by
 unfold idxZ;apply propext;cases h:l.findIdx? q with
 |none=>
  have:=List.findIdx?_eq_none_iff.1 h
  simp only[List.any_eq_true];constructor
  ·intro h;omega
  rintro⟨x,hx,hq⟩;rw[this x hx] at hq;cases hq
 |some k=>
  obtain⟨h1,h2,_⟩:=List.findIdx?_eq_some_iff_getElem.1 h;simp only[List.any_eq_true];exact⟨fun _=>⟨_,List.getElem_mem h1,h2⟩,fun _=>by omega⟩
theorem vtake_snoc {l:List ay}{k:Nat}(hk:k<l.length):l.take (k+1)=l.take k++[l[k]]:=by
 rw[List.take_add_one,List.getElem?_eq_getElem hk];rfl
def behA (m:dV) (v:ay):Option Addr×Nat×List ay:=if v=aU then(m.FA,m.fc,m.first) else(((fo m.nodes v).getD zM).A,((fo m.nodes v).getD zM).c,((fo m.nodes v).getD zM).next)
def behV (m:dV) (v:ay):Value:=.slice (behA m v).1 (behA m v).2.2.length (behA m v).2.1
theorem getD_ok {w0:World}{X:SS}{m:dV}(hm:GOk w0 X m) (v:ay):NodeOk' w0 (m.aH::X) m.lim ((fo m.nodes v).getD zM):=by
 cases h:fo m.nodes v with
 |none=>exact⟨Rd.nil,by simp[zM],by simp[zM],by simp[zM],by simp[zM]⟩
 |some n=>exact hm.node _ (dZ h)
theorem behA_ok {w0:World}{X:SS}{m:dV}(hm:GOk w0 X m) (v:ay):Rd w0 (m.aH::X) (behA m v).1 (aI (behA m v).2.2)/\(∀w∈(behA m v).2.2,er w)/\(behA m v).2.2.length<=m.lim:=by
 unfold behA;split
 ·exact⟨hm.first,hm.firstOk,hm.fh⟩
 exact⟨(getD_ok hm v).rd,(getD_ok hm v).ok,(getD_ok hm v).len⟩
theorem behA_gr {m:dV}{v:ay}:(behA m v).2.2=b9 m.gr v:=by
 unfold behA b9;split
 ·rfl
 show _=(nd (plN m.nodes) v).next
 rw[nd_plN];rfl
theorem has_fc {w0:World}{S X:SS}{m:dV}(hm:GOk w0 X m) (hS:Over (GS m++X) S) {v:ay}(hv:er v):FC prog w0 48 [m.ptr,aP v] S (fun u S'=>u=.bool (decide (dX m.gr v))/\S'=S):=by
 refine FC.ofD known48 (by simp) ?_
 unfold pc48;simp only[bo];refine PW.ae (OL.c (OW.bx rfl) ?_);rintro _ _ ⟨r3,rfl,rfl⟩;rw[bB,aa];refine OL.n1 rfl (PW.k2 0 3 rfl (PW.seq fun K1 hK1=>PW.aQ mixed (QK.dp rfl (QK.l rfl (is_fc hS.cons) (QK.dp rfl (QK.ak rfl (.aT rfl (aa _) (av bF)) (QK.call rfl rfl (root_fc) (QK.ak rfl (.eb (neg:=false) rfl rfl (aO _ _)) ?_))))))))
 refine QK.bool rfl (Yields.pure rfl) (fun g11=>?_) (fun g11=>?_)
 ·try simp only[aD] at g11
  refine QK.off rfl rfl (QK.off rfl rfl (QK.off rfl rfl (QK.ak rfl (.pure rfl) (QK.ak rfl (.pure rfl) (QK.off rfl rfl (QK.off rfl rfl (QK.nil ?_)))))));change OL _ _ _ [_,_,_,_] _ _ _;refine OL.off rfl rfl (OL.ak rfl (.pure rfl) (OL.n2 rfl rfl (hK1 _ _ (PW.k1 4 rfl ?_))));refine PW.ret (zR rfl ?_);refine⟨_,Sub.drop (Sub.refl _),?_,rfl⟩
  first
   |exact congrArg Value.bool (decide_eq_true (show dX m.gr v from ef.2 (.inl g11))).symm
   |exact congrArg Value.bool (decide_eq_true (show dX m.gr v from ef.2 (.inr (.inl g16)))).symm
   |exact congrArg Value.bool (decide_eq_decide.2 ⟨fun h=>ef.2 (.inr (.inr h)),fun h=>((ef.1 h).resolve_left g11).resolve_left g16⟩)
 try simp only[aD] at g11
 refine QK.ak rfl (.aT rfl (aa _) (av bF)) (QK.call rfl rfl (end_fc) (QK.ak rfl (.eb (neg:=false) rfl rfl (aO _ _)) (QK.ak rfl (.pure rfl) ?_)));refine QK.bool rfl (Yields.pure rfl) (fun g16=>?_) (fun g16=>?_)
 ·try simp only[aD] at g16
  refine QK.off rfl rfl (QK.off rfl rfl (QK.nil ?_));change OL _ _ _ [_,_,_,_] _ _ _;refine OL.off rfl rfl (OL.ak rfl (.pure rfl) (OL.n2 rfl rfl (hK1 _ _ (PW.k1 4 rfl ?_))));refine PW.ret (zR rfl ?_);refine⟨_,Sub.drop (Sub.refl _),?_,rfl⟩
  first
   |exact congrArg Value.bool (decide_eq_true (show dX m.gr v from ef.2 (.inl g11))).symm
   |exact congrArg Value.bool (decide_eq_true (show dX m.gr v from ef.2 (.inr (.inl g16)))).symm
   |exact congrArg Value.bool (decide_eq_decide.2 ⟨fun h=>ef.2 (.inr (.inr h)),fun h=>((ef.1 h).resolve_left g11).resolve_left g16⟩)
 try simp only[aD] at g16
 refine QK.ak rfl (.pure rfl) (QK.ak rfl (.aT rfl (aa _) (av bF)) (QK.nil ?_));change OL _ _ _ [_,_,_,_] _ _ _;refine OL.call rfl rfl (line_fc hm hS.cons hv) ?_;rintro _ Sx ⟨rfl,hSx⟩;rw[hSx];clear hSx;refine OL.ak rfl (.pure rfl) (OL.n2 rfl rfl (hK1 _ _ (PW.k1 4 rfl ?_)));refine PW.ret (zR rfl ?_);refine⟨_,Sub.drop (Sub.refl _),?_,rfl⟩
 first
  |exact congrArg Value.bool (decide_eq_true (show dX m.gr v from ef.2 (.inl g11))).symm
  |exact congrArg Value.bool (decide_eq_true (show dX m.gr v from ef.2 (.inr (.inl g16)))).symm
  |exact congrArg Value.bool (decide_eq_decide.2 ⟨fun h=>ef.2 (.inr (.inr h)),fun h=>((ef.1 h).resolve_left g11).resolve_left g16⟩)
theorem behind_fc {w0:World}{S X:SS}{m:dV}(hm:GOk w0 X m) (hS:Over (GS m++X) S) {v:ay}(hv:er v):FC prog w0 93 [m.ptr,aP v] S (fun u S'=>u=behV m v/\S'=S):=by
 obtain⟨z,hz1,hz2⟩:=zero100;refine FC.ofD known93 (by simp) ?_
 unfold pc93;simp only[bo];refine PW.ae (OL.c (OW.bx rfl) ?_);rintro _ _ ⟨r3,rfl,rfl⟩;rw[bB,aa];refine OL.n1 rfl (PW.k2 0 3 rfl (PW.seq fun K1 hK1=>PW.seq fun K2 hK2=>PW.aQ mixed (QK.x (Yields.aT rfl (aa _) (av bF)) (QK.l rfl (root_fc) (QK.nil ?_)))))
 change OL _ _ _ [_] _ _ _;refine OL.x (Yields.eb (neg:=false) rfl rfl (aO _ _)) (OL.nil (hK2 _ _ (PW.k3 0 3 7 rfl ?_)));refine PW.cond rfl (fun c7=>?_) (fun c7=>?_)
 ·try simp only[aD] at c7
  exact PW.ae (OL.dp rfl (OL.x (Yields.cF rfl) (OL.dp rfl (OL.x (Yields.ld rfl (g_first hS.cons)) (OL.n1 rfl (PW.k1 4 rfl (PW.ret (zR rfl ⟨_,Sub.drop (Sub.refl _),by unfold behV behA;rw[if_pos c7],rfl⟩))))))))
 try simp only[aD] at c7
 refine PW.skip (hK1 _ _ (PW.k2 0 3 rfl (PW.seq fun K3 hK3=>PW.aQ mixed (QK.dp rfl (QK.x (Yields.cF rfl) (QK.dp rfl (QK.x (Yields.ld rfl (dz hS.cons)) (QK.x (Yields.aT rfl (aa _) (av bF)) (QK.nil ?_)))))))))
 change OL _ _ _ [_,_,_] _ _ _;exact OL.x (Yields.lookG (okc:=false) Tryz.underlying109 hz1 hz2 dj hm.nk hv rfl rfl (fw hS.cons).2.2.1) (OL.x (Yields.fld rfl rfl) (OL.n1 rfl (hK3 _ _ (PW.k1 4 rfl (PW.ret (zR rfl ⟨_,Sub.drop (Sub.refl _),by unfold behV behA;rw[if_neg c7];rfl,rfl⟩))))))
theorem index_fc {w0:World}{S:SS}{A:Option Addr}{c:Nat}{l:List ay}{v:ay}(hx:Rd w0 S A (aI l)) (hb:l.length<=1000000000000) :
  FC prog w0 111 [.slice A l.length c,aP v] S (fun u S'=>u=.int .i64 (idxZ (fun x=>decide (v=x)) l)/\S'=S):=by
 obtain⟨q,hq⟩:∃q:ay->Bool,q=fun x=>decide (v=x):=⟨_,rfl⟩
 rw[<- hq];refine FC.ofD known111 (by simp) ?_
 unfold pc111;simp only[bo];refine PW.ae (OL.c (OW.bx rfl) ?_);rintro _ _ ⟨r3,rfl,rfl⟩;rw[bB,aa];refine OL.n1 rfl (PW.k2 0 3 rfl (PW.seq fun K1 hK1=>PW.s3 rfl rfl rfl (PW.k4 0 3 7 8 rfl (PW.block (PW.k4 0 3 7 8 rfl ?_)))))
 refine PW.aR (I:=fun m T S'=>∃(k:Nat),(k<=l.length/\m=l.length-k/\∀x∈l.take k,q x=false)/\T=([(0,.slice A l.length c),(3,.pointer (some ⟨r3,0,none⟩)),(7,.int .i64 (l.length:Int)),(8,.int .i64 k)]:TT)/\S'=bs r3 v::S) (m:=l.length) ⟨0,⟨by omega,by omega,by simp⟩,rfl,rfl⟩ ?_
 rintro m _ _ ⟨k,⟨hk,hm,hall⟩,rfl,rfl⟩;refine PW.s1 rfl (PW.k5 0 3 7 8 9 rfl (PW.seq fun K2 hK2=>?_))
 refine PW.cond rfl (fun c9=>?_) (fun c9=>?_)
 ·try simp only[aD] at c9
  have hkl:k<l.length:=by omega
  obtain⟨a0,rfl⟩:=bE hx (by omega)
  refine PW.skip (hK2 _ _ (PW.k4 0 3 7 8 rfl (PW.seq fun K3 hK3=>PW.block (PW.s2 rfl rfl (PW.k5 0 3 5 7 8 rfl (PW.seq fun K4 hK4=>PW.aQ mixed ?_))))))
  refine QK.x (Yields.aT rfl (aa _) (av bF)) (QK.p2 rfl rfl (QK.x (Yields.bO rfl rfl rfl (by omega)) (QK.x (Yields.aT rfl (aa _) (bS hx.cons hkl)) (QK.nil ?_))))
  change OL _ _ _ [_] _ _ _;refine OL.x (Yields.eb (neg:=false) rfl rfl (aO _ _)) (OL.nil (hK4 _ _ (PW.k6 0 3 5 7 8 16 rfl ?_)));refine PW.cond rfl (fun c16=>?_) (fun c16=>?_)
  ·try simp only[aD] at c16
   have hqt:q l[k] = true:=by rw[hq];simpa using c16
   exact PW.s2 rfl rfl (PW.k1 4 rfl (PW.ret (zR rfl ⟨_,Sub.drop (Sub.refl _),by rw[idx_take hkl hall hqt],rfl⟩)))
  try simp only[aD] at c16
  have hqf:q l[k] = false:=by rw[hq];simpa using c16
  refine PW.skip (hK3 _ _ (PW.k4 0 3 7 8 rfl (PW.ops (OL.x (Yields.ao rfl rfl (by omega) (by omega)) (OL.n1 rfl ?_)))))
  refine af.mk (T'':=[(0,_),(3,_),(7,_),(8,_)]) (wi rfl) ?_;refine⟨l.length-(k+1),by omega,k+1,⟨by omega,rfl,fun x hx=>?_⟩,rfl,rfl⟩
  rw[vtake_snoc hkl,List.mem_append,List.mem_singleton] at hx;rcases hx with hx|rfl
  ·exact hall x hx
  exact hqf
 try simp only[aD] at c9
 exact PW.exit (hK1 _ _ (PW.cD (T':=[]) trivial (PW.s1 rfl (PW.k1 4 rfl (PW.ret (zR rfl ⟨_,Sub.drop (Sub.refl _),by rw[idx_no (fun x hx=>hall x (by rw[List.take_of_length_le (by omega)];exact hx))],rfl⟩))))))
theorem indexFunc_fc {w0:World}{S:SS}{A:Option Addr}{c:Nat}{l:List ay}{g:FuncId}{ca:List Value}{q:ay->Bool}(hx:Rd w0 S A (aI l)) (hb:l.length<=1000000000000) (hok:fnOk prog g=true)
  (hq:∀x∈l,FC prog w0 g ([]++[aP x]++ca) S (fun u S'=>u=.bool (q x)/\S'=S)) :
  FC prog w0 92 [.slice A l.length c,.func (.func g) #[] ca.toArray] S (fun u S'=>u=.int .i64 (idxZ q l)/\S'=S):=by
 refine FC.of known92 (by simp) ?_
 unfold pc92;simp only[bo];refine PW.s1 rfl (PW.k2 0 1 rfl (PW.seq fun K1 hK1=>PW.s3 rfl rfl rfl (PW.k4 0 1 7 8 rfl (PW.block ?_))))
 refine PW.k4 0 1 7 8 rfl ?_;refine PW.aR (I:=fun m T S'=>∃(k:Nat),(k<=l.length/\m=l.length-k/\∀x∈l.take k,q x=false)/\T=([(0,.slice A l.length c),(1,.func (.func g) #[] ca.toArray),(7,.int .i64 (l.length:Int)),(8,.int .i64 k)]:TT)/\S'=S) (m:=l.length) ⟨0,⟨by omega,by omega,by simp⟩,rfl,rfl⟩ ?_
 rintro m _ _ ⟨k,⟨hk,hm,hall⟩,rfl,rfl⟩;refine PW.s1 rfl (PW.k5 0 1 7 8 9 rfl (PW.seq fun K2 hK2=>?_))
 refine PW.cond rfl (fun c9=>?_) (fun c9=>?_)
 ·try simp only[aD] at c9
  have hkl:k<l.length:=by omega
  obtain⟨a0,rfl⟩:=bE hx (by omega)
  refine PW.skip (hK2 _ _ (PW.k4 0 1 7 8 rfl (PW.seq fun K3 hK3=>PW.block (PW.s2 rfl rfl (PW.k5 0 1 5 7 8 rfl (PW.ae (OL.dp rfl ?_)))))))
  refine OL.p2 rfl rfl (OL.x (Yields.bO rfl rfl rfl (by omega)) (OL.x (Yields.aT rfl (aa _) (bS hx hkl)) (OL.c (OW.callv (fi:=[]) (ca:=ca) rfl hok rfl (hq _ (List.getElem_mem hkl))) ?_)))
  rintro _ Sx ⟨rfl,hSx⟩;rw[hSx];clear hSx;refine OL.nil (PW.k6 0 1 5 7 8 16 rfl ?_);refine PW.cond rfl (fun c16=>?_) (fun c16=>?_)
  ·try simp only[aD] at c16
   have hqt:q l[k] = true:=by simpa using c16
   exact PW.s2 rfl rfl (PW.k1 4 rfl (PW.ret (zR rfl ⟨by rw[idx_take hkl hall hqt],rfl⟩)))
  try simp only[aD] at c16
  have hqf:q l[k] = false:=by simpa using c16
  refine PW.skip (hK3 _ _ (PW.k4 0 1 7 8 rfl (PW.ops (OL.x (Yields.ao rfl rfl (by omega) (by omega)) (OL.n1 rfl ?_)))))
  refine af.mk (T'':=[(0,_),(1,_),(7,_),(8,_)]) (wi rfl) ?_;refine⟨l.length-(k+1),by omega,k+1,⟨by omega,rfl,fun x hx=>?_⟩,rfl,rfl⟩
  rw[vtake_snoc hkl,List.mem_append,List.mem_singleton] at hx;rcases hx with hx|rfl
  ·exact hall x hx
  exact hqf
 try simp only[aD] at c9
 exact PW.exit (hK1 _ _ (PW.cD (T':=[]) trivial (PW.s1 rfl (PW.k1 4 rfl (PW.ret (zR rfl ⟨by rw[idx_no (fun x hx=>hall x (by rw[List.take_of_length_le (by omega)];exact hx))],rfl⟩))))))
theorem contains_fc {w0:World}{S:SS}{A:Option Addr}{c:Nat}{l:List ay}{v:ay}(hx:Rd w0 S A (aI l)) (hb:l.length<=1000000000000) :
  FC prog w0 91 [.slice A l.length c,aP v] S (fun u S'=>u=.bool (l.any fun x=>decide (v=x))/\S'=S):=by
 refine FC.ofD known91 (by simp) ?_
 unfold pc91;simp only[bo];refine PW.ae (OL.c (OW.bx rfl) ?_);rintro _ _ ⟨r3,rfl,rfl⟩;rw[bB,aa];exact OL.n1 rfl (PW.k2 0 3 rfl (PW.ae (OL.dp rfl (OL.x (Yields.aT rfl (aa _) (av bF)) (OL.q rfl (index_fc hx.cons hb) (OL.n2 rfl rfl (PW.k1 4 rfl (PW.ret (zR rfl ⟨_,Sub.drop (Sub.refl _),congrArg Value.bool (by rw[Bool.eq_iff_iff,decide_eq_true_eq];exact iff_of_eq idx_any),rfl⟩)))))))))
theorem containsFunc_fc {w0:World}{S:SS}{A:Option Addr}{c:Nat}{l:List ay}{g:FuncId}{ca:List Value}{q:ay->Bool}(hx:Rd w0 S A (aI l)) (hb:l.length<=1000000000000) (hok:fnOk prog g=true)
  (hq:∀x∈l,FC prog w0 g ([]++[aP x]++ca) S (fun u S'=>u=.bool (q x)/\S'=S)) :
  FC prog w0 49 [.slice A l.length c,.func (.func g) #[] ca.toArray] S (fun u S'=>u=.bool (l.any q)/\S'=S):=by
 refine FC.of known49 (by simp) ?_
 unfold pc49;simp only[bo];exact PW.s1 rfl (PW.k2 0 1 rfl (PW.ae (OL.p2 rfl rfl (OL.q rfl (indexFunc_fc hx hb hok hq) (OL.n2 rfl rfl (PW.k1 4 rfl (PW.ret (zR rfl ⟨congrArg Value.bool (by rw[Bool.eq_iff_iff,decide_eq_true_eq];exact iff_of_eq idx_any),rfl⟩))))))))
theorem add1_fc {w0:World}{S X:SS}{m:dV}{b:Nat}(hm:GOk w0 X m) (hS:Over (GS m++X) S) {v:ay}(hv:er v) (hb:Cell w0 S ⟨b,0,none⟩ m.ptr):FC prog w0 50 [aP v,.pointer (some ⟨b,0,none⟩)] S (fun u S'=>u=.bool (!decide (v∈bu m.nodes))/\S'=S):=by
 refine FC.ofD known50 (by simp) ?_
 unfold pc50;simp only[bo];refine PW.ae (OL.c (OW.bx rfl) ?_);rintro _ _ ⟨r2,rfl,rfl⟩;rw[bB,aa];refine OL.n1 rfl (PW.k2 1 2 rfl (PW.ae ?_));refine OL.x (Yields.ld rfl (hb.mono fun p hp=>by simp[hp])) ?_
 exact OL.x (Yields.aT rfl (aa _) (av bF)) (OL.q rfl (line_fc hm hS.cons hv) (OL.n2 rfl rfl (PW.k1 3 rfl (PW.ret (zR rfl ⟨_,Sub.drop (Sub.refl _),rfl,rfl⟩)))))
end Go.Proofs.Gr

namespace Go.SL
open Go.RowKit
section
variable {P:Program}{w0:World}{n:Nat}{T:TT}{S:SS}
theorem OW.appIn {t E sz bytes i q cap cp r tot k:Nat}{z:Value}{s x:PV}{a:Addr}{c news:List Value}(hs':s.val T=some (.slice (some ⟨r,0,none⟩) i cap)) (hk:S[k]? = some [(r,.cells c E tot)])
  (hx:x.val T=some (.slice (some a) q cp)) (hl:news.length=q*sz) (hc:∀j u,news[j]? = some u->Cell w0 S (a.add j) u) (h1:news.all (·.oneCell')=true)
  (hroom:i+q<=cap) (hfit:i*sz+news.length<=c.length) :
  OW P w0 n (.app t E sz bytes z s x) T S (fun v' S'=>v'=.slice (some ⟨r,0,none⟩) (i+q) cap/\S'=S.set k [(r,.cells (setAt c (i*sz) news) E tot)]):=by
 intro op ac w Q hco hs hr;obtain⟨y,y',cl,ti,ho,hca,hat,har,rfl,rfl,hu,hi,hz,rfl,rfl,hzs,hsz⟩:=aM P hco;obtain⟨hge,C,hC,htot,hpre⟩:=hr.own (r,.cells c E tot) (List.mem_flatten.2 ⟨_,List.mem_of_getElem? hk,by simp⟩)
 simp only at hge hC;have hlen:c.length<=C.size:=by
  have:=congrArg List.length hpre
  simp at this;omega
 have hrun:=run_append_room (P:=P) w t op.type E ti hu hi r i cap C hC a q cp news hl (fun j u hj=>hr.cell (hc j u hj)) (oneCells h1) hroom (by omega)
 unfold Oper.wp;have hrun':(execOp ac.eval op).run P w=.ok (.value (.slice (some ⟨r,0,none⟩) (i+q) cap)) (w.setRow r (C.toList.take (i*ti.size)++news++C.toList.drop (i*ti.size+news.length)).toArray):=by
  simp only[execOp,ho,resolve,hca,invoke,builtin,hat,har];simp[hs.eval hs',hs.eval hx,hrun]
 rw[hrun'];refine⟨_,_,rfl,?_,rfl,rfl⟩;have hheap:=setRow_heap w r C (C.toList.take (i*ti.size)++news++C.toList.drop (i*ti.size+news.length)).toArray E (0,0) hC
 refine hr.replace hk (below_setRow w r _ hge) (fun i _ hne=>eD w r i _ (by simpa using hne)) (by simp) ?_
 intro p hp;simp only[List.mem_singleton] at hp;subst hp;refine⟨hge,⟨_,hheap,?_,?_⟩,.inl (by simp)⟩
 ·simp only[List.size_toArray,List.length_append,List.length_take,List.length_drop,Array.length_toList];omega
 rw[cX,bU c _ _ (by omega)]
 have:=take_lay C.toList (i*ti.size) news c.length (by omega) (by simp;omega)
 rw[hpre] at this;simpa using this
theorem Yields.sl3 {sz:Nat}{x lo hi mx:Operand}{A:Option Addr}{len cap l h m:Nat}{t E:TypeId}{i:TypeInfo}(hu:P.underlying t=some (.slice E)) (hi':P.info? E=some i) (hsz:i.size=sz)
  (hx:(cV x).val T=some (.slice A len cap)) (hl:(cV lo).val T=some (.int .i64 (l:Int))) (hh:(cV hi).val T=some (.int .i64 (h:Int))) (hm:(cV mx).val T=some (.int .i64 (m:Int))) (h1:l<=h) (h2:h<=m) (h3:m<=cap) :
  Yields P w0 n (.more (.other (.gen (.slice t x (some lo) (some hi) (some mx))))) T S (.slice (if m=l then A else A.map (·.add (l*sz))) (h-l) (m-l)):=by
 intro o a w hco hs hr;have ho:o.op=.slice t x (some lo) (some hi) (some mx):=aM P hco
 subst hsz;have b1:¬((cap:Int)<(m:Int)):=by omega
 simp only[execOp,ho,hs.eval hx,hs.eval hl,hs.eval hh,hs.eval hm,Instr.sliceAt,Option.map_some];simp[run_underlying hu,Instr.slice,Instr.sliceBounds,Instr.sliceBound,asIntOf,sizeOf,typeInfo,program,hi',Sem.run,h1,h2,h3]
theorem OW.frameSt {sz:Nat}{x v:PV}{b o E tot k:Nat}{F:SS}{c:List Value}{u:Value}(hx:x.val T=some (.pointer (some ⟨b,o,none⟩))) (hv:v.val T=some u)
  (hk:S[k]? = some [(b,.cells c E tot)]) (hsz:u.cells.size=sz) (hb:o+sz<=c.length) (h1:u.cells.toList.all (·.oneCell')=true) :
  OW P w0 n (.st sz x v) T (F++S) (fun _ S'=>∃S1,(F++S1).Perm S'/\S1=S.set k [(b,.cells (setAt c o u.cells.toList) E tot)]):=by
 refine(OW.st (k:=F.length+k) hx hv (by rw[List.getElem?_append_right (by omega)];simpa using hk) hsz hb h1).mono ?_
 rintro _ S' rfl;refine⟨_,?_,rfl⟩;rw[List.set_append_right _ _ (by omega)]
 simp
end
section
variable {P:Program}{w0:World}{n:Nat}{T:TT}{S:SS}
def madeL (z:List Value) (n:Nat):List Value:=(List.range n).map fun i=>z.getD (i % z.length) undef
theorem zeroCells_eq {z:Array Value}(h:0<z.size) (k:Nat):(Builtin.zeroCells z k).toList=madeL z.toList (k*z.size):=by
 simp only[Builtin.zeroCells,madeL,Array.toList_map,Array.toList_range];apply List.map_congr_left;intro i _;have:i % z.size<z.size:=Nat.mod_lt _ h
 rw[getElem!_pos z (i % z.size) this];simp[List.getD_eq_getElem?_getD,this]
theorem OW.clr {E E' sz b o l cp tot k:Nat}{z:Value}{x:PV}{c news:List Value}(hx:x.val T=some (.slice (some ⟨b,o,none⟩) l cp)) (hk:S[k]? = some [(b,.cells c E' tot)]) (hl:0<l) (hz:0<z.cells.size)
  (hn:news=madeL z.cells.toList (l*z.cells.size)) (hb:o+news.length<=c.length) (h1:news.all (·.oneCell')=true) :
  OW P w0 n (.more (.clr E sz z x)) T S (fun v S'=>v=.tuple #[]/\S'=S.set k [(b,.cells (setAt c o news) E' tot)]):=by
 intro op a w Q hco hs hr;obtain⟨t,y,cl,i,ho,hca,hat,har,rfl,hu,hi,hiz,hsz,hzs,hs0⟩:=aM P hco;obtain⟨hge,C,hC,htot,hpre⟩:=hr.own (b,.cells c E' tot) (List.mem_flatten.2 ⟨_,List.mem_of_getElem? hk,by simp⟩)
 simp only at hge hC;have hlen:c.length<=C.size:=by
  have:=congrArg List.length hpre
  simp at this;omega
 have hst:=run_storeCells_at P b o E' news 0 C w hC (by omega) (fun v hv=>(List.all_eq_true.1 h1) v hv)
 simp only[Nat.add_zero] at hst;unfold Oper.wp;have hrun:(execOp a.eval op).run P w=.ok (.value (.tuple #[])) (w.setRow b (C.toList.take o++news++C.toList.drop (o+news.length)).toArray):=by
  simp only[execOp,ho,resolve,hca,invoke,builtin,hat,har];obtain⟨l',rfl⟩:∃l',l=l'+1:=⟨l-1,by omega⟩
  simp[Builtin.clear_,hs.eval hx,run_underlying hu,zeroValue,typeInfo,program,Sem.run,hi,hiz,zeroCells_eq hz,<- hn,hst]
 rw[hrun];refine⟨_,_,rfl,?_,rfl,rfl⟩;have hheap:=setRow_heap w b C (C.toList.take o++news++C.toList.drop (o+news.length)).toArray E' (0,0) hC
 refine hr.replace hk (below_setRow w b _ hge) (fun i _ hne=>eD w b i _ (by simpa using hne)) (by simp) ?_
 intro p hp;simp only[List.mem_singleton] at hp;subst hp;refine⟨hge,⟨_,hheap,?_,?_⟩,.inl (by simp)⟩
 ·simp only[List.size_toArray,List.length_append,List.length_take,List.length_drop,Array.length_toList];omega
 rw[cX,bU c o _ (by omega)]
 have:=take_lay C.toList o news c.length (by omega) (by simp;omega)
 simp only at this ⊢;rw[hpre] at this;simpa using this
end
end Go.SL

namespace Go.Proofs.Gr
open Go.SL Go.RowKit Go.Proofs Go.GP Go.Proofs.Tryz
set_option maxHeartbeats 1000000
instance {p:ar}:Decidable (eJ p):=decidable_of_iff (p.gone.Nodup/\(∀v∈p.gone,v≠aU/\v≠bQ)/\0<=p.first/\p.up≠bQ/\p.down≠aU) ⟨fun⟨a,b,c,d,e⟩=>⟨a,b,c,d,e⟩,fun⟨a,b,c,d,e⟩=>⟨a,b,c,d,e⟩⟩
instance {G:Gr}{p:ar}:Decidable (eM G p):=by unfold eM;infer_instance
theorem PartR.vtx {p:aN}(h:PartR p) {i:Nat}(hi:i<p.lines.length):er (p.pl.vtx i):=by
 have h1:=h.first
 have h2:=h.lines
 unfold er ar.vtx
 show -9223372036854775808<=p.first+(i:Int)/\p.first+(i:Int)<=9223372036854775807
 omega
theorem PartR.name {p:aN}(h:PartR p):er p.pl.name:=h.at_
abbrev eB (r:Nat) (p:aN):bD:=[(r,.cells (bG p) 59 102)]
theorem part_st {w0:World}{S:SS}{P:Program}{n r:Nat}{T:TT}{x v:PV}{u:aN}{z:List Value}(hx:x.val T=some (.pointer (some ⟨r,0,none⟩))) (hv:v.val T=some (fz u)) (hz:z.length=102) :
  OW P w0 n (.st 102 x v) T ([(r,.cells z 59 102)]::S) (fun _ S'=>S'=eB r u::S):=by
 refine(OW.st (k:=0) (c:=z) (u:=fz u) hx hv rfl ((List.size_toArray).trans (bm u)) (by omega) (partC_one u)).mono ?_
 rintro _ _ rfl;rw[fj,eP (by rw[bm,hz])]
 rfl
theorem vtx_st {w0:World}{S:SS}{P:Program}{n r:Nat}{T:TT}{x v:PV}{u:ay}{z:List Value}(hx:x.val T=some (.pointer (some ⟨r,0,none⟩))) (hv:v.val T=some (aP u)) (hz:z.length=33) :
  OW P w0 n (.st 33 x v) T ([(r,.cells z 27 33)]::S) (fun _ S'=>S'=bs r u::S):=by
 refine(OW.st (k:=0) (c:=z) (u:=aP u) hx hv rfl ((List.size_toArray).trans (aa u)) (by omega) (bL u)).mono ?_
 rintro _ _ rfl;rw[bB,eP (by rw[aa,hz])]
 rfl
theorem vtxs_pre {l:List ay}(k:Nat):aI (l.take k) <+: aI l:=⟨aI (l.drop k),by rw[<- dc,List.take_append_drop]⟩
theorem formed_fc {w0:World}{S:SS}{p:aN}(hp:PartOk' w0 S p):FC prog w0 47 [fz p] S (fun u S'=>u=.bool (decide (eJ p.pl))/\S'=S):=by
  have hgl:=hp.rng.gones
  have hgc:=hp.rng.gcap
  have hrd:=hp.rdG
  refine FC.ofD known47 (by simp) ?_
  unfold pc47;simp only[bo];refine PW.ae (OL.c (OW.bx rfl) ?_);rintro _ _ ⟨r1,rfl,rfl⟩;rw[fj,bm];refine OL.n1 rfl (PW.k1 1 rfl (PW.seq fun K1 hK1=>PW.ae (OL.dp rfl (OL.x (Yields.ld rfl (dh (p:=p) (E:=59) (tot:=102) bF)) (OL.n2 rfl rfl (PW.k4 1 6 7 8 rfl (PW.block ?_)))))))
  refine PW.k4 1 6 7 8 rfl ?_;refine PW.aR (I:=fun m T S'=>∃(k:Nat),(k<=p.gone.length/\m=p.gone.length-k/\(p.gone.take k).Nodup/\∀v∈p.gone.take k,v≠aU/\v≠bQ)/\T=([(1,.pointer (some ⟨r1,0,none⟩)),(6,.slice p.GA p.gone.length p.gc),(7,.int .i64 (p.gone.length:Int)),(8,.int .i64 k)]:TT)/\S'=eB r1 p::S) (m:=p.gone.length) ⟨0,⟨by omega,by omega,by simp,by simp⟩,rfl,rfl⟩ ?_
  rintro m _ _ ⟨k,⟨hk,hm,hnd,hre⟩,rfl,rfl⟩;refine PW.s1 rfl (PW.k5 1 6 7 8 9 rfl (PW.seq fun K2 hK2=>?_))
  refine PW.cond rfl (fun c9=>?_) (fun c9=>?_)
  · try simp only[aD] at c9
    have hkl:k<p.gone.length:=by omega
    obtain⟨a0,ha0⟩:=bE hrd (by omega)
    have hrd2:=hrd
    rw[ha0] at hrd2;refine PW.skip (hK2 _ _ (PW.k4 1 6 7 8 rfl (PW.seq fun K3 hK3=>PW.block (PW.ae (OL.dp rfl ?_)))))
    rw[ha0];refine OL.x (Yields.bO rfl rfl rfl (by omega)) (OL.x (Yields.aT rfl (aa _) (bS hrd2.cons hkl)) (OL.c OW.al ?_))
    rintro _ _ ⟨r4,rfl,rfl⟩;refine OL.dp rfl (OL.c (vtx_st rfl rfl rfl) ?_);rintro _ _ rfl;refine OL.nil (PW.k6 1 3 4 6 7 8 rfl (PW.seq fun K4 hK4=>PW.aQ mixed (QK.x (Yields.aT rfl (aa _) (av bF)) (QK.l rfl (root_fc) (QK.x (Yields.eb (neg:=false) rfl rfl (aO _ _)) ?_)))))
    refine QK.bool trivial (Yields.pure rfl) (fun g16=>?_) (fun g16=>?_)
    · try simp only[aD] at g16
      refine QK.off rfl rfl (QK.off rfl rfl (QK.off rfl rfl (QK.p2 rfl rfl (QK.off rfl rfl (QK.off rfl rfl (QK.off rfl rfl (QK.off rfl rfl (QK.off rfl rfl (QK.nil ?_)))))))));change OL _ _ _ [_,_] _ _ _;refine OL.off rfl rfl (OL.n1 rfl (hK4 _ _ (PW.k5 1 6 7 8 28 rfl (PW.ite (b:=true) rfl ?_))));rw[if_pos rfl];refine PW.s1 rfl (PW.k1 2 rfl ?_);refine PW.ret (zR rfl ?_);refine⟨_,Sub.drop (Sub.drop (Sub.refl _)),congrArg Value.bool (decide_eq_false fun hf=>?_).symm,rfl⟩
      first
        |exact(hf.goneR _ (List.getElem_mem hkl)).1 g16
        |exact(hf.goneR _ (List.getElem_mem hkl)).2 g21
        | (simp only [List.any_eq_true, decide_eq_true_eq] at c28
           obtain⟨x,hx,rfl⟩:=c28;obtain⟨j,hj,e⟩:=List.mem_take_iff_getElem.1 hx;have:=(List.getElem_inj hf.gone0).1 e
           omega)
    try simp only[aD] at g16
    refine QK.ak rfl (.aT rfl (aa _) (av bF)) (QK.call rfl rfl (end_fc) (QK.ak rfl (.eb (neg:=false) rfl rfl (aO _ _)) (QK.dp rfl ?_)));refine QK.bool trivial (Yields.pure rfl) (fun g21=>?_) (fun g21=>?_)
    · try simp only[aD] at g21
      refine QK.off rfl rfl (QK.off rfl rfl (QK.off rfl rfl (QK.off rfl rfl (QK.off rfl rfl (QK.nil ?_)))));change OL _ _ _ [_,_] _ _ _;refine OL.off rfl rfl (OL.n1 rfl (hK4 _ _ (PW.k5 1 6 7 8 28 rfl (PW.ite (b:=true) rfl ?_))));rw[if_pos rfl];refine PW.s1 rfl (PW.k1 2 rfl ?_);refine PW.ret (zR rfl ?_);refine⟨_,Sub.drop (Sub.drop (Sub.refl _)),congrArg Value.bool (decide_eq_false fun hf=>?_).symm,rfl⟩
      first
        |exact(hf.goneR _ (List.getElem_mem hkl)).1 g16
        |exact(hf.goneR _ (List.getElem_mem hkl)).2 g21
        | (simp only [List.any_eq_true, decide_eq_true_eq] at c28
           obtain⟨x,hx,rfl⟩:=c28;obtain⟨j,hj,e⟩:=List.mem_take_iff_getElem.1 hx;have:=(List.getElem_inj hf.gone0).1 e
           omega)
    try simp only[aD] at g21
    refine QK.ak rfl (.pure rfl) (QK.ak rfl (.ld rfl (dh (p:=p) (E:=59) (tot:=102) dm)) (QK.ak rfl (.pure rfl) ?_));refine QK.ak rfl (.to (v':=.slice p.GA (p.gone.take k).length p.gc) (Yields.slS (A:=p.GA) (len:=p.gone.length) (cap:=p.gc) (l:=0) (h:=k) rfl rfl rfl (.inr ⟨rfl,rfl⟩) (.inl rfl) (by omega) (by omega)) (by rw[cutV0,List.length_take,Nat.min_eq_left (by omega)])) ?_
    refine QK.ak rfl (.aT rfl (aa _) (av bF)) (QK.nil ?_);change OL _ _ _ [_,_] _ _ _;refine OL.call rfl rfl (contains_fc (l:=p.gone.take k) ((hrd.pre (vtxs_pre k)).cons.cons) (by rw[List.length_take];omega)) ?_
    rintro _ Sx ⟨rfl,hSx⟩;rw[hSx];clear hSx;refine OL.n1 rfl (hK4 _ _ (PW.k5 1 6 7 8 28 rfl ?_));refine PW.cond rfl (fun c28=>?_) (fun c28=>?_)
    · try simp only[aD] at c28
      refine PW.s1 rfl (PW.k1 2 rfl ?_);refine PW.ret (zR rfl ?_);refine⟨_,Sub.drop (Sub.drop (Sub.refl _)),congrArg Value.bool (decide_eq_false fun hf=>?_).symm,rfl⟩
      first
        |exact(hf.goneR _ (List.getElem_mem hkl)).1 g16
        |exact(hf.goneR _ (List.getElem_mem hkl)).2 g21
        | (simp only [List.any_eq_true, decide_eq_true_eq] at c28
           obtain⟨x,hx,rfl⟩:=c28;obtain⟨j,hj,e⟩:=List.mem_take_iff_getElem.1 hx;have:=(List.getElem_inj hf.gone0).1 e
           omega)
    try simp only[aD] at c28
    simp only[List.any_eq_false,decide_eq_true_eq] at c28;refine PW.skip (hK3 _ _ (PW.k4 1 6 7 8 rfl (PW.ops (OL.x (Yields.ao rfl rfl (by omega) (by omega)) (OL.n1 rfl ?_)))))
    refine af.dE (Sub.drop (Sub.refl _)) (T'':=[(1,_),(6,_),(7,_),(8,_)]) (wi rfl) ?_;refine⟨p.gone.length-(k+1),by omega,k+1,⟨by omega,rfl,?_,?_⟩,by rw[ha0];rfl,rfl⟩
    · rw[vtake_snoc hkl,List.nodup_append]
      refine⟨hnd,by simp,fun a ha b hb e=>?_⟩
      rw[List.mem_singleton] at hb;subst hb;subst e;exact c28 _ ha rfl
    intro x hx;rw[vtake_snoc hkl,List.mem_append,List.mem_singleton] at hx;rcases hx with hx|rfl
    · exact hre x hx
    exact⟨g16,g21⟩
  try simp only[aD] at c9
  refine PW.exit (hK1 _ _ (PW.k1 1 rfl (PW.seq fun K5 hK5=>PW.aQ mixed (QK.dp rfl (QK.x (Yields.ld rfl (part_first (p:=p) (E:=59) (tot:=102) bF)) (QK.dp rfl ?_))))))
  refine QK.bool trivial (Yields.pure rfl) (fun g33=>?_) (fun g33=>?_)
  · try simp only[aD] at g33
    refine QK.ak rfl (.pure rfl) (QK.ak rfl (.aT rfl (aa _) (part_up (p:=p) (E:=59) (tot:=102) bF)) (QK.call rfl rfl (end_fc) (QK.ak rfl (.eb (neg:=true) rfl rfl (aO _ _)) (QK.dp rfl ?_))));refine QK.bool trivial (Yields.pure rfl) (fun g39=>?_) (fun g39=>?_)
    · try simp only[aD] at g39
      refine QK.ak rfl (.pure rfl) (QK.ak rfl (.aT rfl (aa _) (dF (p:=p) (E:=59) (tot:=102) bF)) (QK.call rfl rfl (root_fc) (QK.nil ?_)));change OL _ _ _ [_,_,_] _ _ _;refine OL.ak rfl (.eb (neg:=true) rfl rfl (aO _ _)) (OL.n2 rfl rfl (hK5 _ _ (PW.k1 2 rfl ?_)));refine PW.ret (zR rfl ?_);have hke:k=p.gone.length:=by omega
      rw[hke,List.take_length] at hnd hre;have hiff:eJ p.pl↔0<=p.first/\p.up≠bQ/\p.down≠aU:=⟨fun h=>⟨h.first,h.upE,h.downR⟩,fun h=>⟨hnd,hre,h.1,h.2.1,h.2.2⟩⟩
      refine⟨_,Sub.drop (Sub.refl _),?_,rfl⟩
      first
        |exact congrArg Value.bool (decide_eq_false fun hf=>g33 (hiff.1 hf).1).symm
        |exact congrArg Value.bool (decide_eq_false fun hf=>(hiff.1 hf).2.1 g39).symm
        | (refine congrArg Value.bool (show (!decide (p.down = aU)) = decide (eJ p.pl) from ?_)
           rw[Bool.eq_iff_iff];simp only[Bool.not_eq_true',decide_eq_false_iff_not,decide_eq_true_eq,hiff];exact⟨fun h=>⟨g33,g39,h⟩,fun h=>h.2.2⟩)
    try simp only[aD] at g39
    refine QK.off rfl rfl (QK.off rfl rfl (QK.off rfl rfl (QK.nil ?_)));change OL _ _ _ [_,_,_] _ _ _;refine OL.off rfl rfl (OL.n2 rfl rfl (hK5 _ _ (PW.k1 2 rfl ?_)));refine PW.ret (zR rfl ?_);have hke:k=p.gone.length:=by omega
    rw[hke,List.take_length] at hnd hre;have hiff:eJ p.pl↔0<=p.first/\p.up≠bQ/\p.down≠aU:=⟨fun h=>⟨h.first,h.upE,h.downR⟩,fun h=>⟨hnd,hre,h.1,h.2.1,h.2.2⟩⟩
    refine⟨_,Sub.drop (Sub.refl _),?_,rfl⟩
    first
      |exact congrArg Value.bool (decide_eq_false fun hf=>g33 (hiff.1 hf).1).symm
      |exact congrArg Value.bool (decide_eq_false fun hf=>(hiff.1 hf).2.1 g39).symm
      | (refine congrArg Value.bool (show (!decide (p.down = aU)) = decide (eJ p.pl) from ?_)
         rw[Bool.eq_iff_iff];simp only[Bool.not_eq_true',decide_eq_false_iff_not,decide_eq_true_eq,hiff];exact⟨fun h=>⟨g33,g39,h⟩,fun h=>h.2.2⟩)
  try simp only[aD] at g33
  refine QK.off rfl rfl (QK.off rfl rfl (QK.off rfl rfl (QK.off rfl rfl (QK.p2 rfl rfl (QK.off rfl rfl (QK.off rfl rfl (QK.off rfl rfl (QK.nil ?_))))))));change OL _ _ _ [_,_,_] _ _ _;refine OL.off rfl rfl (OL.n2 rfl rfl (hK5 _ _ (PW.k1 2 rfl ?_)));refine PW.ret (zR rfl ?_);have hke:k=p.gone.length:=by omega
  rw[hke,List.take_length] at hnd hre;have hiff:eJ p.pl↔0<=p.first/\p.up≠bQ/\p.down≠aU:=⟨fun h=>⟨h.first,h.upE,h.downR⟩,fun h=>⟨hnd,hre,h.1,h.2.1,h.2.2⟩⟩
  refine⟨_,Sub.drop (Sub.refl _),?_,rfl⟩
  first
    |exact congrArg Value.bool (decide_eq_false fun hf=>g33 (hiff.1 hf).1).symm
    |exact congrArg Value.bool (decide_eq_false fun hf=>(hiff.1 hf).2.1 g39).symm
    | (refine congrArg Value.bool (show (!decide (p.down = aU)) = decide (eJ p.pl) from ?_)
       rw[Bool.eq_iff_iff];simp only[Bool.not_eq_true',decide_eq_false_iff_not,decide_eq_true_eq,hiff];exact⟨fun h=>⟨g33,g39,h⟩,fun h=>h.2.2⟩)
theorem there_fc {w0:World}{S X:SS}{m:dV}{p:aN}(hm:GOk w0 X m) (hS:Over (GS m++X) S) (hp:PartR p):FC prog w0 46 [m.ptr,fz p] S (fun u S'=>u=.bool (decide (eM m.gr p.pl))/\S'=S):=by
 obtain⟨z,hz1,hz2⟩:=zero36;have hll:=hp.lines
 have hthere:eM m.gr p.pl↔p.pl.name∈bu m.parts∨∃v∈own p.pl,v∈bu m.nodes:=by
  unfold eM
  show _∈bu (plP m.parts)∨(∃v∈_,v∈bu (plN m.nodes))↔_
  rw[mks_plP,eV]
 refine FC.ofD known46 (by simp) ?_
 unfold pc46;simp only[bo];refine PW.ae (OL.c (OW.bx rfl) ?_);rintro _ _ ⟨r3,rfl,rfl⟩;rw[fj,bm];refine OL.n1 rfl (PW.k2 0 3 rfl (PW.seq fun K1 hK1=>PW.seq fun K2 hK2=>?_))
 have hS1:Over (GS m++X) (eB r3 p::S):=hS.cons
 refine PW.dy (Ss:=Over (eB r3 p::S)) (fr:=false) [(0,0),(1,0),(2,0),(3,0),(4,0),(5,0),(6,0),(7,0),(8,0),(9,0),(10,0),(11,0),(12,0),(13,2),(14,2)] mixed (by decide +kernel) (Over.refl _) (fun h=>by cases h) ?_
 refine GL.dp rfl ?_;refine GL.ak trivial (fun Sx hSx=>Yields.cF rfl) ?_
 refine GL.dp rfl ?_;refine GL.ak trivial (fun Sx hSx=>Yields.ld rfl (g_parts (hS1.trans hSx))) ?_
 refine GL.dp rfl ?_;refine GL.ak trivial (fun Sx hSx=>Yields.aT rfl (cz _) (part_patch (p:=p) (E:=59) (tot:=102) (hSx _ bF))) ?_
 refine GL.dp rfl ?_;refine GL.ak trivial (fun Sx hSx=>Yields.ld rfl (part_at (p:=p) (E:=59) (tot:=102) (hSx _ bF))) ?_
 refine GL.ak trivial (fun Sx hSx=>Yields.build (fill_vtx rfl rfl)) ?_
 refine GL.ak trivial (fun Sx hSx=>Yields.lookG (okc:=true) (a:=p.pl.name) Tryz.underlying108 hz1 hz2 keys97 hm.pk hp.name rfl rfl (fw (hS1.trans hSx)).2.1) ?_
 refine GL.dp rfl ?_;refine GL.dp rfl ?_;refine GL.dp rfl ?_;refine GL.lo trivial (OW.mono (OW.al) ?_);rintro _ _ ⟨r5,rfl,rfl⟩;refine⟨(Over.refl _).cons,?_⟩;refine GL.lo trivial (OW.mono (part_st rfl rfl rfl) ?_);rintro _ _ rfl;refine⟨(Over.refl _).cons,?_⟩;refine OL.bZ (S':=eB r3 p::S) (Sub.drop (Sub.refl _)) ?_;change OL _ _ _ [_] _ _ _;refine OL.n1 rfl (hK2 _ _ (PW.k3 0 3 6 rfl (PW.s1 rfl (PW.k3 0 3 21 rfl ?_))));refine PW.cond rfl (fun c21=>?_) (fun c21=>?_)
 ·rw[isSome_mks] at c21;try simp only[aD] at c21
  exact PW.s1 rfl (PW.k1 4 rfl (PW.ret (zR rfl ⟨_,Sub.drop (Sub.refl _),congrArg Value.bool (decide_eq_true (hthere.2 (.inl c21))).symm,rfl⟩)))
 rw[isSome_mks] at c21;try simp only[aD] at c21
 refine PW.skip (hK1 _ _ (PW.k2 0 3 rfl (PW.seq fun K3 hK3=>PW.ae (OL.dp rfl (OL.x (Yields.ld rfl (fp (p:=p) (E:=59) (tot:=102) bF)) (OL.n2 rfl rfl (PW.k4 0 3 24 25 rfl (PW.block ?_))))))))
 refine PW.k4 0 3 24 25 rfl ?_;refine PW.aR (I:=fun mm T S'=>∃(k:Nat),(k<=p.lines.length/\mm=p.lines.length-k/\∀i,i<k->p.pl.vtx i∉bu m.nodes)/\T=([(0,m.ptr),(3,.pointer (some ⟨r3,0,none⟩)),(24,.int .i64 (p.lines.length:Int)),(25,.int .i64 k)]:TT)/\S'=eB r3 p::S) (m:=p.lines.length) ⟨0,⟨by omega,by omega,fun i h=>absurd h (by omega)⟩,rfl,rfl⟩ ?_
 rintro mm _ _ ⟨k,⟨hk,hmm,hall⟩,rfl,rfl⟩;refine PW.s1 rfl (PW.k5 0 3 24 25 26 rfl (PW.seq fun K4 hK4=>?_))
 refine PW.cond rfl (fun c26=>?_) (fun c26=>?_)
 ·try simp only[aD] at c26
  have hkl:k<p.lines.length:=by omega
  refine PW.skip (hK4 _ _ (PW.k4 0 3 24 25 rfl (PW.seq fun K5 hK5=>PW.block (PW.s2 rfl rfl (PW.k5 0 3 7 24 25 rfl (PW.ae (OL.dp rfl ?_)))))))
  refine OL.x (Yields.aT rfl (bm _) (av bF)) (OL.dp rfl (OL.q rfl (vertex_fc (i:=k) hp (by omega)) (OL.q rfl (line_fc hm hS1 (hp.vtx hkl)) (OL.nil (PW.k5 0 3 24 25 32 rfl ?_)))))
  refine PW.cond rfl (fun c32=>?_) (fun c32=>?_)
  ·try simp only[aD] at c32
   exact PW.s1 rfl (PW.k1 4 rfl (PW.ret (zR rfl ⟨_,Sub.drop (Sub.refl _),congrArg Value.bool (decide_eq_true (hthere.2 (.inr ⟨_,dG.2 ⟨k,hkl,rfl⟩,c32⟩))).symm,rfl⟩)))
  try simp only[aD] at c32
  refine PW.skip (hK5 _ _ (PW.k4 0 3 24 25 rfl (PW.ops (OL.x (Yields.ao rfl rfl (by omega) (by omega)) (OL.n1 rfl ?_)))))
  refine af.mk (T'':=[(0,_),(3,_),(24,_),(25,_)]) (wi rfl) ?_;refine⟨p.lines.length-(k+1),by omega,k+1,⟨by omega,rfl,fun i hi=>?_⟩,rfl,rfl⟩
  by_cases h:i=k
  ·subst h;exact c32
  exact hall i (by omega)
 try simp only[aD] at c26
 refine PW.exit (hK3 _ _ (PW.cD (T':=[]) trivial (PW.s1 rfl (PW.k1 4 rfl ?_))));refine PW.ret (zR rfl ?_);refine⟨_,Sub.drop (Sub.refl _),congrArg Value.bool (decide_eq_false fun h=>?_).symm,rfl⟩
 rcases hthere.1 h with h|⟨v,hv,h⟩
 ·exact c21 h
 obtain⟨i,hi,rfl⟩:=dG.1 hv;exact hall i (by have:i<p.lines.length:=hi;omega) h
end Go.Proofs.Gr

namespace Go.Proofs.Gr
open Go.SL Go.RowKit Go.Proofs Go.GP
theorem mem_mpt {α β:Type}[DecidableEq α] {l:List (α×β)}{a:α}{b:β}{q:α×β}(h:q∈dM l a b):q=(a,b)∨q∈l:=by
 induction l with
 |nil=>simpa[dM] using h
 |cons p l ih=>
  unfold dM at h;split at h
  ·rcases List.mem_cons.1 h with h|h
   ·exact .inl h
   exact .inr (List.mem_cons_of_mem _ h)
  rcases List.mem_cons.1 h with h|h
  ·exact .inr (by rw[h];exact List.mem_cons_self)
  exact(ih h).imp_right (List.mem_cons_of_mem _)
theorem _root_.Go.SL.Rd.junkR {w0:World}{a b:bD}{A:Option Addr}{l:List Value}{X:SS}(h:Rd w0 (a::X) A l):Rd w0 ((a++b)::X) A l:=h.mono fun p hp=>by simp only[List.flatten_cons,List.mem_append] at hp ⊢;exact hp.imp_left .inl
theorem _root_.Go.SL.Rd.junkL {w0:World}{a b:bD}{A:Option Addr}{l:List Value}{X:SS}(h:Rd w0 [b] A l):Rd w0 ((a++b)::X) A l:=h.mono fun p hp=>by simp only[List.flatten_cons,List.flatten_nil,List.append_nil,List.mem_append] at hp ⊢;exact .inl (.inr hp)
theorem _root_.Go.SL.Rd.jmono {w0:World}{X:SS}{a b:bD}{A:Option Addr}{l:List Value}(h:Rd w0 (a::X) A l) (hj:∀x∈a,x∈b):Rd w0 (b::X) A l:=h.mono fun p hp=>by
 rw[List.flatten_cons,List.mem_append] at hp ⊢;exact hp.imp_left (hj p)
theorem NodeOk'.grow {w0:World}{X:SS}{a b:bD}{i j:Nat}{n:ck}(h:NodeOk' w0 (a::X) i n) (hij:i<=j):NodeOk' w0 ((a++b)::X) j n:=
 ⟨h.rd.junkR,h.ok,Nat.le_trans h.len hij,by have:=h.gone;omega,by have:=h.named;omega⟩
theorem PartOk'.grow {w0:World}{X:SS}{a b:bD}{p:aN}(h:PartOk' w0 (a::X) p):PartOk' w0 ((a++b)::X) p:=⟨h.rdL.junkR,h.rdG.junkR,h.rng⟩
theorem GOk.node' {w0:World}{X:SS}{m:dV}{seg:bD}{k:Nat}{a:ay}{n:ck}(hm:GOk w0 X m) (ha:er a) (hn:NodeOk' w0 ((m.aH++seg)::X) (m.lim+k) n) (hk:m.lim+k<=1000000000000) :
  GOk w0 X { m with nodes:=dM m.nodes a n,aH:=m.aH++seg,lim:=m.lim+k } where
 pk:=hm.pk
 part:=fun q hq=>(hm.part q hq).grow
 nk:=fun q hq=>by
  rcases mem_mpt hq with rfl|h
  ·exact ha
  exact hm.nk q h
 node:=fun q hq=>by
  rcases mem_mpt hq with rfl|h
  ·exact hn
  exact(hm.node q h).grow (Nat.le_add_right _ _)
 first:=hm.first.junkR
 firstOk:=hm.firstOk
 fh:=Nat.le_trans hm.fh (Nat.le_add_right _ _)
 lim:=hk
 pkd:=hm.pkd
 nkd:=mpt_nodup hm.nkd _ _
theorem GOk.node0 {w0:World}{X:SS}{m:dV}{k:Nat}{a:ay}{n:ck}(hm:GOk w0 X m) (ha:er a) (hn:NodeOk' w0 (m.aH::X) (m.lim+k) n) (hk:m.lim+k<=1000000000000) :
  GOk w0 X { m with nodes:=dM m.nodes a n,lim:=m.lim+k } where
 pk:=hm.pk
 part:=hm.part
 nk:=fun q hq=>by
  rcases mem_mpt hq with rfl|h
  ·exact ha
  exact hm.nk q h
 node:=fun q hq=>by
  rcases mem_mpt hq with rfl|h
  ·exact hn
  have:=hm.node q h
  exact⟨this.rd,this.ok,Nat.le_trans this.len (Nat.le_add_right _ _),by have:=this.gone;show -((m.lim+k:Nat):Int)<=_/\_<=((m.lim+k:Nat):Int);omega,by have:=this.named;show -((m.lim+k:Nat):Int)<=_/\_<=((m.lim+k:Nat):Int);omega⟩
 first:=hm.first
 firstOk:=hm.firstOk
 fh:=Nat.le_trans hm.fh (Nat.le_add_right _ _)
 lim:=hk
 pkd:=hm.pkd
 nkd:=mpt_nodup hm.nkd _ _
theorem edgeL_get {V:Type}:∀{l:List V}{i:Nat}(h:i+1<l.length),(dx l)[i]? = some (l[i],l[i+1])
 |a::b::r,0,_=>rfl
 |a::b::r,i+1,h=>by
  have:=edgeL_get (l:=b::r) (i:=i) (by simpa using h)
  simpa[dx] using this
theorem edgeL_len {V:Type}:∀(l:List V),(dx l).length=l.length-1
 |[]=>rfl
 |[_]=>rfl
 |a::b::r=>by
  have:=edgeL_len (b::r)
  simp only[dx,List.length_cons] at this ⊢;omega
theorem edgeL_take {V:Type}{l:List V}{i:Nat}(h:i+1<l.length):(dx l).take (i+1)=(dx l).take i++[(l[i],l[i+1])]:=by
 rw[List.take_add_one,edgeL_get h];rfl
theorem linksG_snoc (t:Bool) (G:Gr) (es:List (ay×ay)) (e:ay×ay):eC t G (es++[e])=linkG t (eC t G es) e:=by
 unfold eC;rw[List.foldl_append];rfl
theorem way_len (p:ar):(way p).length=p.lines.length+2:=by simp[way,eE]
theorem names_len (p:ar):(names p).length=p.gone.length+2:=rfl
theorem fill_one {T:TT}{v:ay}{x:PV}{zero:List Value}(h:x.val T=some (aP v)) (hz:zero.length=33):dw T zero [(0,33,x)] = some (au v):=by
 simp only[dw,h];rw[if_pos ⟨(List.size_toArray).trans (aa v),by omega⟩]
 exact congrArg some (eP (by rw[hz];exact(aa v).symm))
theorem fill_two {T:TT}{v u:ay}{x y:PV}{zero:List Value}(h:x.val T=some (aP v)) (h2:y.val T=some (aP u)) (hz:zero.length=66):dw T zero [(0,33,x),(33,33,y)] = some (aI [v,u]):=by
 have e1:(au v).length=33:=aa v
 have e2:(au u).length=33:=aa u
 have f1:(setAt zero 0 (au v)).length=66:=by rw[cX];exact hz
 simp only[dw,h,h2];rw[if_pos ⟨(List.size_toArray).trans (aa v),by omega⟩]
 show(if(aP u).cells.size=33/\33+33<=(setAt zero 0 (au v)).length then some (setAt (setAt zero 0 (au v)) 33 (au u)) else none)=_
 rw[if_pos ⟨(List.size_toArray).trans (aa u),by omega⟩]
 congr 1;rw[bU _ _ _ (by omega),bU zero 0 _ (by omega)]
 rw[show List.take 0 zero=[] from rfl,List.nil_append,List.take_append_of_le_length (by omega),List.take_of_length_le (by omega),List.drop_eq_nil_of_le (by rw[List.length_append,List.length_drop];omega)]
 simp[aI]
theorem _root_.Go.SL.OW.appL {P:Program}{w0:World}{n:Nat}{T:TT}{S:SS}{t E sz bytes m q c k:Nat}{z v:Value}{s x:PV}{A:Option Addr}{xs news:List Value}{seg:bD}(hs':s.val T=some v) (hk:S[k]? = some seg) (hv:aV E sz v m xs seg)
  (hx:x.val T=some (.slice A q c)) (hl:news.length=q*sz) (hrd:Rd w0 S A news) (hsz:0<sz) (hc:A=none->c=0) (h1:news.all (·.oneCell')=true)
  (hb:(m+q)*bytes<=140737488355328) (h63:m+q<=maxLen) :
  OW P w0 n (.app t E sz bytes z s x) T S (fun v' S'=>∃seg',S'=S.set k seg'/\aV E sz v' (m+q) (xs++news) seg'):=by
 cases A with
 |none=>
  obtain rfl:=hc rfl;have:news=[]:=by
   cases news with
   |nil=>rfl
   |cons b l=>obtain⟨_,e,_⟩:=hrd 0 _ rfl;cases e
  subst this;have:q=0:=by
   rcases Nat.eq_zero_or_pos q with h|h
   ·exact h
   have:=Nat.mul_pos h hsz
   simp at hl;omega
  subst this;refine(OW.of_yields (OW.app_none (P:=P) (w0:=w0) (n:=n) (t:=t) (bytes:=bytes) (z:=z) hs' hk hv hx)).mono ?_;rintro v' S' ⟨rfl,rfl⟩;refine⟨seg,?_,by simpa using hv⟩
  obtain⟨A,R,rfl,rfl⟩:=split_at hk;exact(set_at rfl).symm
 |some a=>
  exact OW.app hs' hk hv hx hl (fun j u hj=>hrd.at hj) h1 hb h63
theorem GOk.first' {w0:World}{X:SS}{m:dV}{seg:bD}{k c:Nat}{A:Option Addr}{l:List ay}(hm:GOk w0 X m) (hr:Rd w0 ((m.aH++seg)::X) A (aI l)) (ho:∀v∈l,er v) (hl:l.length<=m.lim+k) (hk:m.lim+k<=1000000000000) :
  GOk w0 X { m with FA:=A,fc:=c,first:=l,aH:=m.aH++seg,lim:=m.lim+k } where
 pk:=hm.pk
 part:=fun q hq=>(hm.part q hq).grow
 nk:=hm.nk
 node:=fun q hq=>(hm.node q hq).grow (Nat.le_add_right _ _)
 first:=hr
 firstOk:=ho
 fh:=hl
 lim:=hk
 pkd:=hm.pkd
 nkd:=hm.nkd
theorem aF {w0:World}{E sz m:Nat}{v:Value}{xs:List Value}{seg:bD}(hv:aV E sz v m xs seg):∃A cap,v=.slice A m cap/\(A=none->cap=0)/\m<=cap/\∀S,Rd w0 (seg::S) A xs:=by
 obtain⟨hl,⟨rfl,rfl,rfl⟩|⟨r,cap,rfl,rfl,h1,h2⟩⟩:=hv
 ·have:xs=[]:=List.eq_nil_of_length_eq_zero (by simpa using hl)
  subst this;exact⟨none,0,rfl,fun _=>rfl,Nat.le_refl _,fun S=>Rd.nil⟩
 exact⟨some ⟨r,0,none⟩,cap,rfl,fun h=>by(cases h),h1,fun S=>Rd.own (E:=E) (tot:=cap*sz) (by simp)⟩
theorem slv_own {E sz m:Nat}{v:Value}{xs:List Value}{seg:bD}(hv:aV E sz v m xs seg) (h:0<m):∃r cap,v=.slice (some ⟨r,0,none⟩) m cap/\seg=[(r,.cells xs E (cap*sz))]/\m<=cap/\cap<=maxLen:=by
 obtain⟨hl,⟨rfl,rfl,rfl⟩|h2⟩:=hv
 ·omega
 exact h2
theorem owns_take {w:World}{b E tot:Nat}{c:List Value}(m:Nat) (h:Owns w b (.cells c E tot)):Owns w b (.cells (c.take m) E tot):=by
 obtain⟨C,h1,h2,h3⟩:=h;refine⟨C,h1,h2,?_⟩;rw[<- h3];simp[List.take_take]
theorem vtxs_eraseIdx (l:List ay) (i:Nat):aI (l.eraseIdx i)=aI (l.take i)++aI (l.drop (i+1)):=by rw[List.eraseIdx_eq_take_drop_succ,dc]
theorem vtxs_take (l:List ay) (i:Nat) (h:i<=l.length):(aI l).take (i*33)=aI (l.take i):=by
 have e:aI l=aI (l.take i)++aI (l.drop i):=by rw[<- dc,List.take_append_drop]
 have hl:(aI (l.take i)).length=i*33:=by rw[bT,List.length_take,Nat.min_eq_left h]
 rw[e,List.take_append_of_le_length (by omega),List.take_of_length_le (by omega)]
theorem vtxs_drop (l:List ay) (i:Nat) (h:i<=l.length):(aI l).drop (i*33)=aI (l.drop i):=by
 have e:aI l=aI (l.take i)++aI (l.drop i):=by rw[<- dc,List.take_append_drop]
 have hl:(aI (l.take i)).length=i*33:=by rw[bT,List.length_take,Nat.min_eq_left h]
 rw[e,List.drop_append_of_le_length (by omega),List.drop_eq_nil_of_le (by omega),List.nil_append]
theorem cut_rd {w0:World}{S:SS}{r cap j:Nat}{l:List ay}(h:Rd w0 S (some ⟨r,0,none⟩) (aI l)) (hj:j<=l.length) (hc:l.length<=cap) :
  ∃a,(if cap=j then some (⟨r,0,none⟩:Addr) else(some (⟨r,0,none⟩:Addr)).map (·.add (j*33)))=some a/\∀(i:Nat) (u:Value),(aI (l.drop j))[i]? = some u->Cell w0 S (a.add i) u:=by
 by_cases e:cap=j
 ·have:l.drop j=[]:=List.drop_eq_nil_of_le (by omega)
  rw[if_pos e,this];exact⟨_,rfl,fun i u hi=>by simp[aI] at hi⟩
 rw[if_neg e];refine⟨_,rfl,fun i u hi=>?_⟩
 rw[aZ];refine h.at ?_;rw[<- vtxs_drop l j hj,List.getElem?_drop] at hi;exact hi
theorem del_cells {l:List ay}{i:Nat}{Z:List Value}(hi:i<l.length) (hz:Z.length=33) :
  (setAt (setAt (aI l) (i*33) (aI (l.drop (i+1)))) ((l.length-1)*33) Z).take ((l.length-1)*33)=aI (l.eraseIdx i):=by
 have h1:i*33+(aI (l.drop (i+1))).length=(l.length-1)*33:=by rw[bT,List.length_drop];omega
 have h2:(aI l).length=l.length*33:=bT l
 have h3:(setAt (aI l) (i*33) (aI (l.drop (i+1)))).length=l.length*33:=by rw[cX,h2]
 rw[bU _ _ _ (by rw[h3,hz];omega),bU _ _ _ (by rw[h2];omega),h1]
 have h4:((aI l).take (i*33)++aI (l.drop (i+1))).length=(l.length-1)*33:=by
  rw[List.length_append,List.length_take,h2,<- h1];omega
 rw[List.append_assoc,List.take_append_of_le_length (by rw[List.length_take,List.length_append,h4];omega),List.take_take,Nat.min_self,List.take_append_of_le_length (by omega),List.take_of_length_le (by omega),vtxs_take _ _ (by omega),vtxs_eraseIdx]
theorem erase_idx {l:List ay}{v:ay}{k:Nat}(hk:idxZ (fun x=>decide (v=x)) l=(k:Int)):k<l.length/\l.eraseIdx k=l.erase v:=by
 unfold idxZ at hk;split at hk
 ·rename_i j hj;have:j=k:=by omega
  subst this;obtain⟨h1,h2,h3⟩:=List.findIdx?_eq_some_iff_getElem.1 hj;refine⟨h1,?_⟩;have hv:l[j] = v:=by
   have h4:v=l[j]:=by simpa using h2
   exact h4.symm
  have hn:∀i (hi:i<j),l[i]'(by omega)≠v:=fun i hi e=>by have:=h3 i hi;simp[e] at this
  clear h2 h3 hj hk
  induction l generalizing j with
  |nil=>simp at h1
  |cons a l ih=>
   cases j with
   |zero=>
    have:a=v:=hv
    subst this;simp
   |succ j=>
    have ha:a≠v:=hn 0 (by omega)
    rw[List.eraseIdx_cons_succ,List.erase_cons_tail (by simpa using ha)]
    congr 1;exact ih j (by simpa using h1) (by simpa using hv) fun i hi=>hn (i+1) (by omega)
 omega
theorem erase_no {l:List ay}{v:ay}(hk:idxZ (fun x=>decide (v=x)) l<0):l.erase v=l:=by
 unfold idxZ at hk;split at hk
 ·omega
 rename_i h;refine List.erase_of_not_mem fun hm=>?_
 have:=List.findIdx?_eq_none_iff.1 h v hm
 simp at this
end Go.Proofs.Gr

namespace Go.Proofs.Gr
open Go.SL Go.RowKit Go.Proofs Go.GP Go.Proofs.Tryz
set_option maxHeartbeats 1000000
theorem strs_one (l:List ByteArray):(strs l).all (·.oneCell')=true:=by
 rw[List.all_eq_true];intro v hv;obtain⟨a,_,rfl⟩:=List.mem_map.1 hv;rfl
theorem strs_len (l:List ByteArray):(strs l).length=l.length:=List.length_map _
theorem dg {w0:World}{S:SS}{A:Option Addr}{l:List ByteArray}(h:Rd w0 S A (strs l)) (hk:0<l.length):∃a,A=some a:=
 h.some (fun e=>by have:=strs_len l;rw[e] at this;simp at this;omega)
theorem clone_fc {w0:World}{S:SS}{A:Option Addr}{c:Nat}{l:List ay}(hx:Rd w0 S A (aI l)) (hb:l.length<=1000000000000) :
  FC prog w0 54 [.slice A l.length c] S (fun v S'=>∃seg,S'=seg::S/\aV 27 33 v l.length (aI l) seg):=by
 refine FC.ofD known54 (by simp) ?_
 unfold pc54;simp only[bo];refine PW.s1 rfl (PW.k1 0 rfl (PW.seq fun K1 hK1=>PW.ae (OL.dp rfl (OL.x (Yields.slNil rfl) (OL.nil (PW.k2 0 4 rfl ?_))))))
 refine PW.cond rfl (fun c4=>?_) (fun c4=>?_)
 ·try simp only[decide_eq_true_eq,decide_eq_false_iff_not,beq_iff_eq,bne_iff_ne,beq_eq_false_iff_ne,bne_eq_false_iff_eq,Bool.not_eq_true',Bool.not_eq_false',Bool.not_eq_true,ne_eq,Decidable.not_not] at c4
  refine PW.s1 rfl (PW.k1 2 rfl ?_);refine PW.ret (zR rfl ?_);obtain rfl:A=none:=by cases A with
   |none=>rfl
   |some a=>simp at c4
  have hl:l=[]:=by
   cases l with
   |nil=>rfl
   |cons x l=>obtain⟨a,e⟩:=bE hx (by simp);cases e
  subst hl;exact⟨_,Sub.cL (Sub.refl _),[],rfl,aV.nil 27 33⟩
 try simp only[decide_eq_true_eq,decide_eq_false_iff_not,beq_iff_eq,bne_iff_ne,beq_eq_false_iff_ne,bne_eq_false_iff_eq,Bool.not_eq_true',Bool.not_eq_false',Bool.not_eq_true,ne_eq,Decidable.not_not] at c4
 refine PW.skip (hK1 _ _ (PW.k1 0 rfl (PW.ae (OL.c OW.bsl0 ?_))));rintro _ _ ⟨r5,rfl,rfl⟩;refine OL.dp rfl ?_;obtain⟨a0,rfl⟩:∃a,A=some a:=by cases A with
  |none=>simp at c4
  |some a=>exact⟨a,rfl⟩
 refine OL.c (OW.app (k:=0) (m:=0) (xs:=[]) rfl rfl (aV.mk' (cap:=0) rfl (Nat.le_refl 0) (by decide)) rfl (bT l) (fun j u hj=>hx.cons.at hj) (vtxs_one l) (by omega) (by unfold maxLen;omega)) ?_
 rintro v7 _ ⟨seg7,rfl,hsl7⟩;change OL _ _ _ _ _ (seg7::S) _;rw[Nat.zero_add,List.nil_append] at hsl7;exact OL.n1 rfl (PW.k1 2 rfl (PW.ret (zR rfl ⟨_,Sub.refl _,_,rfl,hsl7⟩)))
theorem cloneS_fc {w0:World}{S:SS}{A:Option Addr}{c:Nat}{l:List ByteArray}(hx:Rd w0 S A (strs l)) (hb:l.length<=1000000000000) :
  FC prog w0 53 [.slice A l.length c] S (fun v S'=>∃seg,S'=seg::S/\aV 9 1 v l.length (strs l) seg):=by
 refine FC.ofD known53 (by simp) ?_
 unfold pc53;simp only[bo];refine PW.s1 rfl (PW.k1 0 rfl (PW.seq fun K1 hK1=>PW.ae (OL.dp rfl (OL.x (Yields.slNil rfl) (OL.nil (PW.k2 0 4 rfl ?_))))))
 refine PW.cond rfl (fun c4=>?_) (fun c4=>?_)
 ·try simp only[decide_eq_true_eq,decide_eq_false_iff_not,beq_iff_eq,bne_iff_ne,beq_eq_false_iff_ne,bne_eq_false_iff_eq,Bool.not_eq_true',Bool.not_eq_false',Bool.not_eq_true,ne_eq,Decidable.not_not] at c4
  refine PW.s1 rfl (PW.k1 2 rfl ?_);refine PW.ret (zR rfl ?_);obtain rfl:A=none:=by cases A with
   |none=>rfl
   |some a=>simp at c4
  have hl:l=[]:=by
   cases l with
   |nil=>rfl
   |cons x l=>obtain⟨a,e⟩:=dg hx (by simp);cases e
  subst hl;exact⟨_,Sub.cL (Sub.refl _),[],rfl,aV.nil 9 1⟩
 try simp only[decide_eq_true_eq,decide_eq_false_iff_not,beq_iff_eq,bne_iff_ne,beq_eq_false_iff_ne,bne_eq_false_iff_eq,Bool.not_eq_true',Bool.not_eq_false',Bool.not_eq_true,ne_eq,Decidable.not_not] at c4
 refine PW.skip (hK1 _ _ (PW.k1 0 rfl (PW.ae (OL.c OW.bsl0 ?_))));rintro _ _ ⟨r5,rfl,rfl⟩;refine OL.dp rfl ?_;obtain⟨a0,rfl⟩:∃a,A=some a:=by cases A with
  |none=>simp at c4
  |some a=>exact⟨a,rfl⟩
 refine OL.c (OW.app (k:=0) (m:=0) (xs:=[]) rfl rfl (aV.mk' (cap:=0) rfl (Nat.le_refl 0) (by decide)) rfl ((strs_len l).trans (Nat.mul_one _).symm) (fun j u hj=>hx.cons.at hj) (strs_one l) (by omega) (by unfold maxLen;omega)) ?_
 rintro v7 _ ⟨seg7,rfl,hsl7⟩;change OL _ _ _ _ _ (seg7::S) _;rw[Nat.zero_add,List.nil_append] at hsl7;exact OL.n1 rfl (PW.k1 2 rfl (PW.ret (zR rfl ⟨_,Sub.refl _,_,rfl,hsl7⟩)))
theorem delete_fc {w0:World}{S:SS}{r cap i:Nat}{l:List ay}(hi:i<l.length) (hc:l.length<=cap) (hm:cap<=maxLen) (hb:l.length<=1000000000000) :
  FC prog w0 112 [.slice (some ⟨r,0,none⟩) l.length cap,.int .i64 (i:Int),.int .i64 ((i:Int)+1)] ([(r,.cells (aI l) 27 (cap*33))]::S) (fun v S'=>∃seg,S'=seg::S/\aV 27 33 v (l.length-1) (aI (l.eraseIdx i)) seg):=by
 obtain⟨z,hz1,hz2⟩:∃z,prog.info? 27=some z/\z.size=33:=Option.map_eq_some_iff.1 (show(prog.info? 27).map (·.size)=some 33 by kernel_rfl)
 have hrd:Rd w0 ([(r,.cells (aI l) 27 (cap*33))]::S) (some ⟨r,0,none⟩) (aI l):=Rd.own (E:=27) (tot:=cap*33) (by simp)
 obtain⟨a2,ha2,hrd2⟩:=cut_rd hrd (show i+1<=l.length by omega) hc
 have hn33:(aI (l.drop (i+1))).length=(l.length-(i+1))*33:=by rw[bT,List.length_drop]
 refine FC.of known112 (by simp) ?_
 unfold pc112;simp only[bo];refine PW.s1 rfl (PW.k3 0 1 2 rfl (PW.ae (OL.p4 rfl rfl rfl rfl (OL.dp rfl (OL.x (Yields.sl3 (l:=i) (h:=i+1) (m:=l.length) (A:=some ⟨r,0,none⟩) (cap:=cap) (len:=l.length) Tryz.underlying44 hz1 hz2 rfl rfl rfl rfl (by omega) (by omega) hc) (OL.nil ?_))))))
 refine PW.k3 0 1 2 rfl (PW.seq fun K1 hK1=>PW.ae (OL.p2 rfl rfl (OL.x (Yields.to (v':=.bool false) (Yields.pure rfl) (congrArg Value.bool (decide_eq_false (by omega)))) (OL.nil (PW.k4 0 1 2 16 rfl (PW.ite (b:=false) rfl ?_))))))
 rw[if_neg Bool.false_ne_true];refine PW.skip (hK1 _ _ (PW.k3 0 1 2 rfl (PW.s3 rfl rfl rfl (PW.k4 0 1 2 7 rfl (PW.seq fun K2 hK2=>PW.aQ mixed (QK.dp rfl ?_))))))
 refine QK.dp rfl (QK.x (Yields.to (v':=.slice (some ⟨r,0,none⟩) i cap) (Yields.slS (A:=some ⟨r,0,none⟩) (len:=l.length) (cap:=cap) (l:=0) (h:=i) rfl rfl rfl (.inr ⟨rfl,rfl⟩) (.inl rfl) (by omega) (by omega)) (cutV0 _ _ _ _)) (QK.p2 rfl rfl ?_))
 refine QK.x (Yields.to (v':=.slice (some a2) (l.length-(i+1)) (cap-(i+1))) (Yields.slS (A:=some ⟨r,0,none⟩) (len:=l.length) (cap:=cap) (l:=i+1) (h:=l.length) rfl rfl rfl (.inl rfl) (.inr ⟨rfl,rfl⟩) (by omega) (by omega)) (by unfold cutV;rw[ha2])) ?_
 refine QK.nil ?_;change OL _ _ _ [_,_] _ _ _;refine OL.c (OW.appIn (k:=0) (c:=aI l) (news:=aI (l.drop (i+1))) rfl rfl rfl hn33 hrd2 (vtxs_one _) (by omega) (by rw[hn33,bT];omega)) ?_
 rintro _ _ ⟨rfl,rfl⟩;have hlen1:i+(l.length-(i+1))=l.length-1:=by omega
 rw[hlen1];refine OL.n1 rfl (hK2 _ _ (PW.k2 0 7 rfl (PW.ae (OL.p4 rfl rfl rfl rfl ?_))));refine OL.x (Yields.to (v':=.slice (some ⟨r,(l.length-1)*33,none⟩) 1 (cap-(l.length-1))) (Yields.slS (A:=some ⟨r,0,none⟩) (len:=l.length-1) (cap:=cap) (l:=l.length-1) (h:=l.length) rfl rfl rfl (.inl rfl) (.inl rfl) (by omega) (by omega)) (by unfold cutV;rw[if_neg (by omega)];simp[Addr.add_lit];omega)) ?_
 refine OL.c (OW.clr (k:=0) (c:=setAt (aI l) (i*33) (aI (l.drop (i+1)))) (news:=au v0) rfl rfl (by omega) (by decide) (by kernel_rfl) (by rw[cX,bT,aa];omega) (bL _)) ?_
 rintro _ _ ⟨rfl,rfl⟩;refine OL.nil (PW.k1 0 rfl (PW.ae ?_));refine OL.tell (k:=0) rfl (fun w h=>owns_take ((l.length-1)*33) h) ?_
 change OL _ _ _ _ _ ([(r,.cells ((setAt (setAt (aI l) (i*33) (aI (l.drop (i+1)))) ((l.length-1)*33) (au v0)).take ((l.length-1)*33)) 27 (cap*33))]::S) _;rw[del_cells hi (aa _)];exact OL.x (Yields.pure rfl) (OL.n1 rfl (PW.k1 6 rfl (PW.ret (zR rfl ⟨_,rfl,aV.mk' (by rw[bT,List.length_eraseIdx,if_pos hi]) (by omega) hm⟩))))
theorem Sub.join3 {a b c d e:bD}{S:SS}:Sub (a::b::c::(d++e)::S) (a::b::c::d::e::S):=Sub.cons (Sub.cons (Sub.cons Sub.join))
theorem plN_mpt_gr {m:dV}{a:ay}{n:ck}{seg:bD}{k:Nat}:dV.gr { m with nodes:=dM m.nodes a n,aH:=m.aH++seg,lim:=m.lim+k }={ m.gr with nodes:=dM m.gr.nodes a n.pl }:=by
 unfold dV.gr;simp only[mpt_plN]
theorem okV_append {l:List ay}{b:ay}(h:∀v∈l,er v) (hb:er b):∀v∈l++[b],er v:=fun v hv=>by
 rcases List.mem_append.1 hv with h1|h1
 ·exact h v h1
 rw[List.mem_singleton.1 h1];exact hb
theorem link_fc {w0:World}{S X:SS}{m:dV}(hm:GOk w0 X m) (hX:Over X S) {a b:ay}(ha:er a) (hb:er b) (t:Bool) (hlim:m.lim+1<=1000000000000) :
  FC prog w0 94 [m.ptr,aP a,aP b,.bool t] (GS m++S) (fun v S'=>v=.tuple #[]/\∃m',S'=GS m'++S/\GOk w0 X m'/\m'.gr=linkG t m.gr (a,b)/\m'.r=m.r/\m'.lim=m.lim+1/\∀x∈m.aH,x∈m'.aH):=by
 obtain⟨z,hz1,hz2⟩:=zero100;have hS:Over (GS m++X) (GS m++S):=Over.both hX
 obtain⟨hb1,hb2,hb3⟩:=behA_ok hm a;have hbl:((behA m a).2.2).length<=1000000000000:=by have:=hm.lim;omega
 refine FC.ofD known94 (by simp) ?_
 unfold pc94;simp only[bo];refine PW.ae (OL.c (OW.bx rfl) ?_);rintro _ _ ⟨r5,rfl,rfl⟩;rw[bB,aa];refine OL.c (OW.bx rfl) ?_;rintro _ _ ⟨r6,rfl,rfl⟩;rw[bB,aa];refine OL.nil (PW.k4 0 3 5 6 rfl (PW.ae (OL.dp rfl (OL.x (Yields.aT rfl (aa _) (av dm)) (OL.q rfl (behind_fc hm hS.cons.cons ha) (OL.l rfl (clone_fc (hb1.aH hS.cons.cons) hbl) ?_))))));rintro v14 _ ⟨seg14,rfl,hs14⟩;obtain⟨A14,c14,rfl,-,-,hr14⟩:=aF (w0:=w0) hs14;refine OL.n1 rfl (PW.k5 0 3 5 6 8 rfl (PW.seq fun K1 hK1=>PW.s1 rfl (PW.k5 0 5 6 8 15 rfl ?_)))
 refine PW.cond rfl (fun c15=>?_) (fun c15=>?_)
 ·try simp only[aD] at c15
  refine PW.ops (OL.dp rfl (OL.x (Yields.aT rfl (aa _) (av dm)) ?_));apply OL.bV (k:=0)
  ·rfl
  ·rfl
  ·exact(List.size_toArray).trans (aa _)
  ·rfl
  ·rfl
  ·rfl
  ·exact hs14
  ·exact bL b
  ·omega
  ·unfold maxLen;omega
  intro v19 seg19 hs19;change OL _ _ _ _ _ (seg19::bs r6 b::bs r5 a::(GS m++S)) _;change aV 27 33 v19 (_+1) (aI _++au b) seg19 at hs19;rw[<- vtxs_one1,<- dc] at hs19;obtain⟨nx,hnx0⟩:∃z,z=(behA m a).2.2++[b]:=⟨_,rfl⟩;have hnx:nx=if t=true then b9 m.gr a++[b] else(b9 m.gr a).erase b:=by rw[hnx0];rw[if_pos c15,behA_gr]
  have hnlen:nx.length<=m.lim+1:=by rw[hnx0];simp;omega
  have hnok:∀v∈nx,er v:=by rw[hnx0];exact okV_append hb2 hb
  obtain⟨sgn,hsg0⟩:∃z:bD,z=seg19:=⟨_,rfl⟩;obtain⟨vn,hvn0⟩:∃z:Value,z=v19:=⟨_,rfl⟩;have hsn:aV 27 33 vn nx.length (aI nx) sgn:=by rw[hnx0,hsg0,hvn0];rw[List.length_append];exact hs19
  rw[<- hsg0,<- hvn0];clear hsg0 hvn0 hnx0;obtain⟨An,cn,rfl,-,-,hrdn⟩:=aF (w0:=w0) hsn;have hS2:Over (GS m++X) (sgn::bs r6 b::bs r5 a::(GS m++S)):=hS.cons.cons.cons
  refine OL.n1 rfl (hK1 _ _ (PW.k3 0 5 8 rfl (PW.seq fun K2 hK2=>PW.seq fun K3 hK3=>PW.aQ mixed (QK.x (Yields.aT rfl (aa _) (av zM2)) (QK.l rfl (root_fc) (QK.nil ?_))))))
  change OL _ _ _ [_] _ _ _;refine OL.x (Yields.eb (neg:=false) rfl rfl (aO _ _)) (OL.nil (hK3 _ _ (PW.k4 0 5 8 32 rfl ?_)));refine PW.cond rfl (fun c32=>?_) (fun c32=>?_)
  ·try simp only[aD] at c32
   refine PW.ae (OL.p2 rfl rfl (OL.x (Yields.cF rfl) (OL.dp rfl (OL.c (OW.st (k:=3) (c:=m.cells) (u:=.slice An nx.length cn) rfl rfl rfl rfl (Nat.le_refl 4) rfl) ?_))));rintro _ _ rfl;refine OL.nil (PW.cD (T':=[]) trivial ?_);refine PW.ret (zR rfl ?_);refine⟨_,(Sub.join3).trans (Sub.ec [3,4,5,6,0] 7 (by decide) _),rfl,{ m with FA:=An,fc:=cn,first:=nx,aH:=m.aH++sgn,lim:=m.lim+1 },rfl,hm.first' (hrdn []).junkL hnok hnlen hlim,?_,rfl,rfl,fun x hx=>List.mem_append_left _ hx⟩
   show _=if a=aU then { m.gr with first:=if t=true then b9 m.gr a++[b] else(b9 m.gr a).erase b } else _
   rw[if_pos c32,<- hnx];rfl
  try simp only[aD] at c32
  refine PW.skip (hK2 _ _ (PW.k3 0 5 8 rfl (PW.seq fun K4 hK4=>?_)))
  refine PW.dy (Ss:=Over _) (fr:=true) [(0,0),(1,0),(2,0),(3,0),(4,0),(5,0),(6,3)] mixed (by decide +kernel) (Over.refl _) (fun _ _ _ h=>h.cons) ?_
  refine GL.dp rfl ?_;refine GL.ak trivial (fun Sx hSx=>Yields.cF rfl) ?_
  refine GL.dp rfl ?_;refine GL.ak trivial (fun Sx hSx=>Yields.ld rfl (dz (hS2.trans hSx))) ?_
  refine GL.ak trivial (fun Sx hSx=>Yields.aT rfl (aa _) (av (c:=au a) (E:=27) (tot:=33) (hSx _ zM2))) ?_
  refine GL.ak trivial (fun Sx hSx=>Yields.lookG (okc:=false) (a:=a) Tryz.underlying109 hz1 hz2 dj hm.nk ha rfl rfl (fw (hS2.trans hSx)).2.2.1) ?_
  refine GL.fresh trivial fun r10=>?_
  change OL _ _ _ _ _ ([(r10,.cells [.string ⟨#[]⟩,.int .i64 0,.int .i64 0,.slice none 0 0] 121 4)]::sgn::bs r6 b::bs r5 a::(GS m++S)) _;change OL _ _ _ [_] _ _ _;refine OL.c (node_st rfl rfl _ _ _ _) ?_;rintro _ _ rfl;obtain⟨n0,hn0⟩:∃z,z=(fo m.nodes a).getD zM:=⟨_,rfl⟩;rw[<- hn0];refine OL.nil (hK4 _ _ (PW.k4 0 5 8 10 rfl (PW.ae (OL.p2 rfl rfl (OL.c (OW.st (k:=0) (c:=cB n0) (u:=.slice An nx.length cn) rfl rfl rfl rfl (Nat.le_refl 4) rfl) ?_)))));rintro _ _ rfl;obtain⟨n2,hn2⟩:∃z:ck,z={ n0 with A:=An,c:=cn,next:=nx }:=⟨_,rfl⟩
  change OL _ _ _ _ _ ([(r10,.cells (cB { n0 with A:=An,c:=cn,next:=nx }) 121 4)]::sgn::bs r6 b::bs r5 a::(GS m++S)) _
  rw[<- hn2];refine OL.nil (PW.k3 0 5 10 rfl (PW.aQ mixed (QK.dp rfl (QK.x (Yields.cF rfl) (QK.dp rfl (QK.x (Yields.ld rfl (dz hS2.cons)) (QK.x (Yields.aT rfl (aa _) (av (c:=au a) (E:=27) (tot:=33) zM3)) (QK.x (Yields.aT rfl (cs:=cB n2) rfl (av (c:=cB n2) (E:=121) (tot:=4) bF)) (QK.nil ?_)))))))));change OL _ _ _ [_] _ _ _;refine OL.c (OW.updG (j:=6) (v:=n2) Tryz.underlying109 dj hm.nk ha rfl rfl rfl rfl) ?_;rintro _ _ rfl;refine OL.nil ?_;change(Exit.normal=Exit.normal∨Exit.normal=Exit.ret)/\∃v,resV _ _=some v/\_;have hn0k:=getD_ok hm a
  rw[<- hn0] at hn0k;refine⟨.inl rfl,_,rfl,_,(Sub.join3).trans (Sub.ec [4,5,6,7,1] 8 (by decide) _),rfl,{ m with nodes:=dM m.nodes a n2,aH:=m.aH++sgn,lim:=m.lim+1 },rfl,hm.node' ha ?_ hlim,?_,rfl,rfl,fun x hx=>List.mem_append_left _ hx⟩
  ·rw[hn2];exact⟨(hrdn []).junkL,hnok,hnlen,(hn0k.grow (b:=sgn) (Nat.le_add_right _ 1)).gone,(hn0k.grow (b:=sgn) (Nat.le_add_right _ 1)).named⟩
  rw[plN_mpt_gr]
  show _=if a=aU then _ else { m.gr with nodes:=dM m.gr.nodes a { nd m.gr.nodes a with next:=if t=true then b9 m.gr a++[b] else(b9 m.gr a).erase b } }
  rw[if_neg c32,<- hnx,hn2]
  show _={ m.gr with nodes:=dM m.gr.nodes a { nd (plN m.nodes) a with next:=nx } }
  rw[nd_plN,<- hn0];rfl
 try simp only[aD] at c15
 refine PW.ae (OL.dp rfl (OL.x (Yields.aT rfl (aa _) (av dm)) (OL.q rfl (index_fc (l:=(behA m a).2.2) (hr14 _) hbl) (OL.n1 rfl (PW.k4 0 5 8 9 rfl (PW.s2 rfl rfl (PW.k5 0 5 8 9 24 rfl ?_)))))));refine PW.cond rfl (fun c24=>?_) (fun c24=>?_)
 ·try simp only[aD] at c24
  obtain⟨k,hk⟩:=Int.eq_ofNat_of_zero_le c24;rw[hk];obtain⟨hkl,hke⟩:=erase_idx hk;obtain⟨r14,cap14,e14,rfl,hc14,hm14⟩:=slv_own hs14 (by omega)
  simp only[Value.slice.injEq,true_and] at e14;obtain⟨rfl,rfl⟩:=e14;refine PW.ops (OL.p3 rfl rfl rfl (OL.x (Yields.ao rfl rfl (by omega) (by omega)) (OL.l rfl (delete_fc hkl hc14 hm14 hbl) ?_)))
  rintro v29 _ ⟨seg29,rfl,hs29⟩;obtain⟨nx,hnx0⟩:∃z,z=(behA m a).2.2.eraseIdx k:=⟨_,rfl⟩;have hnx:nx=if t=true then b9 m.gr a++[b] else(b9 m.gr a).erase b:=by rw[hnx0];rw[if_neg (by rw[c15];simp),<- behA_gr,hke]
  have hnlen:nx.length<=m.lim+1:=by rw[hnx0];rw[List.length_eraseIdx,if_pos hkl];omega
  have hnok:∀v∈nx,er v:=by rw[hnx0];exact fun v hv=>hb2 v (List.mem_of_mem_eraseIdx hv)
  obtain⟨sgn,hsg0⟩:∃z:bD,z=seg29:=⟨_,rfl⟩;obtain⟨vn,hvn0⟩:∃z:Value,z=v29:=⟨_,rfl⟩;have hsn:aV 27 33 vn nx.length (aI nx) sgn:=by rw[hnx0,hsg0,hvn0];rw[List.length_eraseIdx,if_pos hkl];exact hs29
  rw[<- hsg0,<- hvn0];clear hsg0 hvn0 hnx0;obtain⟨An,cn,rfl,-,-,hrdn⟩:=aF (w0:=w0) hsn;have hS2:Over (GS m++X) (sgn::bs r6 b::bs r5 a::(GS m++S)):=hS.cons.cons.cons
  refine OL.n1 rfl (hK1 _ _ (PW.k3 0 5 8 rfl (PW.seq fun K5 hK5=>PW.seq fun K6 hK6=>PW.aQ mixed (QK.x (Yields.aT rfl (aa _) (av zM2)) (QK.l rfl (root_fc) (QK.nil ?_))))))
  change OL _ _ _ [_] _ _ _;refine OL.x (Yields.eb (neg:=false) rfl rfl (aO _ _)) (OL.nil (hK6 _ _ (PW.k4 0 5 8 32 rfl ?_)));refine PW.cond rfl (fun c32=>?_) (fun c32=>?_)
  ·try simp only[aD] at c32
   refine PW.ae (OL.p2 rfl rfl (OL.x (Yields.cF rfl) (OL.dp rfl (OL.c (OW.st (k:=3) (c:=m.cells) (u:=.slice An nx.length cn) rfl rfl rfl rfl (Nat.le_refl 4) rfl) ?_))));rintro _ _ rfl;refine OL.nil (PW.cD (T':=[]) trivial ?_);refine PW.ret (zR rfl ?_);refine⟨_,(Sub.join3).trans (Sub.ec [3,4,5,6,0] 7 (by decide) _),rfl,{ m with FA:=An,fc:=cn,first:=nx,aH:=m.aH++sgn,lim:=m.lim+1 },rfl,hm.first' (hrdn []).junkL hnok hnlen hlim,?_,rfl,rfl,fun x hx=>List.mem_append_left _ hx⟩
   show _=if a=aU then { m.gr with first:=if t=true then b9 m.gr a++[b] else(b9 m.gr a).erase b } else _
   rw[if_pos c32,<- hnx];rfl
  try simp only[aD] at c32
  refine PW.skip (hK5 _ _ (PW.k3 0 5 8 rfl (PW.seq fun K7 hK7=>?_)))
  refine PW.dy (Ss:=Over _) (fr:=true) [(0,0),(1,0),(2,0),(3,0),(4,0),(5,0),(6,3)] mixed (by decide +kernel) (Over.refl _) (fun _ _ _ h=>h.cons) ?_
  refine GL.dp rfl ?_;refine GL.ak trivial (fun Sx hSx=>Yields.cF rfl) ?_
  refine GL.dp rfl ?_;refine GL.ak trivial (fun Sx hSx=>Yields.ld rfl (dz (hS2.trans hSx))) ?_
  refine GL.ak trivial (fun Sx hSx=>Yields.aT rfl (aa _) (av (c:=au a) (E:=27) (tot:=33) (hSx _ zM2))) ?_
  refine GL.ak trivial (fun Sx hSx=>Yields.lookG (okc:=false) (a:=a) Tryz.underlying109 hz1 hz2 dj hm.nk ha rfl rfl (fw (hS2.trans hSx)).2.2.1) ?_
  refine GL.fresh trivial fun r10=>?_
  change OL _ _ _ _ _ ([(r10,.cells [.string ⟨#[]⟩,.int .i64 0,.int .i64 0,.slice none 0 0] 121 4)]::sgn::bs r6 b::bs r5 a::(GS m++S)) _;change OL _ _ _ [_] _ _ _;refine OL.c (node_st rfl rfl _ _ _ _) ?_;rintro _ _ rfl;obtain⟨n0,hn0⟩:∃z,z=(fo m.nodes a).getD zM:=⟨_,rfl⟩;rw[<- hn0];refine OL.nil (hK7 _ _ (PW.k4 0 5 8 10 rfl (PW.ae (OL.p2 rfl rfl (OL.c (OW.st (k:=0) (c:=cB n0) (u:=.slice An nx.length cn) rfl rfl rfl rfl (Nat.le_refl 4) rfl) ?_)))));rintro _ _ rfl;obtain⟨n2,hn2⟩:∃z:ck,z={ n0 with A:=An,c:=cn,next:=nx }:=⟨_,rfl⟩
  change OL _ _ _ _ _ ([(r10,.cells (cB { n0 with A:=An,c:=cn,next:=nx }) 121 4)]::sgn::bs r6 b::bs r5 a::(GS m++S)) _
  rw[<- hn2];refine OL.nil (PW.k3 0 5 10 rfl (PW.aQ mixed (QK.dp rfl (QK.x (Yields.cF rfl) (QK.dp rfl (QK.x (Yields.ld rfl (dz hS2.cons)) (QK.x (Yields.aT rfl (aa _) (av (c:=au a) (E:=27) (tot:=33) zM3)) (QK.x (Yields.aT rfl (cs:=cB n2) rfl (av (c:=cB n2) (E:=121) (tot:=4) bF)) (QK.nil ?_)))))))));change OL _ _ _ [_] _ _ _;refine OL.c (OW.updG (j:=6) (v:=n2) Tryz.underlying109 dj hm.nk ha rfl rfl rfl rfl) ?_;rintro _ _ rfl;refine OL.nil ?_;change(Exit.normal=Exit.normal∨Exit.normal=Exit.ret)/\∃v,resV _ _=some v/\_;have hn0k:=getD_ok hm a
  rw[<- hn0] at hn0k;refine⟨.inl rfl,_,rfl,_,(Sub.join3).trans (Sub.ec [4,5,6,7,1] 8 (by decide) _),rfl,{ m with nodes:=dM m.nodes a n2,aH:=m.aH++sgn,lim:=m.lim+1 },rfl,hm.node' ha ?_ hlim,?_,rfl,rfl,fun x hx=>List.mem_append_left _ hx⟩
  ·rw[hn2];exact⟨(hrdn []).junkL,hnok,hnlen,(hn0k.grow (b:=sgn) (Nat.le_add_right _ 1)).gone,(hn0k.grow (b:=sgn) (Nat.le_add_right _ 1)).named⟩
  rw[plN_mpt_gr]
  show _=if a=aU then _ else { m.gr with nodes:=dM m.gr.nodes a { nd m.gr.nodes a with next:=if t=true then b9 m.gr a++[b] else(b9 m.gr a).erase b } }
  rw[if_neg c32,<- hnx,hn2]
  show _={ m.gr with nodes:=dM m.gr.nodes a { nd (plN m.nodes) a with next:=nx } }
  rw[nd_plN,<- hn0];rfl
 try simp only[aD] at c24
 obtain⟨nx,hnx0⟩:∃z,z=(behA m a).2.2:=⟨_,rfl⟩;have hnx:nx=if t=true then b9 m.gr a++[b] else(b9 m.gr a).erase b:=by rw[hnx0];rw[if_neg (by rw[c15];simp),<- behA_gr,erase_no (by omega)]
 have hnlen:nx.length<=m.lim+1:=by rw[hnx0];omega
 have hnok:∀v∈nx,er v:=by rw[hnx0];exact hb2
 obtain⟨sgn,hsg0⟩:∃z:bD,z=seg14:=⟨_,rfl⟩;obtain⟨vn,hvn0⟩:∃z:Value,z=.slice A14 (behA m a).2.2.length c14:=⟨_,rfl⟩;have hsn:aV 27 33 vn nx.length (aI nx) sgn:=by rw[hnx0,hsg0,hvn0];exact hs14
 rw[<- hsg0,<- hvn0];clear hsg0 hvn0 hnx0;obtain⟨An,cn,rfl,-,-,hrdn⟩:=aF (w0:=w0) hsn;have hS2:Over (GS m++X) (sgn::bs r6 b::bs r5 a::(GS m++S)):=hS.cons.cons.cons
 refine PW.skip (hK1 _ _ (PW.k3 0 5 8 rfl (PW.seq fun K8 hK8=>PW.seq fun K9 hK9=>PW.aQ mixed (QK.x (Yields.aT rfl (aa _) (av zM2)) (QK.l rfl (root_fc) (QK.nil ?_))))))
 change OL _ _ _ [_] _ _ _;refine OL.x (Yields.eb (neg:=false) rfl rfl (aO _ _)) (OL.nil (hK9 _ _ (PW.k4 0 5 8 32 rfl ?_)));refine PW.cond rfl (fun c32=>?_) (fun c32=>?_)
 ·try simp only[aD] at c32
  refine PW.ae (OL.p2 rfl rfl (OL.x (Yields.cF rfl) (OL.dp rfl (OL.c (OW.st (k:=3) (c:=m.cells) (u:=.slice An nx.length cn) rfl rfl rfl rfl (Nat.le_refl 4) rfl) ?_))));rintro _ _ rfl;refine OL.nil (PW.cD (T':=[]) trivial ?_);refine PW.ret (zR rfl ?_);refine⟨_,(Sub.join3).trans (Sub.ec [3,4,5,6,0] 7 (by decide) _),rfl,{ m with FA:=An,fc:=cn,first:=nx,aH:=m.aH++sgn,lim:=m.lim+1 },rfl,hm.first' (hrdn []).junkL hnok hnlen hlim,?_,rfl,rfl,fun x hx=>List.mem_append_left _ hx⟩
  show _=if a=aU then { m.gr with first:=if t=true then b9 m.gr a++[b] else(b9 m.gr a).erase b } else _
  rw[if_pos c32,<- hnx];rfl
 try simp only[aD] at c32
 refine PW.skip (hK8 _ _ (PW.k3 0 5 8 rfl (PW.seq fun K10 hK10=>?_)))
 refine PW.dy (Ss:=Over _) (fr:=true) [(0,0),(1,0),(2,0),(3,0),(4,0),(5,0),(6,3)] mixed (by decide +kernel) (Over.refl _) (fun _ _ _ h=>h.cons) ?_
 refine GL.dp rfl ?_;refine GL.ak trivial (fun Sx hSx=>Yields.cF rfl) ?_
 refine GL.dp rfl ?_;refine GL.ak trivial (fun Sx hSx=>Yields.ld rfl (dz (hS2.trans hSx))) ?_
 refine GL.ak trivial (fun Sx hSx=>Yields.aT rfl (aa _) (av (c:=au a) (E:=27) (tot:=33) (hSx _ zM2))) ?_
 refine GL.ak trivial (fun Sx hSx=>Yields.lookG (okc:=false) (a:=a) Tryz.underlying109 hz1 hz2 dj hm.nk ha rfl rfl (fw (hS2.trans hSx)).2.2.1) ?_
 refine GL.fresh trivial fun r10=>?_
 change OL _ _ _ _ _ ([(r10,.cells [.string ⟨#[]⟩,.int .i64 0,.int .i64 0,.slice none 0 0] 121 4)]::sgn::bs r6 b::bs r5 a::(GS m++S)) _;change OL _ _ _ [_] _ _ _;refine OL.c (node_st rfl rfl _ _ _ _) ?_;rintro _ _ rfl;obtain⟨n0,hn0⟩:∃z,z=(fo m.nodes a).getD zM:=⟨_,rfl⟩;rw[<- hn0];refine OL.nil (hK10 _ _ (PW.k4 0 5 8 10 rfl (PW.ae (OL.p2 rfl rfl (OL.c (OW.st (k:=0) (c:=cB n0) (u:=.slice An nx.length cn) rfl rfl rfl rfl (Nat.le_refl 4) rfl) ?_)))));rintro _ _ rfl;obtain⟨n2,hn2⟩:∃z:ck,z={ n0 with A:=An,c:=cn,next:=nx }:=⟨_,rfl⟩
 change OL _ _ _ _ _ ([(r10,.cells (cB { n0 with A:=An,c:=cn,next:=nx }) 121 4)]::sgn::bs r6 b::bs r5 a::(GS m++S)) _
 rw[<- hn2];refine OL.nil (PW.k3 0 5 10 rfl (PW.aQ mixed (QK.dp rfl (QK.x (Yields.cF rfl) (QK.dp rfl (QK.x (Yields.ld rfl (dz hS2.cons)) (QK.x (Yields.aT rfl (aa _) (av (c:=au a) (E:=27) (tot:=33) zM3)) (QK.x (Yields.aT rfl (cs:=cB n2) rfl (av (c:=cB n2) (E:=121) (tot:=4) bF)) (QK.nil ?_)))))))));change OL _ _ _ [_] _ _ _;refine OL.c (OW.updG (j:=6) (v:=n2) Tryz.underlying109 dj hm.nk ha rfl rfl rfl rfl) ?_;rintro _ _ rfl;refine OL.nil ?_;change(Exit.normal=Exit.normal∨Exit.normal=Exit.ret)/\∃v,resV _ _=some v/\_;have hn0k:=getD_ok hm a
 rw[<- hn0] at hn0k;refine⟨.inl rfl,_,rfl,_,(Sub.join3).trans (Sub.ec [4,5,6,7,1] 8 (by decide) _),rfl,{ m with nodes:=dM m.nodes a n2,aH:=m.aH++sgn,lim:=m.lim+1 },rfl,hm.node' ha ?_ hlim,?_,rfl,rfl,fun x hx=>List.mem_append_left _ hx⟩
 ·rw[hn2];exact⟨(hrdn []).junkL,hnok,hnlen,(hn0k.grow (b:=sgn) (Nat.le_add_right _ 1)).gone,(hn0k.grow (b:=sgn) (Nat.le_add_right _ 1)).named⟩
 rw[plN_mpt_gr]
 show _=if a=aU then _ else { m.gr with nodes:=dM m.gr.nodes a { nd m.gr.nodes a with next:=if t=true then b9 m.gr a++[b] else(b9 m.gr a).erase b } }
 rw[if_neg c32,<- hnx,hn2]
 show _={ m.gr with nodes:=dM m.gr.nodes a { nd (plN m.nodes) a with next:=nx } }
 rw[nd_plN,<- hn0];rfl
theorem ptr_eq {m m':dV}(h:m'.r=m.r):m'.ptr=m.ptr:=by unfold dV.ptr;rw[h]
theorem _root_.Go.SL.Rd.appR {w0:World}{A B:SS}{a:Option Addr}{l:List Value}(h:Rd w0 B a l):Rd w0 (A++B) a l:=h.mono fun p hp=>by simp only[List.flatten_append,List.mem_append];exact .inr hp
def wayK (p:aN) (k:Nat):List ay:=p.up::(List.range k).map p.pl.vtx
theorem wayK_len (p:aN) (k:Nat):(wayK p k).length=k+1:=by simp[wayK]
theorem wayK_succ (p:aN) (k:Nat):wayK p (k+1)=wayK p k++[p.pl.vtx k]:=by unfold wayK;rw[List.range_succ,List.map_append];rfl
theorem way_eq (p:aN):wayK p p.lines.length++[p.down] = way p.pl:=rfl
theorem way_ok {p:aN}(hp:PartR p):∀v∈way p.pl,er v:=by
 intro v hv;unfold way at hv;rcases List.mem_cons.1 hv with rfl|hv
 ·exact hp.up
 rcases List.mem_append.1 hv with h|h
 ·obtain⟨i,hi,rfl⟩:=dG.1 h;exact hp.vtx hi
 rw[List.mem_singleton.1 h];exact hp.down
theorem links_fc {w0:World}{S X:SS}{m:dV}(hm:GOk w0 X m) (hX:Over X S) {p:aN}(hp:PartR p) (t:Bool) (hlim:m.lim+p.lines.length+1<=1000000000000) :
  FC prog w0 56 [m.ptr,fz p,.bool t] (GS m++S) (fun v S'=>v=.tuple #[]/\∃m',S'=GS m'++S/\GOk w0 X m'/\m'.gr=eC t m.gr (dB p.pl)/\m'.r=m.r/\m'.lim<=m.lim+p.lines.length+1/\∀x∈m.aH,x∈m'.aH):=by
 have hll:=hp.lines
 have hwl:=way_len p.pl
 have hpl:p.pl.lines.length=p.lines.length:=rfl
 refine FC.ofD known56 (by simp) ?_
 unfold pc56;simp only[bo];refine PW.ae (OL.c (OW.bx rfl) ?_);rintro _ _ ⟨r4,rfl,rfl⟩;rw[fj,bm];refine OL.nil (PW.k3 0 2 4 rfl (PW.seq fun K1 hK1=>PW.ae (OL.dp rfl (OL.x (Yields.ld rfl (fp (p:=p) (E:=59) (tot:=102) bF)) (OL.n2 rfl rfl (PW.k4 0 2 4 12 rfl ?_))))))
 refine PW.cond rfl (fun c12=>?_) (fun c12=>?_)
 ·try simp only[aD] at c12
  refine PW.ret (zR rfl ?_);have he:dB p.pl=[]:=by unfold dB;rw[if_pos (by omega)]
  refine⟨_,Sub.drop (Sub.refl _),rfl,m,rfl,hm,by rw[he];rfl,rfl,by omega,fun _ h=>h⟩
 try simp only[aD] at c12
 refine PW.skip (hK1 _ _ (PW.k3 0 2 4 rfl (PW.ae (OL.dp rfl (OL.x (Yields.aT rfl (aa _) (part_up (p:=p) (E:=59) (tot:=102) bF)) (OL.c (OW.fl (fill_one (v:=p.up) rfl rfl)) ?_))))));rintro _ _ ⟨r15,rfl,rfl⟩;rw[aa];have hs15:aV 27 33 (.slice (some ⟨r15,0,none⟩) 1 1) (wayK p 0).length (aI (wayK p 0)) [(r15,.cells (au p.up) 27 33)]:=by
  have:=aV.mk' (E:=27) (sz:=33) (m:=1) (cap:=1) (r:=r15) (xs:=au p.up) (by rw[aa]) (Nat.le_refl _) (by decide)
  simpa[wayK,aI] using this
 refine OL.n1 rfl (PW.k4 0 2 4 6 rfl (PW.seq fun K2 hK2=>PW.ae (OL.dp rfl (OL.x (Yields.ld rfl (fp (p:=p) (E:=59) (tot:=102) dm)) (OL.n2 rfl rfl (PW.k6 0 2 4 6 18 19 rfl (PW.block ?_)))))))
 refine PW.k6 0 2 4 6 18 19 rfl ?_;refine PW.aR (I:=fun mm T S'=>∃(k:Nat) (v:Value) (sg:bD),(k<=p.lines.length/\mm=p.lines.length-k/\aV 27 33 v (wayK p k).length (aI (wayK p k)) sg)/\T=([(0,m.ptr),(2,.bool t),(4,.pointer (some ⟨r4,0,none⟩)),(6,v),(18,.int .i64 (p.lines.length:Int)),(19,.int .i64 k)]:TT)/\S'=sg::eB r4 p::(GS m++S)) (m:=p.lines.length) ⟨0,_,_,⟨by omega,by omega,hs15⟩,rfl,rfl⟩ ?_
 rintro mm _ _ ⟨k,v,sg,⟨hk,hmm,hs⟩,rfl,rfl⟩;refine PW.s1 rfl (PW.k7 0 2 4 6 18 19 20 rfl (PW.seq fun K3 hK3=>?_))
 refine PW.cond rfl (fun c20=>?_) (fun c20=>?_)
 ·try simp only[aD] at c20
  have hkl:k<p.lines.length:=by omega
  refine PW.skip (hK3 _ _ (PW.k6 0 2 4 6 18 19 rfl (PW.seq fun K4 hK4=>PW.block (PW.s2 rfl rfl (PW.k7 0 2 4 6 7 18 19 rfl (PW.ops (OL.dp rfl ?_)))))))
  refine OL.x (Yields.aT rfl (bm _) (av dm)) (OL.dp rfl (OL.q rfl (vertex_fc (i:=k) hp (by omega)) ?_))
  apply OL.bV (k:=0)
  ·rfl
  ·rfl
  ·exact(List.size_toArray).trans (aa _)
  ·rfl
  ·rfl
  ·rfl
  ·exact hs
  ·exact bL _
  ·rw[wayK_len];omega
  ·rw[wayK_len];unfold maxLen;omega
  intro v27 seg27 hs27;change OL _ _ _ _ _ (seg27::eB r4 p::(GS m++S)) _;change aV 27 33 v27 (_+1) (aI _++au (p.pl.vtx k)) seg27 at hs27;rw[<- vtxs_one1,<- dc,<- wayK_succ,wayK_len,<- wayK_len p (k+1)] at hs27;refine OL.n1 rfl (hK4 _ _ (PW.k6 0 2 4 6 18 19 rfl (PW.ops (OL.x (Yields.ao rfl rfl (by omega) (by omega)) (OL.n1 rfl ?_)))))
  refine af.mk (T'':=[(0,_),(2,_),(4,_),(6,_),(18,_),(19,_)]) (wi rfl) ?_;refine⟨p.lines.length-(k+1),by omega,k+1,v27,seg27,⟨by omega,rfl,hs27⟩,rfl,rfl⟩
 try simp only[aD] at c20
 refine PW.exit (hK2 _ _ (PW.k4 0 2 4 6 rfl (PW.ae (OL.p2 rfl rfl (OL.x (Yields.aT rfl (aa _) (dF (p:=p) (E:=59) (tot:=102) dm)) ?_)))));apply OL.bV (k:=0)
 ·rfl
 ·rfl
 ·exact(List.size_toArray).trans (aa _)
 ·rfl
 ·rfl
 ·rfl
 ·exact hs
 ·exact bL _
 ·rw[wayK_len];omega
 ·rw[wayK_len];unfold maxLen;omega
 intro v33 seg33 hs33;change OL _ _ _ _ _ (seg33::eB r4 p::(GS m++S)) _;change aV 27 33 v33 (_+1) (aI _++au p.down) seg33 at hs33;obtain rfl:k=p.lines.length:=by omega
 rw[<- vtxs_one1,<- dc,way_eq,wayK_len,<- hpl,show p.pl.lines.length+1+1=(way p.pl).length by omega] at hs33
 obtain⟨Aw,cw,rfl,-,-,hrdw⟩:=aF (w0:=w0) hs33;obtain⟨aw,rfl⟩:=bE (hrdw []) (by omega)
 refine OL.n1 rfl (PW.k3 0 2 6 rfl (PW.ae (OL.bZ (S':=GS m++(seg33::eB r4 p::S)) (Sub.ec [2,3,4,5,0,1] 6 (by decide) (seg33::eB r4 p::(GS m++S))) (OL.x (Yields.pure rfl) (OL.nil (PW.k4 0 2 6 8 rfl (PW.block (PW.k4 0 2 6 8 rfl ?_))))))))
 refine PW.aR (I:=fun mm T S'=>∃(i:Nat) (m1:dV),(i+1<=(way p.pl).length/\mm=(way p.pl).length-(i+1)/\GOk w0 X m1/\m1.gr=eC t m.gr ((dx (way p.pl)).take i)/\m1.r=m.r/\m1.lim<=m.lim+i/\∀x∈m.aH,x∈m1.aH)/\T=([(0,m.ptr),(2,.bool t),(6,.slice (some aw) (way p.pl).length cw),(8,.int .i64 ((i:Int)+1))]:TT)/\S'=GS m1++(seg33::eB r4 p::S)) (m:=(way p.pl).length-1) ⟨0,m,⟨by omega,by omega,hm,rfl,rfl,Nat.le_refl _,fun _ h=>h⟩,rfl,rfl⟩ ?_
 rintro mm _ _ ⟨i,m1,⟨hi,hmm,hm1,hg1,hr1,hl1,hj1⟩,rfl,rfl⟩;refine PW.seq fun K5 hK5=>PW.s4 rfl rfl rfl rfl (PW.k5 0 2 6 8 37 rfl ?_)
 refine PW.cond rfl (fun c37=>?_) (fun c37=>?_)
 ·try simp only[aD] at c37
  have hlt:i+1<(way p.pl).length:=by omega
  refine PW.skip (hK5 _ _ (PW.k4 0 2 6 8 rfl (PW.seq fun K6 hK6=>PW.block (PW.aQ mixed (QK.p3 rfl rfl rfl (QK.x (Yields.cH rfl rfl (by omega) (by omega)) ?_))))))
  refine QK.x (Yields.bO rfl rfl (show(i:Int)+1-1=(i:Int) by omega) (by omega)) ?_
  refine QK.x (Yields.aT rfl (aa _) (bS (Rd.appR (hrdw _)) (k:=i) (by omega))) (QK.p2 rfl rfl (QK.x (Yields.bO rfl rfl rfl (by omega)) (QK.x (Yields.aT rfl (aa _) (bS (Rd.appR (hrdw _)) (k:=i+1) hlt)) (QK.n1 rfl ?_))))
  change OL _ _ _ [_] _ _ _;refine OL.l rfl (by rw[<- ptr_eq hr1];exact link_fc hm1 hX.cons.cons (way_ok hp _ (List.getElem_mem _)) (way_ok hp _ (List.getElem_mem _)) t (by omega)) ?_
  rintro _ _ ⟨rfl,m2,rfl,hm2,hg2,hr2,hl2,hj2⟩;refine OL.nil (hK6 _ _ (PW.k4 0 2 6 8 rfl (PW.ops (OL.dp rfl (OL.x (Yields.ao rfl rfl (by omega) (by omega)) (OL.n1 rfl ?_))))))
  refine af.mk (T'':=[(0,_),(2,_),(6,_),(8,_)]) (wi rfl) ?_;refine⟨(way p.pl).length-(i+2),by omega,i+1,m2,⟨by omega,by omega,hm2,?_,hr2.trans hr1,by omega,fun x hx=>hj2 x (hj1 x hx)⟩,rfl,rfl⟩
  rw[hg2,hg1,edgeL_take hlt,linksG_snoc]
 try simp only[aD] at c37
 refine PW.exit ?_;change(Exit.normal=Exit.normal∨Exit.normal=Exit.ret)/\∃v,resV _ _=some v/\_;have he:dB p.pl=dx (way p.pl):=by unfold dB;rw[if_neg (by omega)]
 have hie:i+1=(way p.pl).length:=by omega
 refine⟨.inl rfl,_,rfl,_,Sub.ec [0,1,2,3] 6 (by decide) _,rfl,m1,rfl,hm1,?_,hr1,by omega,hj1⟩
 rw[hg1,he,List.take_of_length_le (by rw[edgeL_len];omega)]
theorem names_ok {p:aN}(hp:PartR p):∀v∈names p.pl,er v:=by
 intro v hv;unfold names at hv;rcases List.mem_cons.1 hv with rfl|hv
 ·exact hp.up
 rcases List.mem_cons.1 hv with rfl|hv
 ·exact hp.down
 exact hp.gone v hv
theorem foldl_snoc {α β:Type}(f:β->α->β) (b:β) {l:List α}{k:Nat}(hk:k<l.length):(l.take (k+1)).foldl f b=f ((l.take k).foldl f b) l[k]:=by
 rw[List.take_add_one,List.getElem?_eq_getElem hk,List.foldl_append];rfl
def okD (d:Int):Prop:=d=1∨d=-1
theorem count_fc {w0:World}{S X:SS}{m:dV}(hm:GOk w0 X m) (hX:Over X S) {p:aN}(hp:PartR p) (hgo:Rd w0 S p.GA (aI p.gone)∨Rd w0 (m.aH::X) p.GA (aI p.gone)) {d:Int}(hd:okD d) (hlim:m.lim+(p.gone.length+2)+p.gone.length<=1000000000000) :
  FC prog w0 57 [m.ptr,fz p,.int .i64 d] (GS m++S) (fun v S'=>v=.tuple #[]/\∃m',S'=GS m'++S/\GOk w0 X m'/\m'.gr={ m.gr with nodes:=countG d m.gr.nodes p.pl }/\m'.r=m.r/\m'.lim<=m.lim+(p.gone.length+2)+p.gone.length/\∀x∈m.aH,x∈m'.aH):=by
 have hgl:=hp.gones
 have hnl:(names p.pl).length=p.gone.length+2:=names_len p.pl
 obtain⟨z,hz1,hz2⟩:=zero100;have hdr:-1<=d/\d<=1:=by rcases hd with rfl|rfl<;>decide
 have hgo2:∀m1:dV,m1.aH=m.aH->∀Y,Rd w0 (GS m1++(Y++S)) p.GA (aI p.gone):=fun m1 hj Y=>by
  rcases hgo with h|h
  ·exact(h.appR (A:=Y)).appR
  exact(hj▸h).aH (Over.both (Over.appR hX))
 refine FC.ofD known57 (by simp) ?_
 unfold pc57;simp only[bo];refine PW.ae (OL.c (OW.bx rfl) ?_);rintro _ _ ⟨r4,rfl,rfl⟩;rw[fj,bm];refine OL.nil (PW.k3 0 2 4 rfl (PW.seq fun K1 hK1=>PW.ae (OL.dp rfl (OL.x (Yields.aT rfl (aa _) (part_up (p:=p) (E:=59) (tot:=102) bF)) (OL.dp rfl (OL.x (Yields.aT rfl (aa _) (dF (p:=p) (E:=59) (tot:=102) bF)) (OL.c (OW.fl (fill_two (v:=p.up) (u:=p.down) rfl rfl rfl)) ?_)))))))
 rintro _ _ ⟨r17,rfl,rfl⟩;rw[bT];have hs17:aV 27 33 (.slice (some ⟨r17,0,none⟩) 2 2) 2 (aI [p.up,p.down]) [(r17,.cells (aI [p.up,p.down]) 27 66)]:=aV.mk' (by rw[bT];rfl) (Nat.le_refl _) (by decide)
 refine OL.dp rfl (OL.x (Yields.ld rfl (dh (p:=p) (E:=59) (tot:=102) dm)) ?_);refine OL.c (OW.appL (k:=0) (m:=2) (xs:=aI [p.up,p.down]) (news:=aI p.gone) rfl rfl hs17 rfl (bT _) (hgo2 m rfl []).cons.cons (by decide) hp.gnil (vtxs_one _) (by omega) (by unfold maxLen;omega)) ?_
 rintro v20 _ ⟨seg20,rfl,hs20⟩;change OL _ _ _ _ _ (seg20::eB r4 p::(GS m++S)) _;rw[<- dc] at hs20;change aV 27 33 v20 (2+p.gone.length) (aI (names p.pl)) seg20 at hs20;rw[show 2+p.gone.length=(names p.pl).length by rw[hnl];omega] at hs20
 obtain⟨Aw,cw,rfl,-,-,hrdw⟩:=aF (w0:=w0) hs20;obtain⟨aw,rfl⟩:=bE (hrdw []) (by omega)
 refine OL.bZ (S':=GS m++(seg20::eB r4 p::S)) (Sub.ec [2,3,4,5,0,1] 6 (by decide) (seg20::eB r4 p::(GS m++S))) (OL.n2 rfl rfl (PW.k6 0 2 4 20 21 22 rfl (PW.block (PW.k6 0 2 4 20 21 22 rfl ?_))))
 refine PW.aR (I:=fun mm T S'=>∃(k:Nat) (m1:dV),(k<=(names p.pl).length/\mm=(names p.pl).length-k/\GOk w0 X m1/\m1.parts=m.parts/\m1.first=m.first/\plN m1.nodes=((names p.pl).take k).foldl (name1 d) m.gr.nodes/\m1.r=m.r/\m1.lim<=m.lim+k/\m1.aH=m.aH)/\T=([(0,m.ptr),(2,.int .i64 d),(4,.pointer (some ⟨r4,0,none⟩)),(20,.slice (some aw) (names p.pl).length cw),(21,.int .i64 ((names p.pl).length:Int)),(22,.int .i64 k)]:TT)/\S'=GS m1++(seg20::eB r4 p::S)) (m:=(names p.pl).length) ⟨0,m,⟨by omega,by omega,hm,rfl,rfl,rfl,rfl,Nat.le_refl _,rfl⟩,rfl,rfl⟩ ?_
 rintro mm _ _ ⟨k,m1,⟨hk,hmm,hm1,hp1,hf1,hg1,hr1,hl1,hj1⟩,rfl,rfl⟩;refine PW.s1 rfl (PW.k7 0 2 4 20 21 22 23 rfl (PW.seq fun K2 hK2=>?_))
 refine PW.cond rfl (fun c23=>?_) (fun c23=>?_)
 ·try simp only[aD] at c23
  have hkl:k<(names p.pl).length:=by omega
  refine PW.skip (hK2 _ _ (PW.k6 0 2 4 20 21 22 rfl (PW.seq fun K3 hK3=>PW.block (PW.ae (OL.x (Yields.bO rfl rfl rfl (by omega)) (OL.x (Yields.aT rfl (aa _) (bS (Rd.appR (hrdw _)) hkl)) (OL.c OW.al ?_)))))))
  rintro _ _ ⟨r7,rfl,rfl⟩;refine OL.c (vtx_st rfl rfl rfl) ?_;rintro _ _ rfl;obtain⟨v,hv⟩:∃z,z=(names p.pl)[k]:=⟨_,rfl⟩;rw[<- hv];have hov:er v:=by rw[hv];exact names_ok hp _ (List.getElem_mem hkl)
  have hS1:Over (GS m1++X) (bs r7 v::(GS m1++(seg20::eB r4 p::S))):=(Over.both hX.cons.cons).cons
  refine OL.nil (PW.k7 0 2 4 7 20 21 22 rfl (PW.seq fun K4 hK4=>?_))
  refine PW.dy (Ss:=Over (bs r7 v::(GS m1++(seg20::eB r4 p::S)))) (fr:=false) [(0,0),(1,0),(2,0),(3,0),(4,0),(5,0),(6,0),(7,0),(8,0),(9,2),(10,2)] mixed (by decide +kernel) (Over.refl _) (fun h=>by cases h) ?_
  refine GL.dp rfl ?_;refine GL.ak trivial (fun Sx hSx=>Yields.cF rfl) ?_
  refine GL.dp rfl ?_;refine GL.ak trivial (fun Sx hSx=>Yields.ld rfl (by rw[<- hr1];exact dz (hS1.trans hSx))) ?_
  refine GL.ak trivial (fun Sx hSx=>Yields.aT rfl (aa _) (av (c:=au v) (E:=27) (tot:=33) (hSx _ bF))) ?_
  refine GL.ak trivial (fun Sx hSx=>Yields.lookG (okc:=true) (a:=v) Tryz.underlying109 hz1 hz2 dj hm1.nk hov rfl rfl (fw (hS1.trans hSx)).2.2.1) ?_
  refine GL.dp rfl ?_;refine GL.dp rfl ?_;refine GL.dp rfl ?_;refine GL.lo trivial (OW.mono (OW.al) ?_);rintro _ _ ⟨r8,rfl,rfl⟩;refine⟨(Over.refl _).cons,?_⟩;refine GL.lo trivial (OW.mono (node_st rfl rfl _ _ _ _) ?_);rintro _ _ rfl;refine⟨(Over.refl _).cons,?_⟩;obtain⟨n0,hn0⟩:∃z,z=(fo m1.nodes v).getD zM:=⟨_,rfl⟩;rw[<- hn0];have hok0:=getD_ok hm1 v
  rw[<- hn0] at hok0;change OL _ _ _ [_] _ _ _;refine OL.n1 rfl (hK4 _ _ (PW.k9 0 2 4 7 8 9 20 21 22 rfl (PW.s1 rfl (PW.k9 0 2 4 7 8 20 21 22 35 rfl ?_))));refine PW.cond rfl (fun c35=>?_) (fun c35=>?_)
  ·skip;have hsm:fo m1.nodes v=some n0:=by
    cases h:fo m1.nodes v with
    |none=>rw[h] at c35;cases c35
    |some n=>rw[h] at hn0;rw[hn0];rfl
   refine PW.ae (OL.dp rfl (OL.x (Yields.ld rfl (az (j:=2) (c:=cB n0) (E:=121) (tot:=4) bF rfl)) (OL.dp rfl ?_)));refine OL.x (Yields.ao rfl rfl (by have:=hok0.named;omega) (by have:=hok0.named;omega)) ?_
   refine OL.dp rfl (OL.c (OW.st (k:=0) (c:=cB n0) (u:=.int .i64 (n0.named+d)) rfl rfl rfl rfl (Nat.le_succ 3) rfl) ?_);rintro _ _ rfl;obtain⟨n2,hn2⟩:∃z:ck,z={ n0 with named:=n0.named+d }:=⟨_,rfl⟩;change OL _ _ _ _ _ ([(r8,.cells (cB { n0 with named:=n0.named+d }) 121 4)]::bs r7 v::GS m1++(seg20::eB r4 p::S)) _;rw[<- hn2];refine OL.nil (PW.k8 0 2 4 7 8 20 21 22 rfl (PW.aQ mixed (QK.dp rfl (QK.x (Yields.cF rfl) (QK.dp rfl ?_)))));refine QK.x (Yields.ld rfl (by rw[<- hr1];exact dz hS1.cons)) ?_
   refine QK.x (Yields.aT rfl (aa _) (av (c:=au v) (E:=27) (tot:=33) dm)) (QK.x (Yields.aT rfl (cs:=cB n2) rfl (av (c:=cB n2) (E:=121) (tot:=4) bF)) (QK.nil ?_));change OL _ _ _ [_] _ _ _;refine OL.c (OW.updG (j:=4) (v:=n2) Tryz.underlying109 dj hm1.nk hov rfl rfl rfl rfl) ?_;rintro _ _ rfl;refine OL.nil (hK3 _ _ (PW.k6 0 2 4 20 21 22 rfl (PW.ops (OL.x (Yields.ao rfl rfl (by omega) (by omega)) (OL.n1 rfl ?_)))))
   refine af.dE (Sub.drop (Sub.drop (Sub.refl _))) (T'':=[(0,_),(2,_),(4,_),(20,_),(21,_),(22,_)]) (wi rfl) ?_;refine⟨(names p.pl).length-(k+1),by omega,k+1,{ m1 with nodes:=dM m1.nodes v n2,lim:=m1.lim+1 },⟨by omega,rfl,hm1.node0 hov ?_ (by omega),hp1,hf1,?_,hr1,(by show m1.lim+1<=_;omega),hj1⟩,rfl,rfl⟩
   ·rw[hn2];exact⟨hok0.rd,hok0.ok,Nat.le_trans hok0.len (Nat.le_add_right _ _),(hok0.grow (b:=[]) (Nat.le_add_right _ 1)).gone,(by have:=hok0.named;show -((m1.lim+1:Nat):Int)<=n0.named+d/\n0.named+d<=((m1.lim+1:Nat):Int);omega)⟩
   show plN (dM m1.nodes v n2)=_
   rw[mpt_plN,foldl_snoc _ _ hkl,<- hg1,<- hv];unfold name1;rw[mgt_plN,hsm,hn2];rfl
  skip;have hsm:fo m1.nodes v=none:=by
   cases h:fo m1.nodes v with
   |none=>rfl
   |some n=>rw[h] at c35;cases c35
  refine PW.skip (hK3 _ _ (PW.k6 0 2 4 20 21 22 rfl (PW.ops (OL.x (Yields.ao rfl rfl (by omega) (by omega)) (OL.n1 rfl ?_)))))
  refine af.dE (Sub.drop (Sub.drop (Sub.refl _))) (T'':=[(0,_),(2,_),(4,_),(20,_),(21,_),(22,_)]) (wi rfl) ?_;refine⟨(names p.pl).length-(k+1),by omega,k+1,m1,⟨by omega,rfl,hm1,hp1,hf1,?_,hr1,by omega,hj1⟩,rfl,rfl⟩
  rw[foldl_snoc _ _ hkl,<- hg1,<- hv];unfold name1;rw[mgt_plN,hsm];rfl
 try simp only[aD] at c23
 refine PW.exit (hK1 _ _ (PW.k3 0 2 4 rfl (PW.ae ?_)));have hg1e:plN m1.nodes=(names p.pl).foldl (name1 d) m.gr.nodes:=by rw[hg1,List.take_of_length_le (by omega)]
 refine OL.dp rfl (OL.x (Yields.ld rfl (dh (p:=p) (E:=59) (tot:=102) (by simp))) (OL.n2 rfl rfl (PW.k5 0 2 49 50 51 rfl (PW.block (PW.k5 0 2 49 50 51 rfl ?_)))))
 refine PW.aR (I:=fun mm T S'=>∃(k:Nat) (m1:dV),(k<=p.gone.length/\mm=p.gone.length-k/\GOk w0 X m1/\m1.parts=m.parts/\m1.first=m.first/\plN m1.nodes=(p.gone.take k).foldl (gone1 d) ((names p.pl).foldl (name1 d) m.gr.nodes)/\m1.r=m.r/\m1.lim<=m.lim+(p.gone.length+2)+k/\m1.aH=m.aH)/\T=([(0,m.ptr),(2,.int .i64 d),(49,.slice p.GA p.gone.length p.gc),(50,.int .i64 (p.gone.length:Int)),(51,.int .i64 k)]:TT)/\S'=GS m1++(seg20::eB r4 p::S)) (m:=p.gone.length) ⟨0,m1,⟨by omega,by omega,hm1,hp1,hf1,hg1e,hr1,by omega,hj1⟩,rfl,rfl⟩ ?_
 rintro mm _ _ ⟨k,m1,⟨hk,hmm,hm1,hp1,hf1,hg1,hr1,hl1,hj1⟩,rfl,rfl⟩;refine PW.s1 rfl (PW.k6 0 2 49 50 51 52 rfl (PW.seq fun K5 hK5=>?_))
 refine PW.cond rfl (fun c52=>?_) (fun c52=>?_)
 ·try simp only[aD] at c52
  have hkl:k<p.gone.length:=by omega
  have hrg0:=hgo2 m1 hj1 [seg20,eB r4 p]
  obtain⟨ag,hag⟩:=bE hrg0 (by omega)
  have hrg:Rd w0 (GS m1++(seg20::eB r4 p::S)) (some ag) (aI p.gone):=by rw[<- hag];exact hrg0
  refine PW.skip (hK5 _ _ (PW.k5 0 2 49 50 51 rfl (PW.seq fun K6 hK6=>PW.block (PW.ae ?_))))
  rw[hag];refine OL.x (Yields.bO rfl rfl rfl (by omega)) (OL.x (Yields.aT rfl (aa _) (bS hrg hkl)) (OL.c OW.al ?_))
  rintro _ _ ⟨r11,rfl,rfl⟩;refine OL.c (vtx_st rfl rfl rfl) ?_;rintro _ _ rfl;obtain⟨v,hv⟩:∃z,z=p.gone[k]:=⟨_,rfl⟩;rw[<- hv];have hov:er v:=by rw[hv];exact hp.gone _ (List.getElem_mem hkl)
  have hS1:Over (GS m1++X) (bs r11 v::(GS m1++(seg20::eB r4 p::S))):=(Over.both hX.cons.cons).cons
  refine OL.nil (PW.k6 0 2 11 49 50 51 rfl (PW.seq fun K7 hK7=>?_))
  refine PW.dy (Ss:=Over _) (fr:=true) [(0,0),(1,0),(2,0),(3,0),(4,0),(5,0),(6,3)] mixed (by decide +kernel) (Over.refl _) (fun _ _ _ h=>h.cons) ?_
  refine GL.dp rfl ?_;refine GL.ak trivial (fun Sx hSx=>Yields.cF rfl) ?_
  refine GL.dp rfl ?_;refine GL.ak trivial (fun Sx hSx=>Yields.ld rfl (by rw[<- hr1];exact dz (hS1.trans hSx))) ?_
  refine GL.ak trivial (fun Sx hSx=>Yields.aT rfl (aa _) (av (c:=au v) (E:=27) (tot:=33) (hSx _ bF))) ?_
  refine GL.ak trivial (fun Sx hSx=>Yields.lookG (okc:=false) (a:=v) Tryz.underlying109 hz1 hz2 dj hm1.nk hov rfl rfl (fw (hS1.trans hSx)).2.2.1) ?_
  refine GL.fresh trivial fun r12=>?_
  change OL _ _ _ _ _ ([(r12,.cells [.string ⟨#[]⟩,.int .i64 0,.int .i64 0,.slice none 0 0] 121 4)]::bs r11 v::(GS m1++(seg20::eB r4 p::S))) _;change OL _ _ _ [_] _ _ _;refine OL.c (node_st rfl rfl _ _ _ _) ?_;rintro _ _ rfl;obtain⟨n0,hn0⟩:∃z,z=(fo m1.nodes v).getD zM:=⟨_,rfl⟩;rw[<- hn0];have hok0:=getD_ok hm1 v
  rw[<- hn0] at hok0;refine OL.nil (hK7 _ _ (PW.k7 0 2 11 12 49 50 51 rfl (PW.ae (OL.dp rfl (OL.x (Yields.ld rfl (az (j:=1) (c:=cB n0) (E:=121) (tot:=4) bF rfl)) (OL.dp rfl ?_))))));refine OL.x (Yields.ao rfl rfl (by have:=hok0.gone;omega) (by have:=hok0.gone;omega)) ?_
  refine OL.dp rfl (OL.c (OW.st (k:=0) (c:=cB n0) (u:=.int .i64 (n0.gone+d)) rfl rfl rfl rfl (Nat.le_add_right 2 2) rfl) ?_);rintro _ _ rfl;obtain⟨n2,hn2⟩:∃z:ck,z={ n0 with gone:=n0.gone+d }:=⟨_,rfl⟩;change OL _ _ _ _ _ ([(r12,.cells (cB { n0 with gone:=n0.gone+d }) 121 4)]::bs r11 v::GS m1++(seg20::eB r4 p::S)) _;rw[<- hn2];refine OL.nil (PW.k7 0 2 11 12 49 50 51 rfl (PW.aQ mixed (QK.dp rfl (QK.x (Yields.cF rfl) (QK.dp rfl ?_)))));refine QK.x (Yields.ld rfl (by rw[<- hr1];exact dz hS1.cons)) ?_
  refine QK.x (Yields.aT rfl (aa _) (av (c:=au v) (E:=27) (tot:=33) dm)) (QK.x (Yields.aT rfl (cs:=cB n2) rfl (av (c:=cB n2) (E:=121) (tot:=4) bF)) (QK.nil ?_));change OL _ _ _ [_] _ _ _;refine OL.c (OW.updG (j:=4) (v:=n2) Tryz.underlying109 dj hm1.nk hov rfl rfl rfl rfl) ?_;rintro _ _ rfl;refine OL.nil (hK6 _ _ (PW.k5 0 2 49 50 51 rfl (PW.ops (OL.x (Yields.ao rfl rfl (by omega) (by omega)) (OL.n1 rfl ?_)))))
  refine af.dE (Sub.drop (Sub.drop (Sub.refl _))) (T'':=[(0,_),(2,_),(49,_),(50,_),(51,_)]) (wi rfl) ?_;rw[hag];refine⟨p.gone.length-(k+1),by omega,k+1,{ m1 with nodes:=dM m1.nodes v n2,lim:=m1.lim+1 },⟨by omega,rfl,hm1.node0 hov ?_ (by omega),hp1,hf1,?_,hr1,(by show m1.lim+1<=_;omega),hj1⟩,rfl,rfl⟩
  ·rw[hn2];exact⟨hok0.rd,hok0.ok,Nat.le_trans hok0.len (Nat.le_add_right _ _),(by have:=hok0.gone;show -((m1.lim+1:Nat):Int)<=n0.gone+d/\n0.gone+d<=((m1.lim+1:Nat):Int);omega),(hok0.grow (b:=[]) (Nat.le_add_right _ 1)).named⟩
  show plN (dM m1.nodes v n2)=_
  rw[mpt_plN,foldl_snoc _ _ hkl,<- hg1,<- hv];unfold gone1;rw[nd_plN,<- hn0,hn2];rfl
 try simp only[aD] at c52
 refine PW.exit ?_;change(Exit.normal=Exit.normal∨Exit.normal=Exit.ret)/\∃v,resV _ _=some v/\_;have hke:k=p.gone.length:=by omega
 refine⟨.inl rfl,_,rfl,_,Sub.ec [0,1,2,3] 6 (by decide) _,rfl,m1,rfl,hm1,?_,hr1,by omega,fun x hx=>hj1▸hx⟩
 rw[hke,List.take_length] at hg1;unfold dV.gr;rw[hp1,hf1,hg1];rfl
end Go.Proofs.Gr

namespace Go.GP
open Go.SL
theorem mem_EG {N:List (ay×bK)}(hn:(bu N).Nodup) {v w:ay}:(v,w)∈EG N↔w∈(nd N v).next:=by
 unfold EG;simp only[List.mem_flatMap,List.mem_map,Prod.mk.injEq];constructor
 ·rintro⟨p,hp,x,hx,rfl,rfl⟩;have:fo N p.1=some p.2:=(mgt_mem hn).2 hp
  unfold nd;rw[this];exact hx
 intro h;unfold nd at h;cases e:fo N v with
 |none=>rw[e] at h;simp[zN] at h
 |some n=>rw[e] at h;exact⟨(v,n),dZ e,w,h,rfl,rfl⟩
def unS (T s:List ay):Nat:=(T.filter fun x=>!decide (x∈s)).length
theorem unS_le (T s:List ay):unS T s<=T.length:=List.length_filter_le _ _
theorem unS_lt {T s s':List ay}{w:ay}(hw:w∈T) (hs:w∉s) (h1:w∈s') (h2:∀x∈s,x∈s'):unS T s'+1<=unS T s:=by
 unfold unS
 induction T with
 |nil=>simp at hw
 |cons x T ih=>
  have mono:(T.filter fun x=>!decide (x∈s')).length<=(T.filter fun x=>!decide (x∈s)).length:=by
   clear ih hw
   induction T with
   |nil=>simp
   |cons y T ih2=>
    simp only[List.filter_cons];by_cases hy:y∈s
    ·simp[hy,h2 y hy,ih2]
    by_cases hy2:y∈s'
    ·simp only[hy,hy2,decide_true,Bool.not_true,decide_false,Bool.not_false,if_true,Bool.false_eq_true,if_false,List.length_cons];omega
    simp only[hy,hy2,decide_false,Bool.not_false,if_true,List.length_cons];omega
  simp only[List.filter_cons];by_cases hx:x=w
  ·subst hx;simp only[hs,h1,decide_true,Bool.not_true,decide_false,Bool.not_false,if_true,Bool.false_eq_true,if_false,List.length_cons];omega
  have hw2:w∈T:=by
   rcases List.mem_cons.1 hw with h|h
   ·exact absurd h.symm hx
   exact h
  have:=ih hw2
  by_cases hy:x∈s
  ·simp only[hy,h2 x hy,decide_true,Bool.not_true,Bool.false_eq_true,if_false];omega
  by_cases hy2:x∈s'
  ·simp only[hy,hy2,decide_true,Bool.not_true,decide_false,Bool.not_false,if_true,Bool.false_eq_true,if_false,List.length_cons];omega
  simp only[hy,hy2,decide_false,Bool.not_false,if_true,List.length_cons];omega
structure Bfs (E:List (ay×ay)) (a b:ay) (seen opn:List ay) (part:ay->ay->Prop):Prop where
 ain:a∈seen
 rch:∀v∈seen,v=a∨Rch E a v
 sub:∀v∈opn,v∈seen
 nob:b∉seen
 done:∀v∈seen,v∉opn->∀w,(v,w)∈E->w∈seen∨part v w
variable {E:List (ay×ay)}{a b:ay}{seen opn:List ay}
theorem Bfs.start (hab:a≠b):Bfs E a b [a] [a] fun _ _=>False:=
 ⟨by simp,fun v hv=>.inl (List.mem_singleton.1 hv),fun v hv=>hv,fun h=>hab (List.mem_singleton.1 h).symm,fun v hv hn=>absurd hv hn⟩
theorem Bfs.fin (h:Bfs E a b seen [] fun _ _=>False):¬Rch E a b:=by
 intro hr;have key:∀{x y},Rch E x y->x∈seen->y∈seen:=by
  intro x y hxy
  induction hxy with
  |one h1=>exact fun hx=>((h.done _ hx (by simp) _ h1).resolve_right id)
  |cons h1 _ ih=>exact fun hx=>ih ((h.done _ hx (by simp) _ h1).resolve_right id)
 exact h.nob (key hr h.ain)
theorem Bfs.pop {v:ay}{nx:List ay}(h:Bfs E a b seen (opn++[v]) fun _ _=>False) (hnx:∀w,(v,w)∈E->w∈nx):Bfs E a b seen opn fun u w=>u=v/\w∈nx.drop 0:=
 ⟨h.ain,h.rch,fun u hu=>h.sub u (List.mem_append_left _ hu),h.nob,fun u hu hn w hw=>by
  by_cases e:u=v
  ·subst e;exact .inr ⟨rfl,by simpa using hnx w hw⟩
  exact .inl ((h.done u hu (fun hm=>by
   rcases List.mem_append.1 hm with h1|h1
   ·exact hn h1
   exact e (List.mem_singleton.1 h1)) w hw).resolve_right id)⟩
theorem Bfs.pass {v:ay}{nx:List ay}{k:Nat}(hk:k<nx.length) (h:Bfs E a b seen opn fun u w=>u=v/\w∈nx.drop k) (hs:nx[k]∈seen):Bfs E a b seen opn fun u w=>u=v/\w∈nx.drop (k+1):=
 ⟨h.ain,h.rch,h.sub,h.nob,fun u hu hn w hw=>by
  rcases h.done u hu hn w hw with h1|⟨h1,h2⟩
  ·exact .inl h1
  rw[List.drop_eq_getElem_cons hk] at h2;rcases List.mem_cons.1 h2 with rfl|h2
  ·exact .inl hs
  exact .inr ⟨h1,h2⟩⟩
theorem Bfs.push {v:ay}{nx:List ay}{k:Nat}(hk:k<nx.length) (h:Bfs E a b seen opn fun u w=>u=v/\w∈nx.drop k) (hv:v∈seen) (he:(v,nx[k])∈E) (hb:nx[k]≠b):Bfs E a b (seen++[nx[k]]) (opn++[nx[k]]) fun u w=>u=v/\w∈nx.drop (k+1) where
 ain:=List.mem_append_left _ h.ain
 rch:=fun u hu=>by
  rcases List.mem_append.1 hu with h1|h1
  ·exact h.rch u h1
  rw[List.mem_singleton.1 h1];rcases h.rch v hv with rfl|h2
  ·exact .inr (.one he)
  exact .inr (h2.trans (.one he))
 sub:=fun u hu=>by
  rcases List.mem_append.1 hu with h1|h1
  ·exact List.mem_append_left _ (h.sub u h1)
  exact List.mem_append_right _ h1
 nob:=fun hm=>by
  rcases List.mem_append.1 hm with h1|h1
  ·exact h.nob h1
  exact hb (List.mem_singleton.1 h1).symm
 done:=fun u hu hn w hw=>by
  rcases List.mem_append.1 hu with h1|h1
  ·rcases h.done u h1 (fun h2=>hn (List.mem_append_left _ h2)) w hw with h3|⟨h3,h4⟩
   ·exact .inl (List.mem_append_left _ h3)
   rw[List.drop_eq_getElem_cons hk] at h4;rcases List.mem_cons.1 h4 with rfl|h4
   ·exact .inl (List.mem_append_right _ (by simp))
   exact .inr ⟨h3,h4⟩
  exact absurd (List.mem_append_right _ h1) hn
theorem Bfs.over {v:ay}{nx:List ay}{k:Nat}(hk:nx.length<=k) (h:Bfs E a b seen opn fun u w=>u=v/\w∈nx.drop k):Bfs E a b seen opn fun _ _=>False:=
 ⟨h.ain,h.rch,h.sub,h.nob,fun u hu hn w hw=>(h.done u hu hn w hw).imp_right fun⟨_,h2⟩=>by rw[List.drop_eq_nil_of_le hk] at h2;exact absurd h2 (by simp)⟩
end Go.GP

namespace Go.Proofs.Gr
open Go.SL Go.RowKit Go.Proofs Go.GP Go.Proofs.Tryz
set_option maxHeartbeats 1000000
open Classical in
noncomputable def befB (G:Gr) (a b:ay):Bool:=decide (BefG G a b)
open Classical in
theorem befB_true {G:Gr}{a b:ay}(h:BefG G a b):befB G a b=true:=by unfold befB;exact decide_eq_true h
open Classical in
theorem fx {G:Gr}{a b:ay}(h:¬BefG G a b):befB G a b=false:=by unfold befB;exact decide_eq_false h
def metV:Unit->Value:=fun _=>.agg #[]
theorem zero116:∃i,prog.info? 166=some i/\i.zero=some (metV ()):=Option.bind_eq_some_iff.1 (show(prog.info? 166).bind (·.zero)=some (metV ()) by kernel_rfl)
theorem before_fc {w0:World}{S X:SS}{m:dV}(hm:GOk w0 X m) (hS:Over (GS m++X) S) {a b:ay}(ha:er a) (hb:er b) (hroot:∀e∈EG m.gr.nodes,e.2≠aU) (hE:(EG m.gr.nodes).length<=1000000000) :
  FC prog w0 52 [m.ptr,aP a,aP b] S (fun u S'=>u=.bool (befB m.gr a b)/\S'=S):=by
 have hml:=hm.lim
 obtain⟨zi,hz1,hz2⟩:=zero116;have hnk:(bu m.gr.nodes).Nodup:=by show(bu (plN m.nodes)).Nodup;rw[eV];exact hm.nkd
 have hS2:∀x y,Over (GS m++X) (bs x b::bs y a::S):=fun x y=>hS.cons.cons
 refine FC.ofD known52 (by simp) ?_
 unfold pc52;simp only[bo];refine PW.ae (OL.c (OW.bx rfl) ?_);rintro _ _ ⟨r4,rfl,rfl⟩;rw[bB,aa];refine OL.c (OW.bx rfl) ?_;rintro _ _ ⟨r5,rfl,rfl⟩;rw[bB,aa];refine OL.n1 rfl (PW.k3 0 4 5 rfl (PW.seq fun K1 hK1=>PW.block (PW.seq fun K2 hK2=>PW.aQ mixed (QK.dp rfl (QK.x (Yields.aT rfl (aa _) (av dm)) (QK.l rfl (has_fc hm (hS2 _ _) ha) (QK.dp rfl ?_)))))))
 refine QK.bool trivial (Yields.pure rfl) (fun g19=>?_) (fun g19=>?_)
 ·try simp only[aD] at g19
  refine QK.off rfl rfl (QK.off rfl rfl (QK.off rfl rfl (QK.off rfl rfl (QK.p2 rfl rfl (QK.off rfl rfl (QK.off rfl rfl (QK.off rfl rfl (QK.p2 rfl rfl (QK.off rfl rfl ?_)))))))));refine QK.off rfl rfl (QK.off rfl rfl (QK.p2 rfl rfl (QK.off rfl rfl (QK.off rfl rfl (QK.nil ?_)))));change OL _ _ _ [_,_,_] _ _ _;refine OL.off rfl rfl (OL.n2 rfl rfl (hK2 _ _ (PW.k4 0 4 5 14 rfl (PW.ite (b:=true) rfl ?_))));rw[if_pos rfl];exact PW.s1 rfl (PW.k1 6 rfl (PW.ret (zR rfl ⟨_,Sub.drop (Sub.drop (Sub.refl _)),congrArg Value.bool (fx fun h=>by first|exact g19 h.1|exact g25 h.2.1|exact h.2.2.1 g30|exact h.2.2.2.1 g35|exact h.2.2.2.2.1 c14).symm,rfl⟩)))
 try simp only[aD] at g19
 refine QK.ak rfl (.pure rfl) (QK.ak rfl (.aT rfl (aa _) (av bF)) (QK.call rfl rfl (has_fc hm (hS2 _ _) hb) (QK.ak rfl (.pure rfl) (QK.dp rfl ?_))));refine QK.bool trivial (Yields.pure rfl) (fun g25=>?_) (fun g25=>?_)
 ·try simp only[aD] at g25
  refine QK.off rfl rfl (QK.off rfl rfl (QK.off rfl rfl (QK.p2 rfl rfl (QK.off rfl rfl (QK.off rfl rfl (QK.off rfl rfl (QK.p2 rfl rfl (QK.off rfl rfl (QK.off rfl rfl ?_)))))))));refine QK.nil ?_;change OL _ _ _ [_,_,_] _ _ _;refine OL.off rfl rfl (OL.n2 rfl rfl (hK2 _ _ (PW.k4 0 4 5 14 rfl (PW.ite (b:=true) rfl ?_))));rw[if_pos rfl];exact PW.s1 rfl (PW.k1 6 rfl (PW.ret (zR rfl ⟨_,Sub.drop (Sub.drop (Sub.refl _)),congrArg Value.bool (fx fun h=>by first|exact g19 h.1|exact g25 h.2.1|exact h.2.2.1 g30|exact h.2.2.2.1 g35|exact h.2.2.2.2.1 c14).symm,rfl⟩)))
 try simp only[aD] at g25
 refine QK.ak rfl (.aT rfl (aa _) (av dm)) (QK.ak rfl (.aT rfl (aa _) (av bF)) (QK.ak rfl (.eb (neg:=false) rfl rfl (aO _ _)) (QK.dp rfl ?_)));refine QK.bool trivial (Yields.pure rfl) (fun g30=>?_) (fun g30=>?_)
 ·try simp only[aD] at g30
  refine QK.off rfl rfl (QK.off rfl rfl (QK.off rfl rfl (QK.p2 rfl rfl (QK.off rfl rfl (QK.off rfl rfl (QK.nil ?_))))));change OL _ _ _ [_,_,_] _ _ _;refine OL.off rfl rfl (OL.n2 rfl rfl (hK2 _ _ (PW.k4 0 4 5 14 rfl (PW.ite (b:=true) rfl ?_))));rw[if_pos rfl];exact PW.s1 rfl (PW.k1 6 rfl (PW.ret (zR rfl ⟨_,Sub.drop (Sub.drop (Sub.refl _)),congrArg Value.bool (fx fun h=>by first|exact g19 h.1|exact g25 h.2.1|exact h.2.2.1 g30|exact h.2.2.2.1 g35|exact h.2.2.2.2.1 c14).symm,rfl⟩)))
 try simp only[aD] at g30
 refine QK.ak rfl (.aT rfl (aa _) (av dm)) (QK.call rfl rfl (end_fc) (QK.ak rfl (.eb (neg:=false) rfl rfl (aO _ _)) (QK.dp rfl ?_)));refine QK.bool trivial (Yields.pure rfl) (fun g35=>?_) (fun g35=>?_)
 ·try simp only[aD] at g35
  refine QK.off rfl rfl (QK.off rfl rfl (QK.nil ?_));change OL _ _ _ [_,_,_] _ _ _;refine OL.off rfl rfl (OL.n2 rfl rfl (hK2 _ _ (PW.k4 0 4 5 14 rfl (PW.ite (b:=true) rfl ?_))));rw[if_pos rfl];exact PW.s1 rfl (PW.k1 6 rfl (PW.ret (zR rfl ⟨_,Sub.drop (Sub.drop (Sub.refl _)),congrArg Value.bool (fx fun h=>by first|exact g19 h.1|exact g25 h.2.1|exact h.2.2.1 g30|exact h.2.2.2.1 g35|exact h.2.2.2.2.1 c14).symm,rfl⟩)))
 try simp only[aD] at g35
 refine QK.ak rfl (.aT rfl (aa _) (av bF)) (QK.call rfl rfl (root_fc) (QK.nil ?_));change OL _ _ _ [_,_,_] _ _ _;refine OL.ak rfl (.eb (neg:=false) rfl rfl (aO _ _)) (OL.n2 rfl rfl (hK2 _ _ (PW.k4 0 4 5 14 rfl ?_)));refine PW.cond rfl (fun c14=>?_) (fun c14=>?_)
 ·try simp only[aD] at c14
  exact PW.s1 rfl (PW.k1 6 rfl (PW.ret (zR rfl ⟨_,Sub.drop (Sub.drop (Sub.refl _)),congrArg Value.bool (fx fun h=>by first|exact g19 h.1|exact g25 h.2.1|exact h.2.2.1 g30|exact h.2.2.2.1 g35|exact h.2.2.2.2.1 c14).symm,rfl⟩)))
 try simp only[aD] at c14
 refine PW.seq fun K3 hK3=>PW.aQ mixed (QK.x (Yields.aT rfl (aa _) (av dm)) (QK.l rfl (root_fc) (QK.x (Yields.eb (neg:=false) rfl rfl (aO _ _)) ?_)))
 refine QK.bool trivial (Yields.pure rfl) (fun g44=>?_) (fun g44=>?_)
 ·try simp only[aD] at g44
  refine QK.off rfl rfl (QK.off rfl rfl (QK.nil ?_));change OL _ _ _ [_,_,_] _ _ _;refine OL.off rfl rfl (OL.n2 rfl rfl (hK3 _ _ (PW.k4 0 4 5 40 rfl (PW.ite (b:=true) rfl ?_))));rw[if_pos rfl];exact PW.s1 rfl (PW.k1 6 rfl (PW.ret (zR rfl ⟨_,Sub.drop (Sub.drop (Sub.refl _)),congrArg Value.bool (befB_true ⟨g19,g25,g30,g35,c14,by first|exact .inl g44|exact .inr (.inl c40)⟩).symm,rfl⟩)))
 try simp only[aD] at g44
 refine QK.ak rfl (.aT rfl (aa _) (av bF)) (QK.call rfl rfl (end_fc) (QK.nil ?_));change OL _ _ _ [_,_,_] _ _ _;refine OL.ak rfl (.eb (neg:=false) rfl rfl (aO _ _)) (OL.n2 rfl rfl (hK3 _ _ (PW.k4 0 4 5 40 rfl ?_)));refine PW.cond rfl (fun c40=>?_) (fun c40=>?_)
 ·try simp only[aD] at c40
  exact PW.s1 rfl (PW.k1 6 rfl (PW.ret (zR rfl ⟨_,Sub.drop (Sub.drop (Sub.refl _)),congrArg Value.bool (befB_true ⟨g19,g25,g30,g35,c14,by first|exact .inl g44|exact .inr (.inl c40)⟩).symm,rfl⟩)))
 try simp only[aD] at c40
 refine PW.skip (hK1 _ _ (PW.k3 0 4 5 rfl (PW.ae (OL.c OW.mkG ?_))));rintro _ _ ⟨r49,rfl,rfl⟩;change OL _ _ _ _ _ ([(r49,.gm (dU aP metV []))]::bs r5 b::bs r4 a::S) _;refine OL.x (Yields.aT rfl (aa _) (av zM2)) (OL.x (Yields.build rfl) ?_);refine OL.c (OW.insG (j:=0) (l:=[]) (a:=a) (v:=()) Tryz.underlying167 dj (fun p hp=>by simp at hp) ha rfl rfl rfl rfl) ?_
 rintro _ _ rfl;change OL _ _ _ _ _ ([(r49,.gm (dU aP metV [(a,())]))]::bs r5 b::bs r4 a::S) _;refine OL.n2 rfl rfl (PW.k4 0 4 5 7 rfl (PW.ae (OL.x (Yields.aT rfl (aa _) (av zM2)) (OL.c (OW.fl (fill_one (v:=a) rfl rfl)) ?_))));rintro _ _ ⟨r54,rfl,rfl⟩;rw[aa];have hs54:aV 27 33 (.slice (some ⟨r54,0,none⟩) 1 1) [a].length (aI [a]) [(r54,.cells (au a) 27 33)]:=by
  have:=aV.mk' (E:=27) (sz:=33) (m:=1) (cap:=1) (r:=r54) (xs:=au a) (by rw[aa]) (Nat.le_refl _) (by decide)
  simpa[aI] using this
 obtain⟨T0,hT0⟩:∃T0,T0=(EG m.gr.nodes).map (·.2):=⟨_,rfl⟩;have hTl:T0.length<=1000000000:=by rw[hT0,List.length_map];exact hE
 have hul:=unS_le T0 [a]
 refine OL.n1 rfl (PW.k4 0 5 7 8 rfl (PW.seq fun K4 hK4=>PW.block (PW.k4 0 5 7 8 rfl ?_)))
 refine PW.aR (I:=fun mm T S'=>∃(opn:List ay) (seen:List (ay×Unit)) (vo:Value) (sgo:bD),(Bfs (EG m.gr.nodes) a b (bu seen) opn (fun _ _=>False)/\aV 27 33 vo opn.length (aI opn) sgo/\(∀v∈opn,er v)/\(∀p∈seen,er p.1)/\mm=unS T0 (bu seen)+opn.length/\mm<=1000000001)/\T=([(0,m.ptr),(5,.pointer (some ⟨r5,0,none⟩)),(7,.map (some r49)),(8,vo)]:TT)/\S'=sgo::[(r49,.gm (dU aP metV seen))]::bs r5 b::bs r4 a::S) (m:=unS T0 [a]+1) ⟨[a],[(a,())],_,_,⟨Bfs.start g30,hs54,by simpa using ha,by simpa using ha,rfl,by omega⟩,rfl,rfl⟩ ?_
 rintro mm _ _ ⟨opn,seen,vo,sgo,⟨hB,hso,hok,hks,hmm,hmb⟩,rfl,rfl⟩;obtain⟨Ao,co,rfl,-,-,hrdo⟩:=aF (w0:=w0) hso;refine PW.seq fun K5 hK5=>PW.s3 rfl rfl rfl (PW.k5 0 5 7 8 57 rfl ?_)
 refine PW.cond rfl (fun c57=>?_) (fun c57=>?_)
 ·try simp only[aD] at c57
  rcases List.eq_nil_or_concat opn with rfl|⟨op,v,e⟩
  ·exfalso;simp at c57
  rw[List.concat_eq_append] at e;subst e;obtain⟨ro,capo,eo,rfl,hc1,hc2⟩:=slv_own hso (by simp)
  simp only[Value.slice.injEq,true_and] at eo;obtain⟨rfl,rfl⟩:=eo;have hlen:(op++[v]).length=op.length+1:=by simp
  have hvat:∀(S':SS) (j:Nat) (u:Value),(au v)[j]? = some u->Cell w0 ([(ro,.cells (aI (op++[v])) 27 (co*33))]::S') (((⟨ro,0,none⟩:Addr).add (op.length*33)).add j) u:=fun S' j u hj=>bS (hrdo S') (k:=op.length) (by simp) j u (by simpa using hj)
  have htk:(aI (op++[v])).take (op.length*33)=aI op:=by rw[vtxs_take _ _ (by simp),List.take_left]
  have hov:er v:=hok v (by simp)
  have hvs:v∈bu seen:=hB.sub v (by simp)
  have hvr:v≠aU:=by
   rcases hB.rch v hvs with rfl|h
   ·exact g44
   obtain⟨c,hc⟩:=h.tgt;exact hroot _ hc
  have hso2:aV 27 33 (.slice (some ⟨ro,0,none⟩) op.length co) op.length (aI op) [(ro,.cells (aI op) 27 (co*33))]:=aV.mk' (bT _) (by omega) hc2
  refine PW.skip (hK5 _ _ (PW.k4 0 5 7 8 rfl (PW.block (PW.ae (OL.p3 rfl rfl rfl (OL.x (Yields.cH rfl rfl (by omega) (by omega)) ?_))))))
  refine OL.x (Yields.bO rfl rfl (show(((op++[v]).length:Nat):Int)-1=(op.length:Int) by omega) (by omega)) ?_
  refine OL.x (Yields.aT rfl (aa v) (hvat _)) (OL.c OW.al ?_);rintro _ _ ⟨r9,rfl,rfl⟩;refine OL.c (vtx_st rfl rfl rfl) ?_;rintro _ _ rfl;refine OL.nil (PW.k5 0 5 7 8 9 rfl (PW.ae (OL.p3 rfl rfl rfl (OL.x (Yields.cH rfl rfl (by omega) (by omega)) (OL.x (Yields.to (v':=.slice (some ⟨ro,0,none⟩) op.length co) (Yields.slS (A:=some ⟨ro,0,none⟩) (len:=(op++[v]).length) (cap:=co) (l:=0) (h:=op.length) rfl rfl rfl (.inr ⟨rfl,rfl⟩) (.inl (congrArg some (by omega))) (by omega) (by omega)) (cutV0 _ _ _ _)) ?_)))))
  refine OL.tell (k:=1) rfl (fun w h=>owns_take (op.length*33) h) ?_
  change OL _ _ _ _ _ (bs r9 v::[(ro,.cells ((aI (op++[v])).take (op.length*33)) 27 (co*33))]::[(r49,.gm (dU aP metV seen))]::bs r5 b::bs r4 a::S) _;rw[htk];refine OL.x (Yields.pure rfl) (OL.nil (PW.k5 0 5 7 8 9 rfl (PW.ae (OL.dp rfl (OL.x (Yields.aT rfl (aa _) (av bF)) (OL.q rfl (behind_fc hm hS.cons.cons.cons.cons.cons hov) ?_))))));obtain⟨An,cn,nx,hbv,hnx,hrn,hno,hnl⟩:∃An cn nx,behV m v=.slice An nx.length cn/\nx=(nd m.gr.nodes v).next/\Rd w0 (m.aH::X) An (aI nx)/\(∀w∈nx,er w)/\nx.length<=m.lim:=⟨_,_,_,rfl,by rw[behA_gr];exact if_neg hvr,behA_ok hm v⟩
  rw[hbv];have hnx2:∀w,(v,w)∈EG m.gr.nodes↔w∈nx:=fun w=>by rw[mem_EG hnk,hnx]
  refine OL.n2 rfl rfl (PW.k7 0 5 7 8 71 72 73 rfl (PW.block (PW.k7 0 5 7 8 71 72 73 rfl ?_)));refine PW.aR (I:=fun mi T S'=>∃(k:Nat) (op1:List ay) (seen1:List (ay×Unit)) (vo1:Value) (sgo1:bD),(k<=nx.length/\mi=nx.length-k/\Bfs (EG m.gr.nodes) a b (bu seen1) op1 (fun u w=>u=v/\w∈nx.drop k)/\aV 27 33 vo1 op1.length (aI op1) sgo1/\(∀v∈op1,er v)/\(∀p∈seen1,er p.1)/\unS T0 (bu seen1)+op1.length+1<=mm/\v∈bu seen1)/\T=([(0,m.ptr),(5,.pointer (some ⟨r5,0,none⟩)),(7,.map (some r49)),(8,vo1),(71,.slice An nx.length cn),(72,.int .i64 (nx.length:Int)),(73,.int .i64 k)]:TT)/\S'=bs r9 v::sgo1::[(r49,.gm (dU aP metV seen1))]::bs r5 b::bs r4 a::S) (m:=nx.length) ⟨0,op,seen,_,_,⟨by omega,by omega,hB.pop (fun w hw=>(hnx2 w).1 hw),hso2,fun x hx=>hok x (List.mem_append_left _ hx),hks,by omega,hvs⟩,rfl,rfl⟩ ?_
  rintro mi _ _ ⟨k,op1,seen1,vo1,sgo1,⟨hk,hmi,hB1,hso1,hok1,hks1,hm1,hvs1⟩,rfl,rfl⟩;refine PW.s1 rfl (PW.k8 0 5 7 8 71 72 73 74 rfl (PW.seq fun K6 hK6=>?_))
  refine PW.cond rfl (fun c74=>?_) (fun c74=>?_)
  ·try simp only[aD] at c74
   have hkl:k<nx.length:=by omega
   obtain⟨an,rfl⟩:=bE hrn (by omega)
   refine PW.skip (hK6 _ _ (PW.k7 0 5 7 8 71 72 73 rfl (PW.seq fun K7 hK7=>PW.block (PW.ae (OL.x (Yields.bO rfl rfl rfl (by omega)) (OL.x (Yields.aT rfl (aa _) (bS (hrn.aH hS.cons.cons.cons.cons.cons) hkl)) (OL.c OW.al ?_)))))))
   rintro _ _ ⟨r11,rfl,rfl⟩;refine OL.c (vtx_st rfl rfl rfl) ?_;rintro _ _ rfl;obtain⟨w,hw⟩:∃z,z=nx[k]:=⟨_,rfl⟩;rw[<- hw];have how:er w:=by rw[hw];exact hno _ (List.getElem_mem hkl)
   have hedge:(v,w)∈EG m.gr.nodes:=(hnx2 w).2 (by rw[hw];exact List.getElem_mem hkl)
   refine OL.nil (PW.k8 0 5 7 8 11 71 72 73 rfl (PW.seq fun K8 hK8=>PW.ae (OL.x (Yields.aT rfl (aa _) (av bF)) (OL.x (Yields.aT rfl (aa _) (av zM4)) (OL.x (Yields.eb (neg:=false) rfl rfl (aO _ _)) (OL.nil (PW.k9 0 5 7 8 11 71 72 73 79 rfl ?_)))))))
   refine PW.cond rfl (fun c79=>?_) (fun c79=>?_)
   ·try simp only[aD] at c79
    refine PW.s1 rfl (PW.k1 6 rfl ?_);refine PW.ret (zR rfl ?_);refine⟨_,Sub.drop (Sub.drop (Sub.drop (Sub.drop (Sub.drop (Sub.drop (Sub.refl _)))))),congrArg Value.bool (befB_true ⟨g19,g25,g30,g35,c14,.inr (.inr ?_)⟩).symm,rfl⟩;rw[<- c79];rcases hB1.rch v hvs1 with rfl|h
    ·exact .one hedge
    exact h.snoc hedge
   try simp only[aD] at c79
   refine PW.skip (hK8 _ _ (PW.k8 0 5 7 8 11 71 72 73 rfl (PW.ae (OL.dp rfl (OL.x (Yields.aT rfl (aa _) (av bF)) (OL.x (Yields.lookG (okc:=true) (a:=w) Tryz.underlying167 hz1 hz2 dj hks1 how rfl rfl zM3) (OL.p3 rfl rfl rfl (OL.c OW.al ?_))))))));rintro _ _ ⟨r12,rfl,rfl⟩;refine OL.c (OW.st (k:=0) (c:=[]) (u:=.agg #[]) rfl rfl rfl rfl (Nat.le_refl 0) rfl) ?_;rintro _ _ rfl;change OL _ _ _ _ _ ([(r12,.cells [] 166 0)]::bs r11 w::bs r9 v::sgo1::[(r49,.gm (dU aP metV seen1))]::bs r5 b::bs r4 a::S) _;refine OL.n1 rfl (PW.k9 0 5 7 8 11 13 71 72 73 rfl (PW.s2 rfl rfl (PW.k9 0 5 7 8 11 71 72 73 87 rfl ?_)));refine PW.cond rfl (fun c87=>?_) (fun c87=>?_)
   ·skip;have hns:w∉bu seen1:=by
     rw[isSome_mks] at c87;simpa using c87
    have hmk:bu (dM seen1 w ())=bu seen1++[w]:=by rw[mks_mpt,if_neg hns]
    have hlt:=unS_lt (T:=T0) (s:=bu seen1) (s':=bu seen1++[w]) (w:=w) (by rw[hT0];exact List.mem_map.2 ⟨_,hedge,rfl⟩) hns (by simp) (fun x hx=>List.mem_append_left _ hx)
    refine PW.ae (OL.dp rfl (OL.x (Yields.aT rfl (aa _) (av dm)) (OL.x (Yields.build rfl) (OL.c (OW.updG (j:=4) (v:=()) Tryz.underlying167 dj hks1 how rfl rfl rfl rfl) ?_))));rintro _ _ rfl;change OL _ _ _ _ _ ([(r12,.cells [] 166 0)]::bs r11 w::bs r9 v::sgo1::[(r49,.gm (dU aP metV (dM seen1 w ())))]::bs r5 b::bs r4 a::S) _;refine OL.nil (PW.k8 0 5 7 8 11 71 72 73 rfl (PW.ops (OL.dp rfl (OL.x (Yields.aT rfl (aa _) (av dm)) ?_))));apply OL.bV (k:=3)
    ·rfl
    ·rfl
    ·exact(List.size_toArray).trans (aa _)
    ·rfl
    ·rfl
    ·rfl
    ·exact hso1
    ·exact bL _
    ·omega
    ·unfold maxLen;omega
    intro v94 seg94 hs94;change OL _ _ _ _ _ ([(r12,.cells [] 166 0)]::bs r11 w::bs r9 v::seg94::[(r49,.gm (dU aP metV (dM seen1 w ())))]::bs r5 b::bs r4 a::S) _;change aV 27 33 v94 (_+1) (aI _++au w) seg94 at hs94;rw[<- vtxs_one1,<- dc,show op1.length+1=(op1++[w]).length by simp] at hs94
    refine OL.n1 rfl (hK7 _ _ (PW.k7 0 5 7 8 71 72 73 rfl (PW.ops (OL.x (Yields.ao rfl rfl (by omega) (by omega)) (OL.n1 rfl ?_)))))
    refine af.dE (Sub.drop (Sub.drop (Sub.refl _))) (T'':=[(0,_),(5,_),(7,_),(8,_),(71,_),(72,_),(73,_)]) (wi rfl) ?_;refine⟨nx.length-(k+1),by omega,k+1,op1++[w],dM seen1 w (),v94,seg94,⟨by omega,rfl,?_,hs94,?_,?_,?_,?_⟩,rfl,rfl⟩
    ·rw[hmk];have:=hB1.push hkl hvs1 (by rw[<- hw];exact hedge) (by rw[<- hw];exact c79)
     rwa [<- hw] at this
    ·intro x hx;rcases List.mem_append.1 hx with h|h
     ·exact hok1 x h
     rw[List.mem_singleton.1 h];exact how
    ·intro q hq;rcases mem_mpt hq with rfl|h
     ·exact how
     exact hks1 q h
    ·rw[hmk,List.length_append,List.length_singleton];omega
    rw[hmk];exact List.mem_append_left _ hvs1
   skip;have hns:w∈bu seen1:=by
    rw[isSome_mks] at c87;simpa using c87
   refine PW.skip (hK7 _ _ (PW.k7 0 5 7 8 71 72 73 rfl (PW.ops (OL.x (Yields.ao rfl rfl (by omega) (by omega)) (OL.n1 rfl ?_)))))
   refine af.dE (Sub.drop (Sub.drop (Sub.refl _))) (T'':=[(0,_),(5,_),(7,_),(8,_),(71,_),(72,_),(73,_)]) (wi rfl) ?_;refine⟨nx.length-(k+1),by omega,k+1,op1,seen1,vo1,sgo1,⟨by omega,rfl,hB1.pass hkl (by rw[<- hw];exact hns),hso1,hok1,hks1,hm1,hvs1⟩,rfl,rfl⟩
  try simp only[aD] at c74
  refine PW.exit ?_;refine af.dE (Sub.drop (Sub.refl _)) (T'':=[(0,_),(5,_),(7,_),(8,_)]) (wi rfl) ?_;refine⟨unS T0 (bu seen1)+op1.length,by omega,op1,seen1,vo1,sgo1,⟨hB1.over (by omega),hso1,hok1,hks1,rfl,by omega⟩,rfl,rfl⟩
 try simp only[aD] at c57
 refine PW.exit (hK4 _ _ (PW.cD (T':=[]) trivial (PW.s1 rfl (PW.k1 6 rfl ?_))));refine PW.ret (zR rfl ?_);obtain rfl:opn=[]:=List.eq_nil_of_length_eq_zero (by omega)
 exact⟨_,Sub.drop (Sub.drop (Sub.drop (Sub.drop (Sub.refl _)))),congrArg Value.bool (fx fun h=>h.2.2.2.2.2.elim g44 fun h=>h.elim c40 hB.fin).symm,rfl⟩
theorem GOk.junk' {w0:World}{X:SS}{m:dV}(hm:GOk w0 X m) (seg:bD):GOk w0 X { m with aH:=m.aH++seg } where
 pk:=hm.pk
 part:=fun q hq=>(hm.part q hq).grow
 nk:=hm.nk
 node:=fun q hq=>(hm.node q hq).grow (Nat.le_refl _)
 first:=hm.first.junkR
 firstOk:=hm.firstOk
 fh:=hm.fh
 lim:=hm.lim
 pkd:=hm.pkd
 nkd:=hm.nkd
theorem GOk.part' {w0:World}{X:SS}{m:dV}(hm:GOk w0 X m) {a:ay}{p:aN}(ha:er a) (hp:PartOk' w0 (m.aH::X) p):GOk w0 X { m with parts:=dM m.parts a p } where
 pk:=fun q hq=>by
  rcases mem_mpt hq with rfl|h
  ·exact ha
  exact hm.pk q h
 part:=fun q hq=>by
  rcases mem_mpt hq with rfl|h
  ·exact hp
  exact hm.part q h
 nk:=hm.nk
 node:=hm.node
 first:=hm.first
 firstOk:=hm.firstOk
 fh:=hm.fh
 lim:=hm.lim
 pkd:=mpt_nodup hm.pkd _ _
 nkd:=hm.nkd
theorem part_setL (p:aN) (A:Option Addr) (c:Nat):setAt (bG p) 100 [.slice A p.lines.length c] = bG { p with LA:=A,lc:=c }:=by
 have h1:=cz p.patch
 have h2:=aa p.up
 have h3:=aa p.down
 obtain⟨X,hX⟩:∃X,X=bd p.patch.1++[Value.int .i64 p.at_,.int .i64 p.first]++au p.up++au p.down:=⟨_,rfl⟩
 have hXl:X.length=100:=by rw[hX];simp[h1,h2,h3]
 show setAt (bd p.patch.1++[Value.int .i64 p.at_,.int .i64 p.first]++au p.up++au p.down++_) _ _=bd p.patch.1++[Value.int .i64 p.at_,.int .i64 p.first]++au p.up++au p.down++_
 rw[<- hX,bU _ _ _ (by simp[hXl])]
 rw[List.take_append_of_le_length (by omega),List.take_of_length_le (by omega),List.append_assoc,List.drop_append,List.drop_eq_nil_of_le (by simp[hXl])]
 simp[hXl]
theorem part_setG (p:aN) (A:Option Addr) (c:Nat):setAt (bG p) 101 [.slice A p.gone.length c] = bG { p with GA:=A,gc:=c }:=by
 have h1:=cz p.patch
 have h2:=aa p.up
 have h3:=aa p.down
 obtain⟨X,hX⟩:∃X,X=bd p.patch.1++[Value.int .i64 p.at_,.int .i64 p.first]++au p.up++au p.down:=⟨_,rfl⟩
 have hXl:X.length=100:=by rw[hX];simp[h1,h2,h3]
 show setAt (bd p.patch.1++[Value.int .i64 p.at_,.int .i64 p.first]++au p.up++au p.down++_) _ _=bd p.patch.1++[Value.int .i64 p.at_,.int .i64 p.first]++au p.up++au p.down++_
 rw[<- hX,bU _ _ _ (by simp[hXl])]
 rw[List.take_append,List.take_of_length_le (by omega)]
 simp[hXl]
theorem laidN_succ (N:List (ay×bK)) (p:ar) (k:Nat):laidN N p (k+1)=dM (laidN N p k) (p.vtx k) ⟨p.lines[k]!,0,0,[]⟩:=by
 unfold laidN;rw[List.range_succ,List.foldl_append];rfl
instance {l:List ay}{N:List (ay×ck)}:Decidable (∃v∈l,v∉bu N):=inferInstance
noncomputable def addE (G:Gr) (p:ar):Int:=
 if eM G p then 6 else if ¬eJ p then 4 else if ¬dX G p.up∨¬dX G p.down∨∃v∈p.gone,v∉bu G.nodes then 10 else if befB G p.up p.down=false then 4 else 0
noncomputable def addT (G:Gr) (p:ar):Gr:=if addE G p=0 then addG G p else G
def addL (p:aN):Nat:=p.lines.length+2*p.gone.length+3
theorem addE_there {G:Gr}{p:ar}(h:eM G p):addE G p=6:=by unfold addE;rw[if_pos h]
theorem addE_form {G:Gr}{p:ar}(h:¬eM G p) (h2:¬eJ p):addE G p=4:=by unfold addE;rw[if_neg h,if_pos h2]
theorem addE_dep {G:Gr}{p:ar}(h:¬eM G p) (h2:eJ p) (h3:¬dX G p.up∨¬dX G p.down∨∃v∈p.gone,v∉bu G.nodes):addE G p=10:=by unfold addE;rw[if_neg h,if_neg (fun k=>k h2),if_pos h3]
theorem addE_bef {G:Gr}{p:ar}(h:¬eM G p) (h2:eJ p) (h3:dX G p.up) (h4:dX G p.down) (h5:∀v∈p.gone,v∈bu G.nodes):addE G p=if befB G p.up p.down=false then 4 else 0:=by
 unfold addE;rw[if_neg h,if_neg (fun k=>k h2),if_neg]
 rintro (k|k|⟨v,k1,k2⟩)
 ·exact k h3
 ·exact k h4
 exact k2 (h5 v k1)
theorem Sub.join5 {a b c d e x y z:bD}{S:SS}:Sub (a::b::c::d::e::(x++(y++z))::S) (a::b::c::d::e::x::y::z::S):=Sub.cons (Sub.cons (Sub.cons (Sub.cons (Sub.cons ((Sub.join).trans (Sub.cons Sub.join))))))
theorem gone_any {p:aN}{N:List (ay×ck)}:(p.gone.any fun v=>!decide (v∈bu N))=true↔∃v∈p.gone,v∉bu N:=by simp
abbrev gseg (r:Nat) (m:dV):bD:=[(r,.cells [m.ptr] 30 1)]
theorem one_node (s:ByteArray) (w0:World) (B:SS) (lim:Nat):NodeOk' w0 B lim ⟨s,0,0,none,0,[]⟩:=⟨Rd.nil,by simp,by simp,by simp,by simp⟩
theorem dD {w0:World}{S:SS}{a:Addr}{l:List ByteArray}(h:Rd w0 S (some a) (strs l)) {k:Nat}(hk:k<l.length):Cell w0 S (a.add k) (.string l[k]):=h.at (by unfold strs;rw[List.getElem?_map,List.getElem?_eq_getElem hk];rfl)
theorem add_fc {w0:World}{S X:SS}{m:dV}(hm:GOk w0 X m) (hX:Over X S) {p:aN}(hp:PartR p) (hrL:Rd w0 S p.LA (strs p.lines)) (hrG:Rd w0 S p.GA (aI p.gone)) (hroot:∀e∈EG m.gr.nodes,e.2≠aU) (hE:(EG m.gr.nodes).length<=1000000000) (hlim:m.lim+addL p<=1000000000000) :
    FC prog w0 25 [m.ptr,fz p] (GS m++S) (fun v S'=>∃m',v=.int .i64 (addE m.gr p.pl)/\S'=GS m'++S/\GOk w0 X m'/\m'.gr=addT m.gr p.pl/\m'.r=m.r/\m'.lim<=m.lim+addL p/\∀x∈m.aH,x∈m'.aH):=by
  have hS:Over (GS m++X) (GS m++S):=Over.both hX
  unfold addL at hlim;have hpl:=hp.lines
  have hpgl:=hp.gones
  refine FC.ofD known25 (by simp) ?_
  unfold pc25;simp only[bo];refine PW.ae (OL.c (OW.bx rfl) ?_);rintro _ _ ⟨r2,rfl,rfl⟩;change OL _ _ _ _ _ (gseg r2 m::(GS m++S)) _;refine OL.c (OW.bx rfl) ?_;rintro _ _ ⟨r3,rfl,rfl⟩;rw[fj,bm];refine OL.n1 rfl (PW.k2 2 3 rfl (PW.seq fun K1 hK1=>PW.block (PW.ae (OL.x (Yields.ld rfl (az (j:=0) (c:=[m.ptr]) (E:=30) (tot:=1) dm rfl)) (OL.q rfl (is_fc hS.cons.cons) (OL.n2 rfl rfl (PW.k3 2 3 7 rfl ?_)))))))
  refine PW.ite (b:=false) rfl ?_;rw[if_neg Bool.false_ne_true];refine PW.ae (OL.x (Yields.ld rfl (az (j:=0) (c:=[m.ptr]) (E:=30) (tot:=1) dm rfl)) (OL.x (Yields.aT rfl (bm _) (av bF)) (OL.q rfl (there_fc hm hS.cons.cons hp) (OL.n1 rfl (PW.k3 2 3 11 rfl ?_)))));refine PW.cond rfl (fun c11=>?_) (fun c11=>?_)
  · try simp only[aD] at c11
    exact PW.s1 rfl (PW.k1 4 rfl (PW.ret (zR rfl ⟨_,Sub.drop (Sub.drop (Sub.refl _)),m,by rw[addE_there c11],rfl,hm,(by unfold addT;rw[addE_there c11];rfl),rfl,by unfold addL;omega,fun _ h=>h⟩)))
  try simp only[aD] at c11
  refine PW.ae (OL.x (Yields.aT rfl (bm _) (av bF)) (OL.q rfl (formed_fc ⟨hrL.appR.cons.cons,hrG.appR.cons.cons,hp⟩) (OL.n2 rfl rfl (PW.k3 2 3 15 rfl ?_))));refine PW.cond rfl (fun c15=>?_) (fun c15=>?_)
  · try simp only[aD] at c15
    exact PW.s1 rfl (PW.k1 4 rfl (PW.ret (zR rfl ⟨_,Sub.drop (Sub.drop (Sub.refl _)),m,by rw[addE_form c11 c15],rfl,hm,(by unfold addT;rw[addE_form c11 c15];rfl),rfl,by unfold addL;omega,fun _ h=>h⟩)))
  try simp only[aD] at c15
  refine PW.ae (OL.x (Yields.ld rfl (az (j:=0) (c:=[m.ptr]) (E:=30) (tot:=1) dm rfl)) (OL.dp rfl (OL.x (Yields.aT rfl (aa _) (part_up (p:=p) (E:=59) (tot:=102) bF)) (OL.q rfl (has_fc hm hS.cons.cons hp.up) (OL.dp rfl ?_)))));refine OL.bool trivial (Yields.pure rfl) (fun g25=>?_) (fun g25=>?_)
  · try simp only[aD] at g25
    refine OL.off rfl rfl (OL.off rfl rfl (OL.off rfl rfl (OL.off rfl rfl (OL.off rfl rfl (OL.p2 rfl rfl (OL.off rfl rfl (OL.off rfl rfl (OL.off rfl rfl (OL.off rfl rfl (OL.dp rfl ?_))))))))));refine OL.n1 rfl (PW.k3 2 3 19 rfl (PW.ite (b:=true) rfl ?_));rw[if_pos rfl];refine PW.s1 rfl (PW.k1 4 rfl ?_);refine PW.ret (zR rfl ?_);have hdep:¬dX m.gr p.pl.up∨¬dX m.gr p.pl.down∨∃v∈p.pl.gone,v∉bu m.gr.nodes:=by
      first
        |exact .inl g25
        |exact .inr (.inl g32)
        | (refine .inr (.inr ?_)
           show ∃v∈p.gone,v∉bu (plN m.nodes)
           rw[eV];exact gone_any.1 c19)
    exact⟨_,Sub.drop (Sub.drop (Sub.refl _)),m,by rw[addE_dep c11 c15 hdep],rfl,hm,(by unfold addT;rw[addE_dep c11 c15 hdep];rfl),rfl,by unfold addL;omega,fun _ h=>h⟩
  try simp only[aD] at g25
  refine OL.ak rfl (.ld rfl (az (j:=0) (c:=[m.ptr]) (E:=30) (tot:=1) dm rfl)) (OL.ak rfl (.pure rfl) (OL.ak rfl (.aT rfl (aa _) (dF (p:=p) (E:=59) (tot:=102) bF)) (OL.call rfl rfl (has_fc hm hS.cons.cons hp.down) ?_)));rintro _ Sx ⟨rfl,hSx⟩;rw[hSx];clear hSx;refine OL.ak rfl (.pure rfl) (OL.dp rfl ?_);refine OL.bool trivial (Yields.pure rfl) (fun g32=>?_) (fun g32=>?_)
  · try simp only[aD] at g32
    refine OL.off rfl rfl (OL.off rfl rfl (OL.off rfl rfl (OL.off rfl rfl (OL.n2 rfl rfl (PW.k3 2 3 19 rfl (PW.ite (b:=true) rfl ?_))))));rw[if_pos rfl];refine PW.s1 rfl (PW.k1 4 rfl ?_);refine PW.ret (zR rfl ?_);have hdep:¬dX m.gr p.pl.up∨¬dX m.gr p.pl.down∨∃v∈p.pl.gone,v∉bu m.gr.nodes:=by
      first
        |exact .inl g25
        |exact .inr (.inl g32)
        | (refine .inr (.inr ?_)
           show ∃v∈p.gone,v∉bu (plN m.nodes)
           rw[eV];exact gone_any.1 c19)
    exact⟨_,Sub.drop (Sub.drop (Sub.refl _)),m,by rw[addE_dep c11 c15 hdep],rfl,hm,(by unfold addT;rw[addE_dep c11 c15 hdep];rfl),rfl,by unfold addL;omega,fun _ h=>h⟩
  try simp only[aD] at g32
  refine OL.ak rfl (.pure rfl) (OL.ak rfl (.ld rfl (dh (p:=p) (E:=59) (tot:=102) bF)) (OL.ak rfl (Yields.mkF rfl) ?_));refine OL.call rfl rfl (containsFunc_fc (q:=fun v=>!decide (v∈bu m.nodes)) (ca:=[.pointer (some ⟨r2,0,none⟩)]) hrG.appR.cons.cons (by omega) (by kernel_rfl) (fun x hx=>add1_fc hm hS.cons.cons (hp.gone x hx) (az (j:=0) (c:=[m.ptr]) (E:=30) (tot:=1) dm rfl))) ?_
  rintro _ Sx ⟨rfl,hSx⟩;rw[hSx];clear hSx;refine OL.n2 rfl rfl (PW.k3 2 3 19 rfl ?_);refine PW.cond rfl (fun c19=>?_) (fun c19=>?_)
  · skip
    refine PW.s1 rfl (PW.k1 4 rfl ?_);refine PW.ret (zR rfl ?_);have hdep:¬dX m.gr p.pl.up∨¬dX m.gr p.pl.down∨∃v∈p.pl.gone,v∉bu m.gr.nodes:=by
      first
        |exact .inl g25
        |exact .inr (.inl g32)
        | (refine .inr (.inr ?_)
           show ∃v∈p.gone,v∉bu (plN m.nodes)
           rw[eV];exact gone_any.1 c19)
    exact⟨_,Sub.drop (Sub.drop (Sub.refl _)),m,by rw[addE_dep c11 c15 hdep],rfl,hm,(by unfold addT;rw[addE_dep c11 c15 hdep];rfl),rfl,by unfold addL;omega,fun _ h=>h⟩
  skip;have hgn:∀v∈p.pl.gone,v∈bu m.gr.nodes:=by
    intro v hv
    show v∈bu (plN m.nodes)
    rw[eV];exact Classical.byContradiction fun h=>by
      rw[gone_any.2 ⟨v,hv,h⟩] at c19;cases c19
  refine PW.ae (OL.x (Yields.ld rfl (az (j:=0) (c:=[m.ptr]) (E:=30) (tot:=1) dm rfl)) (OL.dp rfl (OL.x (Yields.aT rfl (aa _) (part_up (p:=p) (E:=59) (tot:=102) bF)) (OL.dp rfl (OL.x (Yields.aT rfl (aa _) (dF (p:=p) (E:=59) (tot:=102) bF)) (OL.q rfl (before_fc hm hS.cons.cons hp.up hp.down hroot hE) (OL.n2 rfl rfl (PW.k3 2 3 38 rfl ?_))))))));refine PW.cond rfl (fun c38=>?_) (fun c38=>?_)
  · try simp only[aD] at c38
    refine PW.s1 rfl (PW.k1 4 rfl ?_);refine PW.ret (zR rfl ?_);have hbe:=addE_bef (G:=m.gr) (p:=p.pl) c11 c15 g25 g32 hgn
    rw[show befB m.gr p.pl.up p.pl.down=false from c38] at hbe
    exact⟨_,Sub.drop (Sub.drop (Sub.refl _)),m,by rw[hbe];rfl,rfl,hm,(by unfold addT;rw[hbe];rfl),rfl,by unfold addL;omega,fun _ h=>h⟩
  try simp only[aD] at c38
  refine PW.skip (hK1 _ _ (PW.k2 2 3 rfl (PW.seq fun K2 hK2=>?_)))
  refine PW.dy (Ss:=Over (eB r3 p::gseg r2 m::(GS m++S))) (fr:=false) [(0,0),(1,0),(3,0),(4,0),(2,2),(6,0),(5,2)] mixed (by decide +kernel) (Over.refl _) (fun h=>by cases h) ?_
  refine GL.dp rfl ?_;refine GL.ak trivial (fun Sx hSx=>Yields.ld rfl (fp (p:=p) (E:=59) (tot:=102) (hSx _ bF))) ?_
  refine GL.dp rfl ?_;refine GL.ak trivial (fun Sx hSx=>Yields.ld rfl (dh (p:=p) (E:=59) (tot:=102) (hSx _ bF))) ?_
  refine GL.lo trivial (OW.mono (OW.call rfl (cloneS_fc hrL.appR.cons.cons (by omega))) ?_)
  rintro v48 _ ⟨seg48,rfl,hs48⟩;refine⟨(Over.refl _).cons,?_⟩;refine GL.dp rfl ?_;refine GL.lo trivial (OW.mono (OW.call rfl (clone_fc hrG.appR.cons.cons.cons (by omega))) ?_)
  rintro v51 _ ⟨seg51,rfl,hs51⟩;refine⟨(Over.refl _).cons.cons,?_⟩;obtain⟨LA,lc,rfl,hLn,hLc,hrL2⟩:=aF (w0:=w0) hs48;obtain⟨GA,gc,rfl,hGn,hGc,hrG2⟩:=aF (w0:=w0) hs51;change OL _ _ _ [_,_,_] _ _ _;refine OL.c (OW.st (k:=2) (c:=bG p) (u:=.slice LA p.lines.length lc) rfl rfl rfl rfl (by rw[bm];show 100+1<=102;decide) rfl) ?_
  rintro _ _ rfl;change OL _ _ _ _ _ (seg51::seg48::[(r3,.cells (setAt (bG p) 100 [.slice LA p.lines.length lc]) 59 102)]::gseg r2 m::(GS m++S)) _;rw[part_setL];refine OL.dp rfl ?_;refine OL.c (OW.st (k:=2) (c:=bG { p with LA:=LA,lc:=lc }) (u:=.slice GA p.gone.length gc) rfl rfl rfl rfl (by rw[bm];show 101+1<=102;decide) rfl) ?_
  rintro _ _ rfl;change OL _ _ _ _ _ (seg51::seg48::[(r3,.cells (setAt (bG { p with LA:=LA,lc:=lc }) 101 [.slice GA { p with LA:=LA,lc:=lc }.gone.length gc]) 59 102)]::gseg r2 m::(GS m++S)) _;rw[part_setG];obtain⟨p2,hp2⟩:∃z:aN,z={ p with LA:=LA,lc:=lc,GA:=GA,gc:=gc }:=⟨_,rfl⟩;change OL _ _ _ _ _ (seg51::seg48::eB r3 { p with LA:=LA,lc:=lc,GA:=GA,gc:=gc }::gseg r2 m::(GS m++S)) _;rw[<- hp2];have hpp:p2.pl=p.pl:=by rw[hp2];rfl
  have hlp:p2.lines=p.lines:=by rw[hp2]
  have hgp:p2.gone=p.gone:=by rw[hp2]
  have hp2R:PartR p2:=by rw[hp2];exact⟨hp.at_,hp.first,hp.lines,hp.gones,hGc,hGn,hp.up,hp.down,hp.gone⟩
  obtain⟨m1,hm1d⟩:∃z:dV,z={ m with aH:=m.aH++(seg48++seg51) }:=⟨_,rfl⟩;have hm1:GOk w0 X m1:=by rw[hm1d];exact hm.junk' _
  have hr1:m1.r=m.r:=by rw[hm1d]
  have hpo:PartOk' w0 (m1.aH::X) p2:=⟨by rw[hm1d,hp2];exact((hrL2 []).junkR (b:=seg51)).junkL,by rw[hm1d,hp2];exact((hrG2 []).junkL (a:=seg48)).junkL,hp2R⟩
  refine OL.bZ (S':=eB r3 p2::gseg r2 m::(GS m1++S)) (by rw[hm1d];exact(Sub.join5).trans (Sub.ec [2,3,4,5,6,7,1,0] 8 (by decide) (seg51::seg48::eB r3 p2::gseg r2 m::(GS m++S)))) ?_
  refine OL.nil (hK2 _ _ (PW.k2 2 3 rfl (PW.seq fun K3 hK3=>PW.aQ mixed (QK.x (Yields.ld rfl (az (j:=0) (c:=[m.ptr]) (E:=30) (tot:=1) dm rfl)) (QK.x (Yields.cF rfl) (QK.dp rfl ?_))))))
  refine QK.x (Yields.ld rfl (by rw[<- hr1];exact g_parts (Over.both hX).cons.cons)) ?_
  refine QK.dp rfl (QK.x (Yields.aT rfl (cz _) (part_patch (p:=p2) (E:=59) (tot:=102) bF)) (QK.dp rfl (QK.x (Yields.ld rfl (part_at (p:=p2) (E:=59) (tot:=102) bF)) (QK.x (Yields.build (fill_vtx rfl rfl)) (QK.x (Yields.aT rfl (bm _) (av (c:=bG p2) (E:=59) (tot:=102) bF)) (QK.nil ?_))))));change OL _ _ _ [_] _ _ _;refine OL.c (OW.updG (j:=3) (l:=m1.parts) (a:=p2.pl.name) (v:=p2) Tryz.underlying108 keys97 hm1.pk hp2R.name rfl rfl rfl rfl) ?_;rintro _ _ rfl;obtain⟨m2,hm2d⟩:∃z:dV,z={ m1 with parts:=dM m1.parts p2.pl.name p2 }:=⟨_,rfl⟩;have hm2:GOk w0 X m2:=by rw[hm2d];exact hm1.part' hp2R.name hpo
  change OL _ _ _ _ _ (eB r3 p2::gseg r2 m::(GS { m1 with parts:=dM m1.parts p2.pl.name p2 }++S)) _;rw[<- hm2d];have hr2:m2.r=m.r:=by rw[hm2d,hm1d]
  have hl2:m2.lim=m.lim:=by rw[hm2d,hm1d]
  have hn2:m2.nodes=m.nodes:=by rw[hm2d,hm1d]
  have hf2:m2.first=m.first:=by rw[hm2d,hm1d]
  have hpp2:plP m2.parts=dM (plP m.parts) p.pl.name p.pl:=by rw[hm2d,hm1d];show plP (dM m.parts p2.pl.name p2)=_;rw[mpt_plP,hpp]
  have hj2:∀x∈m.aH,x∈m2.aH:=by rw[hm2d,hm1d];exact fun x hx=>List.mem_append_left _ hx
  have hpo2:PartOk' w0 (m2.aH::X) p2:=by rw[hm2d];exact hpo
  refine OL.nil (hK3 _ _ (PW.k2 2 3 rfl (PW.seq fun K4 hK4=>PW.ae (OL.dp rfl (OL.x (Yields.ld rfl (fp (p:=p2) (E:=59) (tot:=102) bF)) (OL.n2 rfl rfl (PW.k5 2 3 65 66 67 rfl (PW.block ?_))))))))
  refine PW.k5 2 3 65 66 67 rfl ?_;refine PW.aR (I:=fun mm T S'=>∃(k:Nat) (m3:dV),(k<=p2.lines.length/\mm=p2.lines.length-k/\GOk w0 X m3/\m3.parts=m2.parts/\m3.first=m2.first/\plN m3.nodes=laidN (plN m2.nodes) p2.pl k/\m3.r=m.r/\m3.lim=m.lim/\m3.aH=m2.aH)/\T=([(2,.pointer (some ⟨r2,0,none⟩)),(3,.pointer (some ⟨r3,0,none⟩)),(65,.slice p2.LA p2.lines.length p2.lc),(66,.int .i64 (p2.lines.length:Int)),(67,.int .i64 k)]:TT)/\S'=eB r3 p2::gseg r2 m::(GS m3++S)) (m:=p2.lines.length) ⟨0,m2,⟨by omega,by omega,hm2,rfl,rfl,rfl,hr2,hl2,rfl⟩,rfl,rfl⟩ ?_
  rintro mm _ _ ⟨k,m3,⟨hk,hmm,hm3,hp3,hf3,hn3,hr3,hl3,hj3⟩,rfl,rfl⟩;refine PW.s1 rfl (PW.k6 2 3 65 66 67 68 rfl (PW.seq fun K5 hK5=>?_))
  refine PW.cond rfl (fun c68=>?_) (fun c68=>?_)
  · try simp only[aD] at c68
    have hp2l:=hp2R.lines
    have hkl:k<p2.lines.length:=by omega
    obtain⟨al,hal⟩:=dg hpo2.rdL (by omega)
    have hrL4:Rd w0 (eB r3 p2::gseg r2 m::(GS m3++S)) (some al) (strs p2.lines):=by
      rw[<- hal];exact((hpo2.rdL.jmono (b:=m3.aH) fun x hx=>hj3▸hx).aH (Over.both hX)).cons.cons
    refine PW.skip (hK5 _ _ (PW.k5 2 3 65 66 67 rfl (PW.seq fun K6 hK6=>PW.block (PW.ae (OL.dp rfl ?_)))))
    rw[hal];refine OL.x (Yields.dY rfl rfl rfl (by omega)) (OL.x (Yields.ld rfl (dD hrL4 hkl)) (OL.n2 rfl rfl (PW.k7 2 3 5 6 65 66 67 rfl (PW.aQ mixed (QK.x (Yields.ld rfl (az (j:=0) (c:=[m.ptr]) (E:=30) (tot:=1) dm rfl)) (QK.x (Yields.cF rfl) (QK.dp rfl ?_)))))))
    refine QK.x (Yields.ld rfl (by rw[<- hr3];exact dz (Over.both hX).cons.cons)) ?_
    refine QK.x (Yields.aT rfl (bm _) (av (c:=bG p2) (E:=59) (tot:=102) bF)) (QK.dp rfl ?_);refine QK.l rfl (vertex_fc (i:=k) hp2R (by have:=hp2R.lines;omega)) ?_
    refine QK.dp rfl (QK.x (Yields.build rfl) (QK.nil ?_));change OL _ _ _ [_] _ _ _;refine OL.c (OW.updG (j:=4) (l:=m3.nodes) (a:=p2.pl.vtx k) (v:=⟨p2.lines[k],0,0,none,0,[]⟩) Tryz.underlying109 dj hm3.nk (hp2R.vtx hkl) rfl rfl rfl rfl) ?_;rintro _ _ rfl;refine OL.nil (hK6 _ _ (PW.k5 2 3 65 66 67 rfl (PW.ops (OL.x (Yields.ao rfl rfl (by omega) (by omega)) (OL.n1 rfl ?_)))))
    refine af.mk (T'':=[(2,_),(3,_),(65,_),(66,_),(67,_)]) (wi rfl) ?_;rw[hal];refine⟨p2.lines.length-(k+1),by omega,k+1,{ m3 with nodes:=dM m3.nodes (p2.pl.vtx k) ⟨p2.lines[k],0,0,none,0,[]⟩,lim:=m3.lim+0 },⟨by omega,rfl,hm3.node0 (k:=0) (hp2R.vtx hkl) (one_node _ _ _ _) (by omega),hp3,hf3,?_,hr3,hl3,hj3⟩,rfl,rfl⟩
    show plN (dM m3.nodes (p2.pl.vtx k) ⟨p2.lines[k],0,0,none,0,[]⟩)=_
    rw[mpt_plN,hn3,laidN_succ,getElem!_pos p2.pl.lines k hkl];rfl
  try simp only[aD] at c68
  refine PW.exit (hK4 _ _ (PW.k2 2 3 rfl (PW.ae (OL.bZ (S':=GS m3++(eB r3 p2::gseg r2 m::S)) (Sub.ec [2,3,4,5,0,1] 6 (by decide) (eB r3 p2::gseg r2 m::(GS m3++S))) (OL.x (Yields.ld rfl (az (j:=0) (c:=[m.ptr]) (E:=30) (tot:=1) (by simp) rfl)) (OL.x (Yields.aT rfl (bm _) (av (c:=bG p2) (E:=59) (tot:=102) (by simp))) ?_))))))
  refine OL.l rfl (by rw[<- ptr_eq hr3];exact links_fc hm3 hX.cons.cons hp2R true (by rw[hlp];omega)) ?_
  rintro _ _ ⟨rfl,m4,rfl,hm4,hg4,hr4,hl4,hj4⟩;refine OL.nil (PW.k2 2 3 rfl (PW.ae (OL.x (Yields.ld rfl (az (j:=0) (c:=[m.ptr]) (E:=30) (tot:=1) (by simp) rfl)) (OL.x (Yields.aT rfl (bm _) (av (c:=bG p2) (E:=59) (tot:=102) (by simp))) ?_))))
  refine OL.l rfl (by rw[<- ptr_eq (hr4.trans hr3)];exact count_fc hm4 hX.cons.cons hp2R (.inr (hpo2.rdG.jmono fun x hx=>hj4 x (hj3▸hx))) (.inl rfl) (by rw[hlp] at hl4;rw[hgp];omega)) ?_
  rintro _ _ ⟨rfl,m5,rfl,hm5,hg5,hr5,hl5,hj5⟩;refine OL.nil (PW.cD (T':=[]) trivial (PW.s1 rfl (PW.k1 4 rfl ?_)));refine PW.ret (zR rfl ?_);have hbe:=addE_bef (G:=m.gr) (p:=p.pl) c11 c15 g25 g32 hgn
  rw[show befB m.gr p.pl.up p.pl.down=true from c38] at hbe
  have hbe0:addE m.gr p.pl=0:=hbe
  have hke:k=p2.lines.length:=by omega
  refine⟨_,Sub.ec [0,1,2,3] 6 (by decide) _,m5,by rw[hbe0],rfl,hm5,?_,hr5.trans (hr4.trans hr3),by unfold addL;rw[hlp] at hl4;rw[hgp] at hl5;omega,fun x hx=>hj5 x (hj4 x (hj3▸hj2 x hx))⟩
  unfold addT;rw[if_pos hbe0,hg5,hg4,hpp];have h3:m3.gr={ parts:=dM m.gr.parts p.pl.name p.pl,nodes:=laidN m.gr.nodes p.pl p.pl.lines.length,first:=m.gr.first }:=by
    unfold dV.gr;rw[hp3,hf3,hn3,hf2,hn2,hpp2,hpp,hke,hlp];rfl
  rw[h3];rfl
end Go.Proofs.Gr



namespace Go.Proofs.Gr
open Go.SL Go.RowKit Go.Proofs Go.GP Go.Proofs.Tryz
set_option maxHeartbeats 1000000
theorem run_loadBytes {P:Program}{w0 w:World}{S:SS}(hr:df w0 S w):∀(l:List UInt8) (a:Addr) (acc:ByteArray),(∀j v,(bd l)[j]? = some v->Cell w0 S (a.add j) v)->(Extern.Bytes.loadBytes a l.length acc).run P w=.ok (acc++⟨l.toArray⟩) w
 |[],a,acc,_=>by
  have e:acc++⟨#[]⟩=acc:=ByteArray.ext (by simp)
  simp[Extern.Bytes.loadBytes,Sem.run_pure,e]
 |b::l,a,acc,h=>by
  have h0:=hr.cell (h 0 _ rfl)
  rw[show a.add 0=a by simp[Addr.add]] at h0
  have ih:=run_loadBytes (P:=P) hr l (a.add 1) (acc.push b) (fun j v hj=>by
   rw[aZ];exact h (1+j) v (by rw[Nat.add_comm];exact hj))
  have hb:(b.toNat:Int).toNat.toUInt8=b:=by simp
  have e:acc.push b++⟨l.toArray⟩=acc++⟨(b::l).toArray⟩:=by
   apply ByteArray.ext;simp
  simp only[List.length_cons,Extern.Bytes.loadBytes];rw[Sem.run_bind];have hl:(load a).run P w=.ok (.int .u8 (b.toNat:Int)) w:=by simp[load,Sem.run,h0]
  rw[hl];simp only[Result.andThen];rw[hb,ih,e]
theorem callCmp (vs:Array Value) (w:World):(callFunc 124 vs).run prog w=((Extern.BytealgCompare.compare vs).run prog w).andThen fun v w=>.ok (.value v) w:=
 run_callFunc_extern func124 (by kernel_rfl) (by kernel_rfl) (by kernel_rfl) (e:=Extern.BytealgCompare.compare) (by kernel_rfl) vs w
def orL:List Int->Int
 |[]=>0
 |x::r=>if x≠0 then x else orL r
theorem orL_at:∀{l:List Int}{k:Nat}(hk:k<l.length),(∀z∈l.take k,z=0)->l[k]≠0->orL l=l[k]
 |x::r,0,_,_,h=>by simp only[List.getElem_cons_zero] at h ⊢;exact if_pos h
 |x::r,k+1,hk,h0,h=>by
  have hx:x=0:=h0 x (by simp)
  simp only[List.getElem_cons_succ] at h ⊢;rw[<- orL_at (by simpa using hk) (fun z hz=>h0 z (by simp[hz])) h]
  exact if_neg (by simp[hx])
theorem orL_zero:∀{l:List Int},(∀z∈l,z=0)->orL l=0
 |[],_=>rfl
 |x::r,h=>by
  have hx:x=0:=h x (by simp)
  exact(if_neg (by simp[hx])).trans (orL_zero fun z hz=>h z (by simp[hz]))
def ints (l:List Int):List Value:=l.map (.int .i64)
def cmpI (x y:Int):Int:=if x<y then -1 else if x > y then 1 else 0
def ordV (a b:ay):Int:=orL [Lib.compareBytes a.1.1 b.1.1,cmpI a.2 b.2]
theorem bcompare_fc {w0:World}{S:SS}{A B:Addr}{x y:List UInt8}{c d:Nat}(hx:Rd w0 S (some A) (bd x)) (hy:Rd w0 S (some B) (bd y)) :
  FC prog w0 103 [.slice (some A) x.length c,.slice (some B) y.length d] S (fun v S'=>v=.int .i64 (Lib.compareBytes x y)/\S'=S):=by
 refine FC.of known103 (by simp) ?_
 unfold pc103;simp only[bo];refine PW.s1 rfl (PW.k2 0 1 rfl (PW.ae (OL.p2 rfl rfl ?_)));refine OL.c (OW.xf rfl (v:=.int .i64 (Lib.compareBytes x y)) fun w hr=>?_) ?_
 ·rw[callCmp];have h1:=run_loadBytes (P:=prog) hr x A .empty (fun j v hj=>hx.at hj)
  have h2:=run_loadBytes (P:=prog) hr y B .empty (fun j v hj=>hy.at hj)
  rw[show(Extern.BytealgCompare.compare #[.slice (some A) x.length c,.slice (some B) y.length d]).run prog w=.ok (.int .i64 (Lib.compareBytes x y)) w from by
   change Sem.run prog (do pure (goInt (Extern.BytealgCompare.cmp (<- Extern.Bytes.bytesOf (.slice (some A) x.length c)) (<- Extern.Bytes.bytesOf (.slice (some B) y.length d))))) w=_
   simp only[Extern.Bytes.bytesOf,Sem.run_bind,h1,h2,Sem.run_pure,Result.andThen];rw[Lib.cmp_eq];simp only[goInt];congr 2
   all_goals simp]
  rfl
 rintro _ Sx ⟨rfl,hSx⟩;rw[hSx];clear hSx;exact OL.n1 rfl (PW.k1 4 rfl (PW.ret (zR rfl ⟨rfl,rfl⟩)))
theorem isNaN_fc {w0:World}{S:SS}{x:Int}:FC prog w0 125 [.int .i64 x] S (fun v S'=>v=.bool false/\S'=S):=by
 refine FC.of known125 (by simp) ?_
 unfold pc125;simp only[bo];exact PW.s1 rfl (PW.k1 0 rfl (PW.s4 rfl rfl rfl rfl (PW.k1 2 rfl (PW.ret (zR rfl ⟨by simp,rfl⟩)))))
theorem cmpI_fc {w0:World}{S:SS}{x y:Int}:FC prog w0 104 [.int .i64 x,.int .i64 y] S (fun v S'=>v=.int .i64 (cmpI x y)/\S'=S):=by
 refine FC.of known104 (by simp) ?_
 unfold pc104;simp only[bo];refine PW.s1 rfl (PW.k2 0 1 rfl (PW.ae (OL.dp rfl (OL.q rfl (isNaN_fc) (OL.n1 rfl (PW.k3 0 1 5 rfl (PW.ae (OL.dp rfl ?_))))))));refine OL.q rfl (isNaN_fc) (OL.n1 rfl (PW.k4 0 1 5 6 rfl (PW.seq fun K1 hK1=>PW.s1 rfl (PW.k4 0 1 6 11 rfl (PW.ite (b:=false) rfl ?_)))))
 rw[if_neg Bool.false_ne_true];refine PW.skip (hK1 _ _ (PW.k3 0 1 6 rfl (PW.seq fun K2 hK2=>PW.s1 rfl (PW.k3 0 1 13 rfl (PW.ite (b:=false) rfl ?_)))))
 rw[if_neg Bool.false_ne_true];refine PW.skip (hK2 _ _ (PW.k2 0 1 rfl (PW.seq fun K3 hK3=>PW.s3 rfl rfl rfl (PW.k3 0 1 16 rfl ?_))))
 refine PW.cond rfl (fun c16=>?_) (fun c16=>?_)
 ·try simp only[aD] at c16
  exact PW.s1 rfl (PW.k1 4 rfl (PW.ret (zR rfl ⟨by unfold cmpI;rw[if_pos c16],rfl⟩)))
 try simp only[aD] at c16
 refine PW.skip (hK3 _ _ (PW.k2 0 1 rfl (PW.seq fun K4 hK4=>PW.s3 rfl rfl rfl (PW.k1 19 rfl ?_))))
 refine PW.cond rfl (fun c19=>?_) (fun c19=>?_)
 ·try simp only[aD] at c19
  exact PW.s1 rfl (PW.k1 4 rfl (PW.ret (zR rfl ⟨by unfold cmpI;rw[if_neg c16,if_pos c19],rfl⟩)))
 try simp only[aD] at c19
 exact PW.skip (hK4 _ _ (PW.cD (T':=[]) trivial (PW.s1 rfl (PW.k1 4 rfl (PW.ret (zR rfl ⟨by unfold cmpI;rw[if_neg c16,if_neg c19],rfl⟩))))))
theorem cmpOr_fc {w0:World}{S:SS}{a:Addr}{c:Nat}{l:List Int}(hx:Rd w0 S (some a) (ints l)) (hl:l.length<=1000):FC prog w0 102 [.slice (some a) l.length c] S (fun v S'=>v=.int .i64 (orL l)/\S'=S):=by
 refine FC.of known102 (by simp) ?_
 unfold pc102;simp only[bo];refine PW.s1 rfl (PW.k1 0 rfl (PW.s1 rfl (PW.k2 0 3 rfl (PW.seq fun K1 hK1=>PW.ae (OL.p2 rfl rfl ?_)))))
 refine OL.n1 rfl (PW.k4 3 6 7 8 rfl (PW.block (PW.k4 3 6 7 8 rfl ?_)));refine PW.aR (I:=fun mm T S'=>∃(k:Nat),(k<=l.length/\mm=l.length-k/\∀z∈l.take k,z=0)/\T=([(3,.int .i64 0),(6,.slice (some a) l.length c),(7,.int .i64 (l.length:Int)),(8,.int .i64 k)]:TT)/\S'=S) (m:=l.length) ⟨0,⟨by omega,by omega,by simp⟩,rfl,rfl⟩ ?_
 rintro mm _ _ ⟨k,⟨hk,hmm,hall⟩,rfl,rfl⟩;refine PW.s1 rfl (PW.k5 3 6 7 8 9 rfl (PW.seq fun K2 hK2=>?_))
 refine PW.cond rfl (fun c9=>?_) (fun c9=>?_)
 ·try simp only[aD] at c9
  have hkl:k<l.length:=by omega
  refine PW.skip (hK2 _ _ (PW.k4 3 6 7 8 rfl (PW.seq fun K3 hK3=>PW.block (PW.ae (OL.x (Yields.dY rfl rfl rfl (by omega)) ?_)))))
  refine OL.x (Yields.ld rfl (hx.at (j:=k) (by unfold ints;rw[List.getElem?_map,List.getElem?_eq_getElem hkl];rfl))) ?_
  refine OL.n1 rfl (PW.k5 3 5 6 7 8 rfl (PW.s3 rfl rfl rfl (PW.k6 3 5 6 7 8 14 rfl ?_)));refine PW.cond rfl (fun c14=>?_) (fun c14=>?_)
  ·try simp only[aD] at c14
   exact PW.s2 rfl rfl (PW.k1 2 rfl (PW.ret (zR rfl ⟨by rw[orL_at hkl hall c14],rfl⟩)))
  try simp only[aD] at c14
  refine PW.skip (hK3 _ _ (PW.k4 3 6 7 8 rfl (PW.ops (OL.x (Yields.ao rfl rfl (by omega) (by omega)) (OL.n1 rfl ?_)))))
  refine af.mk (T'':=[(3,_),(6,_),(7,_),(8,_)]) (wi rfl) ?_;refine⟨l.length-(k+1),by omega,k+1,⟨by omega,rfl,fun z hz=>?_⟩,rfl,rfl⟩
  rw[List.take_add_one,List.getElem?_eq_getElem hkl,List.mem_append] at hz;rcases hz with hz|hz
  ·exact hall z hz
  simp at hz;rw[hz];exact c14
 try simp only[aD] at c9
 exact PW.exit (hK1 _ _ (PW.k1 3 rfl (PW.s2 rfl rfl (PW.k1 2 rfl (PW.ret (zR rfl ⟨by rw[orL_zero (fun z hz=>hall z (by rw[List.take_of_length_le (by omega)];exact hz))],rfl⟩))))))
theorem order_fc {w0:World}{S:SS}{a b:ay}:FC prog w0 72 [aP a,aP b] S (fun v S'=>v=.int .i64 (ordV a b)/\S'=S):=by
 refine FC.ofD known72 (by simp) ?_
 unfold pc72;simp only[bo];refine PW.ae (OL.c (OW.bx rfl) ?_);rintro _ _ ⟨r2,rfl,rfl⟩;rw[bB,aa];refine OL.c (OW.bx rfl) ?_;rintro _ _ ⟨r3,rfl,rfl⟩;rw[bB,aa];refine OL.n1 rfl (PW.k2 2 3 rfl (PW.seq fun K1 hK1=>PW.aQ mixed (QK.dp rfl (QK.x (Yields.slA rfl) (QK.dp rfl (QK.x (Yields.slA rfl) ?_))))))
 refine QK.l rfl (by have h1:=bcompare_fc (w0:=w0) (S:=bs r3 b::bs r2 a::S) (A:=⟨r2,0,none⟩) (B:=⟨r3,0,none⟩) (x:=a.1.1) (y:=b.1.1) (c:=32) (d:=32) ((Rd.own (E:=27) (tot:=33) dm).pre ⟨[.int .i64 a.2],rfl⟩) ((Rd.own (E:=27) (tot:=33) bF).pre ⟨[.int .i64 b.2],rfl⟩);rw[a.1.2,b.1.2] at h1;exact h1) ?_
 refine QK.dp rfl (QK.x (Yields.ld rfl (az (j:=32) (c:=au a) (E:=27) (tot:=33) dm (vtxL_last a))) (QK.dp rfl (QK.x (Yields.ld rfl (az (j:=32) (c:=au b) (E:=27) (tot:=33) bF (vtxL_last b))) (QK.nil ?_))));change OL _ _ _ [_,_,_,_] _ _ _;refine OL.q rfl (cmpI_fc) (OL.c (OW.fl rfl) ?_);rintro _ _ ⟨r15,rfl,rfl⟩;change OL _ _ _ _ _ ([(r15,.cells (ints [Lib.compareBytes a.1.1 b.1.1,cmpI a.2 b.2]) 3 2)]::bs r3 b::bs r2 a::S) _;exact OL.q rfl (cmpOr_fc (l:=[Lib.compareBytes a.1.1 b.1.1,cmpI a.2 b.2]) (Rd.own (E:=3) (tot:=2) bF) (by simp)) (OL.n1 rfl (hK1 _ _ (PW.k1 4 rfl (PW.ret (zR rfl ⟨_,Sub.drop (Sub.drop (Sub.drop (Sub.refl _))),rfl,rfl⟩)))))
def m00 (r p n:Nat):dV:=⟨r,p,n,none,0,[],[],[],[],0⟩
theorem m00_ok (w0:World) (X:SS) (r p n:Nat):GOk w0 X (m00 r p n):=⟨fun q h=>(nomatch h),fun q h=>(nomatch h),fun q h=>(nomatch h),fun q h=>(nomatch h),Rd.nil,fun q h=>(nomatch h),Nat.le_refl _,Nat.zero_le _,List.nodup_nil,List.nodup_nil⟩
theorem new_fc {w0:World}{S X:SS}:FC prog w0 24 [] S (fun v S'=>∃m,v=m.ptr/\S'=GS m++S/\GOk w0 X m/\m.gr=⟨[],[],[]⟩/\m.lim=0):=by
 refine FC.ofD known24 (by simp) ?_
 unfold pc24;simp only[bo];refine PW.s1 rfl (PW.cD (T':=[]) trivial (PW.ae (OL.c OW.mkG ?_)));rintro _ _ ⟨r1,rfl,rfl⟩;refine OL.c OW.mkG ?_;rintro _ _ ⟨r2,rfl,rfl⟩;refine OL.x (Yields.build rfl) (OL.c (OW.bx rfl) ?_);rintro _ _ ⟨r4,rfl,rfl⟩;change OL _ _ _ _ _ ([(r4,.cells (m00 r4 r1 r2).cells 111 4)]::[(r2,.gm [])]::[(r1,.gm [])]::S) _;refine OL.n1 rfl (PW.k1 0 rfl ?_);refine PW.ret (zR rfl ?_);refine⟨_,(Sub.cons (Sub.cons (Sub.cons (Sub.cL (Sub.refl S))))).trans (Sub.ec [0,2,1] 3 (by decide) ([(r4,.cells (m00 r4 r1 r2).cells 111 4)]::[(r2,.gm [])]::[(r1,.gm [])]::S)),m00 r4 r1 r2,rfl,rfl,m00_ok _ _ _ _ _,rfl,rfl⟩
end Go.Proofs.Gr

namespace Go.Proofs.Gr
open Go.SL Go.RowKit Go.Proofs Go.GP Go.Proofs.Tryz
noncomputable def mrow (name:String):Option (Option (List FieldStep×Option (FuncId×Bool))):=(prog.info? 155).map fun i=>(i.methods.find? (·.name == name)).map fun m=>(m.path.toList,m.func)
theorem mrow_spec {name:String}{x:List FieldStep×Option (FuncId×Bool)}(h:mrow name=some (some x)):∃i m,prog.info? 155=some i/\i.methods.find? (·.name == name)=some m/\m.path.toList=x.1/\m.func=x.2:=by
 unfold mrow at h;obtain⟨i,hi,h2⟩:=Option.map_eq_some_iff.1 h;obtain⟨m,hm,h3⟩:=Option.map_eq_some_iff.1 h2;exact⟨i,m,hi,hm,congrArg Prod.fst h3,congrArg Prod.snd h3⟩
theorem fuel:∃k,prog.types.size+Made.depth=k+1:=⟨prog.types.size+Made.depth-1,by have:=tsize;omega⟩
theorem meth_ptr {w0 w:World}{S:SS}(hr:df w0 S w) {name:String}{f:FuncId}(h:mrow name=some (some ([],some (f,true)))) (v:Value):(method (prog.types.size+Made.depth) 155 v name).run prog w=.ok (f,v) w:=by
 obtain⟨i,m,h1,h2,h3,h4⟩:=mrow_spec h;obtain⟨k,hk⟩:=fuel;rw[hk];unfold method;simp only[typeInfo,program,Sem.run,h1,h2,h3,h4,follow,Sem.run_bind,Sem.run_pure,Result.andThen_ok,receiverAt,run_underlying Tryz.underlying155,Place.get]
theorem ed {w0 w:World}{S:SS}(hr:df w0 S w) {name:String}{f:FuncId}(h:mrow name=some (some ([],some (f,false)))) {a:Addr}{v:Value}(hc:Cell w0 S a v):(method (prog.types.size+Made.depth) 155 (.pointer (some a)) name).run prog w=.ok (f,v) w:=by
 obtain⟨i,m,h1,h2,h3,h4⟩:=mrow_spec h;obtain⟨k,hk⟩:=fuel;have hl:(loadVar 156 a).run prog w=.ok v w:=by
  have:=hr.cell hc
  have ha:(isAgg 156).run prog w=.ok false w:=by
   rw[dO Tryz.underlying156];rfl
  simp[loadVar,ha,load,Sem.run,this]
 have hn:(Builtin.ssaWrapNilChk_ #[155] 155 #[.pointer (some a),strVal "",strVal ((name.splitOn ".").getLastD name)]).run prog w=.ok (.pointer (some a)) w:=rfl
 have he:m.path.isEmpty=true:=by
  rw[Array.isEmpty_iff,<- Array.toList_eq_nil_iff];exact h3
 rw[hk];unfold method;simp only[typeInfo,program,Sem.run,h1,h2,h3,h4,he,if_true,follow,Sem.run_bind,Sem.run_pure,Result.andThen_ok,receiverAt,run_underlying Tryz.underlying155,Place.get];rw[hn];simp[asAddr,hl]
theorem m_len:mrow "Len"=some (some ([],some (86,false))):=by kernel_rfl
theorem m_less:mrow "Less"=some (some ([],some (150,false))):=by kernel_rfl
theorem m_swap:mrow "Swap"=some (some ([],some (153,false))):=by kernel_rfl
theorem m_push:mrow "Push"=some (some ([],some (152,true))):=by kernel_rfl
theorem m_pop:mrow "Pop"=some (some ([],some (151,true))):=by kernel_rfl
end Go.Proofs.Gr

namespace Go.Proofs.Gr
open Go.SL Go.RowKit Go.Proofs Go.GP Go.Proofs.Tryz
set_option maxHeartbeats 1000000
open Go.HP
def cy (a b:ay):Bool:=decide (ordV a b<0)
theorem vtxs_set {q:List ay}{i:Nat}(hi:i<q.length) (v:ay):setAt (aI q) (i*33) (au v)=aI (q.set i v):=by
 have hl:=bT q
 have hv:=aa v
 rw[bU _ _ _ (by omega),vtxs_take q i (by omega),hv,show i*33+33=(i+1)*33 by omega,vtxs_drop q (i+1) (by omega),List.set_eq_take_append_cons_drop,if_pos hi,dc,vtxs_cons,List.append_assoc]
theorem vtx_at! {w0:World}{S:SS}{a:Addr}{l:List ay}(h:Rd w0 S (some a) (aI l)) {k:Nat}(hk:k<l.length):∀(j:Nat) (v:Value),(au l[k]!)[j]? = some v->Cell w0 S ((a.add (k*33)).add j) v:=by
 rw[getElem!_pos l k hk];exact bS h hk
theorem wlen_fc {w0:World}{S:SS}{A:Option Addr}{n c:Nat}:FC prog w0 86 [.slice A n c] S (fun u S'=>u=.int .i64 (n:Int)/\S'=S):=by
 refine FC.of known86 (by simp) ?_
 unfold pc86;simp only[bo];exact PW.s1 rfl (PW.k1 0 rfl (PW.s3 rfl rfl rfl (PW.k1 2 rfl (PW.ret (zR rfl ⟨rfl,rfl⟩)))))
theorem wless_fc {w0:World}{S:SS}{a:Addr}{c i j:Nat}{q:List ay}(hx:Rd w0 S (some a) (aI q)) (hi:i<q.length) (hj:j<q.length):FC prog w0 150 [.slice (some a) q.length c,.int .i64 (i:Int),.int .i64 (j:Int)] S (fun u S'=>u=.bool (cy q[i]! q[j]!)/\S'=S):=by
 refine FC.of known150 (by simp) ?_
 unfold pc150;simp only[bo];refine PW.s1 rfl (PW.k3 0 1 2 rfl (PW.seq fun K1 hK1=>PW.aQ mixed (QK.p2 rfl rfl (QK.x (Yields.bO rfl rfl rfl (by omega)) (QK.x (Yields.aT rfl (cs:=au q[i]!) (aa _) (vtx_at! hx hi)) (QK.p2 rfl rfl ?_))))))
 refine QK.x (Yields.bO rfl rfl rfl (by omega)) (QK.x (Yields.aT rfl (cs:=au q[j]!) (aa _) (vtx_at! hx hj)) (QK.nil ?_))
 change OL _ _ _ [_,_,_] _ _ _;exact OL.q rfl (order_fc (a:=q[i]!) (b:=q[j]!)) (OL.n2 rfl rfl (hK1 _ _ (PW.k1 6 rfl (PW.ret (zR rfl ⟨rfl,rfl⟩)))))
theorem wswap_fc {w0:World}{S:SS}{r tot c i j k:Nat}{q:List ay}(hk:S[k]? = some [(r,.cells (aI q) 27 tot)]) (hi:i<q.length) (hj:j<q.length):FC prog w0 153 [.slice (some ⟨r,0,none⟩) q.length c,.int .i64 (i:Int),.int .i64 (j:Int)] S (fun u S'=>u=.tuple #[]/\S'=S.set k [(r,.cells (aI (dR q i j)) 27 tot)]):=by
 have hx:Rd w0 S (some ⟨r,0,none⟩) (aI q):=Rd.own (mem_at hk)
 have hkl:k<S.length:=(List.getElem?_eq_some_iff.1 hk).1
 refine FC.of known153 (by simp) ?_
 unfold pc153;simp only[bo];refine PW.aQ mixed (QK.p4 rfl rfl rfl rfl (QK.p2 rfl rfl (QK.x (Yields.bO rfl rfl rfl (by omega)) (QK.x (Yields.aT rfl (cs:=au q[j]!) (aa _) (vtx_at! hx hj)) (QK.p2 rfl rfl (QK.x (Yields.bO rfl rfl rfl (by omega)) ?_))))))
 refine QK.x (Yields.aT rfl (cs:=au q[i]!) (aa _) (vtx_at! hx hi)) (QK.nil ?_);change OL _ _ _ [_,_,_,_] _ _ _;refine OL.x (Yields.ixO rfl rfl rfl hi) ?_;refine OL.c (OW.st (k:=k) (c:=aI q) (u:=aP q[j]!) rfl rfl hk ((List.size_toArray).trans (aa _)) (by rw[bT];omega) (bL _)) ?_
 rintro _ _ rfl;rw[bB,vtxs_set hi];refine OL.x (Yields.ixO rfl rfl rfl hj) ?_;refine OL.c (OW.st (k:=k) (c:=aI (q.set i q[j]!)) (u:=aP q[i]!) rfl rfl (by rw[List.getElem?_set_self hkl]) ((List.size_toArray).trans (aa _)) (by rw[bT];rw[List.length_set];omega) (bL _)) ?_
 rintro _ _ rfl;rw[bB,vtxs_set (by rw[List.length_set];exact hj)]
 rw[List.set_set];refine OL.nil ?_;change(Exit.normal=Exit.normal∨Exit.normal=Exit.ret)/\∃v,resV _ _=some v/\_;exact⟨.inl rfl,_,rfl,rfl,rfl⟩
end Go.Proofs.Gr
