/- Walks. -/
import Derived.Test.YtbejcoeajlhmcaaGreatPart4
import Derived.Shelf.SlSortCmp.NoneTotal
import Derived.Shelf.SlicesG.Cmp
import Derived.Ground.SlsfProg
import Derived.Ground.SlgcProg
import Derived.WalkKit
import Derived.Test.YtbejcoeajlhmcaaGreatChecked
import Derived.Laws.Externs
set_option linter.unusedVariables false
set_option linter.unusedSimpArgs false
set_option linter.unusedSectionVars false

namespace Go.Proofs.Gr
open Go.SL Go.RowKit Go.Proofs Go.GP Go.Proofs.Tryz
set_option maxHeartbeats 1000000
theorem vtxs_snoc' {v:Value}{l:List ay}{x:ay}{seg:bD}(h:aV 27 33 v (l.length+1) (aI l++au x) seg):aV 27 33 v (l++[x]).length (aI (l++[x])) seg:=by
 rw[List.length_append,dc];have:aI [x] = au x:=by simp[aI]
 rw[this];exact h
theorem appVs {P:Program}{w0:World}{n:Nat}{T:TT}{S:SS}{k m q c:Nat}{z v:Value}{s x:PV}{A:Option Addr}{xs l:List ay}{seg:bD}(hs':s.val T=some v) (hk:S[k]? = some seg) (hv:aV 27 33 v m (aI xs) seg)
  (hx:x.val T=some (.slice A q c)) (hm:xs.length=m) (hq:l.length=q) (hrd:Rd w0 S A (aI l)) (hc:A=none->c=0) (hb:m+q<=100000000) :
  OW P w0 n (.app 44 27 33 40 z s x) T S (fun v' S'=>∃seg',S'=S.set k seg'/\aV 27 33 v' (xs++l).length (aI (xs++l)) seg'):=by
 have h:=OW.appL (P:=P) (w0:=w0) (n:=n) (t:=44) (z:=z) (bytes:=40) hs' hk hv hx (by rw[bT,hq]) hrd (by decide) hc (vtxs_one l) (by omega) (by unfold maxLen;omega)
 rw[<- dc] at h;rw[List.length_append,hm,hq];exact h
theorem own_take (p:ar) (k:Nat) (hk:k<p.lines.length):(own p).take (k+1)=(own p).take k++[p.vtx k]:=by
 have hl:=eE p
 rw[aA (by omega)]
 congr 2;simp[own]
theorem rOwn_fc {w0:World}{S:SS}{p:aN}(hp:PartR p):FC prog w0 59 [fz p] S (fun v S'=>∃seg,S'=seg::S/\aV 27 33 v (own p.pl).length (aI (own p.pl)) seg):=by
 have hpl:=hp.lines
 have hpf:=hp.first
 have hol:(own p.pl).length=p.lines.length:=eE p.pl
 refine FC.ofD known59 (by simp) ?_
 unfold pc59;simp only[bo];refine PW.ae (OL.c (OW.bx rfl) ?_);rintro _ _ ⟨r1,rfl,rfl⟩;rw[fj,bm];refine OL.n1 rfl (PW.k1 1 rfl (PW.s1 rfl (PW.k2 1 3 rfl (PW.seq fun K1 hK1=>PW.ae (OL.bZ (S':=[]::[(r1,.cells (bG p) 66 102)]::S) (Sub.cL (Sub.refl _)) (OL.n1 rfl ?_))))))
 refine PW.k3 1 3 4 rfl (PW.block (PW.k3 1 3 4 rfl ?_));refine PW.aR (I:=fun mm T S'=>∃(k:Nat) (vo:Value) (sgo:bD),(k<=p.lines.length/\mm=p.lines.length-k/\((own p.pl).take k).length=k/\aV 27 33 vo ((own p.pl).take k).length (aI ((own p.pl).take k)) sgo)/\T=([(1,.pointer (some ⟨r1,0,none⟩)),(3,vo),(4,.int .i64 k)]:TT)/\S'=sgo::[(r1,.cells (bG p) 66 102)]::S) (m:=p.lines.length) ⟨0,_,[],⟨by omega,by omega,rfl,aV.nil 27 33⟩,rfl,rfl⟩ ?_
 rintro mm _ _ ⟨k,vo,sgo,⟨hk,hmm,hkt,hso⟩,rfl,rfl⟩;refine PW.seq fun K2 hK2=>PW.ae (OL.p2 rfl rfl (OL.x (Yields.ld rfl (fp (p:=p) (E:=66) (tot:=102) dm)) (OL.n2 rfl rfl (PW.k4 1 3 4 9 rfl ?_))))
 refine PW.cond rfl (fun c9=>?_) (fun c9=>?_)
 ·try simp only[aD] at c9
  refine PW.skip (hK2 _ _ (PW.k3 1 3 4 rfl (PW.seq fun K3 hK3=>PW.block (PW.ops (OL.p2 rfl rfl (OL.x (Yields.aT rfl (cz _) (part_patch (p:=p) (E:=66) (tot:=102) dm)) (OL.dp rfl (OL.x (Yields.ld rfl (part_first (p:=p) (E:=66) (tot:=102) dm)) (OL.dp rfl ?_)))))))))
  refine OL.x (Yields.ao rfl rfl (by omega) (by omega)) (OL.x (Yields.build (fill_vtx rfl rfl)) ?_)
  apply OL.bV (k:=0)
  ·rfl
  ·rfl
  ·exact(List.size_toArray).trans (aa _)
  ·rfl
  ·rfl
  ·rfl
  ·exact hso
  ·exact bL _
  ·omega
  ·unfold maxLen;omega
  intro v21 seg21 hsl21;refine OL.n1 rfl (hK3 _ _ (PW.k3 1 3 4 rfl (PW.ops (OL.dp rfl (OL.x (Yields.ao rfl rfl (by omega) (by omega)) (OL.n1 rfl ?_))))))
  refine af.mk (T'':=[(1,_),(3,_),(4,_)]) (wi rfl) ?_;have hts:=own_take p.pl k (show k<p.lines.length by omega)
  exact⟨p.lines.length-(k+1),by omega,k+1,_,seg21,⟨by omega,rfl,by rw[hts,List.length_append,hkt];rfl,by rw[hts];exact vtxs_snoc' hsl21⟩,rfl,rfl⟩
 try simp only[aD] at c9
 refine PW.exit (hK1 _ _ (PW.k1 3 rfl (PW.s2 rfl rfl (PW.k1 2 rfl ?_))));refine PW.ret (zR rfl ?_);have hke:k=(own p.pl).length:=by omega
 rw[hke,List.take_length] at hso;exact⟨_,Sub.cons (Sub.drop (Sub.refl _)),sgo,rfl,hso⟩
theorem allV_take {l:List aN}{k:Nat}(hk:k<l.length):bh (bW (l.take (k+1)))=bh (bW (l.take k))++own l[k].pl:=by
 unfold bW;rw[aA hk,List.map_append,allV_app];simp[bh]
theorem allV_len {l:List aN}(h:∀p∈l,p.lines.length<=100):∀k,k<=l.length->(bh (bW (l.take k))).length<=100*k
 |0,_=>by simp[bW,bh]
 |k+1,hk=>by
  rw[allV_take (by omega),List.length_append,eE]
  have h1:=allV_len h k (by omega)
  have h2:=h _ (List.getElem_mem (show k<l.length by omega))
  have:l[k].pl.lines.length=l[k].lines.length:=rfl
  omega
structure du (w0:World) (S:SS) (A:Option Addr) (l:List aN):Prop where
 rd:Rd w0 S A (dL l)
 part:∀p∈l,PartRd w0 S p
 len:l.length<=1000
theorem du.mono {w0:World}{S S':SS}{A:Option Addr}{l:List aN}(h:du w0 S A l) (hs:Over S S'):du w0 S' A l:=⟨h.rd.mono hs,fun p hp=>(h.part p hp).mono hs,h.len⟩
theorem du.cons {w0:World}{S:SS}{s:bD}{A:Option Addr}{l:List aN}(h:du w0 S A l):du w0 (s::S) A l:=h.mono (Over.refl S).cons
theorem rAll_fc {w0:World}{S:SS}{A:Option Addr}{c:Nat}{l:List aN}(h:du w0 S A l):FC prog w0 58 [.slice A l.length c] S (fun v S'=>∃seg,S'=seg::S/\aV 27 33 v (bh (bW l)).length (aI (bh (bW l))) seg):=by
 have hpl:=allV_len fun p hp=>(h.part p hp).small.1
 have hll:=h.len
 have hrd:=h.rd
 refine FC.ofD known58 (by simp) ?_
 unfold pc58;simp only[bo];refine PW.s1 rfl (PW.k1 0 rfl (PW.s1 rfl (PW.k2 0 3 rfl (PW.seq fun K1 hK1=>PW.ae (OL.bZ (S':=[]::S) (Sub.cL (Sub.refl _)) (OL.dp rfl ?_))))))
 refine OL.nil (PW.k3 0 3 4 rfl (PW.block (PW.k3 0 3 4 rfl ?_)));refine PW.aR (I:=fun mm T S'=>∃(k:Nat) (vo:Value) (sgo:bD),(k<=l.length/\mm=l.length-k/\aV 27 33 vo (bh (bW (l.take k))).length (aI (bh (bW (l.take k)))) sgo)/\T=([(0,.slice A l.length c),(3,vo),(4,.int .i64 k)]:TT)/\S'=sgo::S) (m:=l.length) ⟨0,_,[],⟨by omega,by omega,aV.nil 27 33⟩,rfl,rfl⟩ ?_
 rintro mm _ _ ⟨k,vo,sgo,⟨hk,hmm,hso⟩,rfl,rfl⟩;refine PW.seq fun K2 hK2=>PW.s4 rfl rfl rfl rfl (PW.k4 0 3 4 8 rfl ?_)
 refine PW.cond rfl (fun c8=>?_) (fun c8=>?_)
 ·try simp only[aD] at c8
  have hkl:k<l.length:=by omega
  obtain⟨a0,rfl⟩:=partS_some hrd (by omega)
  have hpk:=hpl k (by omega)
  have hpk2:=(h.part _ (List.getElem_mem hkl)).small.1
  refine PW.skip (hK2 _ _ (PW.k3 0 3 4 rfl (PW.seq fun K3 hK3=>PW.block (PW.ops (OL.p3 rfl rfl rfl (OL.x (Yields.bO rfl rfl rfl hkl) (OL.x (Yields.aT rfl (bm _) (eL hrd.cons hkl)) (OL.l rfl (rOwn_fc (h.part _ (List.getElem_mem hkl)).rng) ?_))))))))
  rintro _ _ ⟨seg16,rfl,hsl16⟩;obtain⟨A16,c16,rfl,hn16,hc16,hr16⟩:=aF (w0:=w0) hsl16;refine OL.c (appVs (k:=1) rfl rfl hso rfl rfl rfl (hr16 _) hn16 (by rw[eE];show _+l[k].lines.length<=_;omega)) ?_
  rintro v17 _ ⟨seg17,rfl,hsl17⟩;refine OL.n1 rfl (hK3 _ _ (PW.k3 0 3 4 rfl (PW.ops (OL.dp rfl (OL.x (Yields.ao rfl rfl (by omega) (by omega)) (OL.n1 rfl ?_))))))
  refine af.dE (Sub.drop (Sub.refl _)) (T'':=[(0,_),(3,_),(4,_)]) (wi rfl) ?_;exact⟨l.length-(k+1),by omega,k+1,v17,seg17,⟨by omega,rfl,by rw[allV_take hkl];exact hsl17⟩,rfl,rfl⟩
 try simp only[aD] at c8
 refine PW.exit (hK1 _ _ (PW.k1 3 rfl (PW.s2 rfl rfl (PW.k1 2 rfl ?_))));refine PW.ret (zR rfl ?_);have hke:k=l.length:=by omega
 rw[hke,List.take_length] at hso;exact⟨_,Sub.refl _,sgo,rfl,hso⟩
theorem rHas_fc {w0:World}{S:SS}{A:Option Addr}{c:Nat}{l:List ay}{v:ay}(hx:Rd w0 S A (aI l)) (hb:l.length<=1000000000):FC prog w0 60 [.slice A l.length c,aP v] S (fun u S'=>u=.bool (decide (v∈l))/\S'=S):=by
 refine FC.ofD known60 (by simp) ?_
 unfold pc60;simp only[bo];refine PW.ae (OL.c (OW.bx rfl) ?_);rintro _ _ ⟨r3,rfl,rfl⟩;rw[bB,aa];refine OL.n1 rfl (PW.k2 0 3 rfl (PW.seq fun K1 hK1=>PW.s1 rfl (PW.k3 0 3 5 rfl (PW.block (PW.k3 0 3 5 rfl ?_)))))
 refine PW.aR (I:=fun mm T S'=>∃(k:Nat),(k<=l.length/\mm=l.length-k/\v∉l.take k)/\T=([(0,.slice A l.length c),(3,.pointer (some ⟨r3,0,none⟩)),(5,.int .i64 k)]:TT)/\S'=bs r3 v::S) (m:=l.length) ⟨0,⟨by omega,by omega,by simp⟩,rfl,rfl⟩ ?_
 rintro mm _ _ ⟨k,⟨hk,hmm,hall⟩,rfl,rfl⟩;refine PW.seq fun K2 hK2=>PW.s4 rfl rfl rfl rfl (PW.k4 0 3 5 9 rfl ?_)
 refine PW.cond rfl (fun c9=>?_) (fun c9=>?_)
 ·try simp only[aD] at c9
  have hkl:k<l.length:=by omega
  obtain⟨a0,rfl⟩:=bE hx (by omega)
  refine PW.skip (hK2 _ _ (PW.k3 0 3 5 rfl (PW.seq fun K3 hK3=>PW.block (PW.seq fun K4 hK4=>PW.aQ mixed (QK.p2 rfl rfl (QK.x (Yields.bO rfl rfl rfl hkl) (QK.x (Yields.aT rfl (aa _) (bS hx.cons hkl)) (QK.x (Yields.aT rfl (aa _) (av bF)) ?_))))))))
  refine QK.nil ?_;change OL _ _ _ [_] _ _ _;refine OL.x (Yields.eb (neg:=false) rfl rfl (aO _ _)) (OL.nil (hK4 _ _ (PW.k4 0 3 5 17 rfl ?_)));refine PW.cond rfl (fun c17=>?_) (fun c17=>?_)
  ·try simp only[aD] at c17
   exact PW.s1 rfl (PW.k1 4 rfl (PW.ret (zR rfl ⟨_,Sub.drop (Sub.refl _),congrArg Value.bool (decide_eq_true (by rw[<- c17];exact List.getElem_mem _)).symm,rfl⟩)))
  try simp only[aD] at c17
  refine PW.skip (hK3 _ _ (PW.k3 0 3 5 rfl (PW.ops (OL.dp rfl (OL.x (Yields.ao rfl rfl (by omega) (by omega)) (OL.n1 rfl ?_))))))
  refine af.mk (T'':=[(0,_),(3,_),(5,_)]) (wi rfl) ?_;refine⟨l.length-(k+1),by omega,k+1,⟨by omega,rfl,fun hm=>?_⟩,rfl,rfl⟩
  rw[vtake_snoc hkl] at hm;rcases List.mem_append.1 hm with h|h
  ·exact hall h
  rw[List.mem_singleton] at h;exact c17 h.symm
 try simp only[aD] at c9
 exact PW.exit (hK1 _ _ (PW.cD (T':=[]) trivial (PW.s1 rfl (PW.k1 4 rfl (PW.ret (zR rfl ⟨_,Sub.drop (Sub.refl _),congrArg Value.bool (decide_eq_false (by have:k=l.length:=(by omega);rw[this,List.take_length] at hall;exact hall)).symm,rfl⟩))))))
theorem dI {w0:World}{S:SS}:FC prog w0 61 [] S (fun v S'=>v=aP bQ/\S'=S):=by
 refine FC.ofC known61 (by simp) ?_
 unfold pc61;simp only[bo];refine PW.ae (OL.c OW.al ?_);rintro _ _ ⟨r0,rfl,rfl⟩;refine OL.nil (PW.k1 0 rfl (PW.ae (OL.x (Yields.build rfl) ?_)));refine OL.c (OW.st (k:=0) rfl rfl rfl rfl (by first|decide|(simp;done)|(simp;omega)) (by first|rfl|simp)) ?_
 rintro _ _ rfl;refine OL.nil (PW.k1 0 rfl (PW.ret ?_));exact⟨.inr rfl,_,_,rfl,vtx_read (r:=r0) (v:=bQ) (E:=27) (tot:=33) (List.Mem.head _),_,Sub.drop (Sub.refl _),rfl,rfl⟩
theorem de {w0:World}{S:SS}:FC prog w0 62 [] S (fun v S'=>v=aP aU/\S'=S):=by
 refine FC.ofC known62 (by simp) ?_
 unfold pc62;simp only[bo];refine PW.ae (OL.c OW.al ?_);rintro _ _ ⟨r0,rfl,rfl⟩;refine OL.nil (PW.k1 0 rfl (PW.ae (OL.x (Yields.build rfl) ?_)));refine OL.c (OW.st (k:=0) rfl rfl rfl rfl (by first|decide|(simp;done)|(simp;omega)) (by first|rfl|simp)) ?_
 rintro _ _ rfl;refine OL.nil (PW.k1 0 rfl (PW.ret ?_));exact⟨.inr rfl,_,_,rfl,vtx_read (r:=r0) (v:=aU) (E:=27) (tot:=33) (List.Mem.head _),_,Sub.drop (Sub.refl _),rfl,rfl⟩
def bI (E:List (ay×ay)):List ay:=E.flatMap fun e=>[e.1,e.2]
theorem pairs_app (a b:List (ay×ay)):bI (a++b)=bI a++bI b:=by unfold bI;rw[List.flatMap_append]
theorem pairs_len (E:List (ay×ay)):(bI E).length=2*E.length:=by
 unfold bI
 induction E with
 |nil=>rfl
 |cons e E ih=>rw[List.flatMap_cons,List.length_append,ih];simp only[List.length_cons,List.length_nil];omega
theorem pairs_get:∀{E:List (ay×ay)}{k:Nat}(hk:k<E.length),(bI E)[2*k]? = some E[k].1/\(bI E)[2*k+1]? = some E[k].2
 |e::E,0,_=>⟨rfl,rfl⟩
 |e::E,k+1,hk=>by
  have:=pairs_get (E:=E) (k:=k) (by simpa using hk)
  exact⟨by rw[show 2*(k+1)=2*k+2 by omega];exact this.1,by rw[show 2*(k+1)+1=2*k+1+2 by omega];exact this.2⟩
section
variable {w0:World}{S:SS}{a:Addr}{l:List aN}{k:Nat}
theorem partS_up (h:Rd w0 S (some a) (dL l)) (hk:k<l.length):∀(j:Nat) (v:Value),(au l[k].up)[j]? = some v->Cell w0 S (((a.add (k*102)).add 34).add j) v:=by
 intro j v hj;have hj2:=(List.getElem?_eq_some_iff.1 hj).1
 have h1:=cz l[k].patch
 have h2:=aa l[k].up
 rw[aZ (a.add (k*102))];refine eL h hk (34+j) v ?_;rw[da,List.getElem?_append_right (by omega),h1,List.getElem?_append_right (by simp only[List.length_cons,List.length_nil];omega),List.getElem?_append_right (by simp only[List.length_cons,List.length_nil];omega),List.getElem?_append_left (by simp only[List.length_cons,List.length_nil];omega)]
 rw[<- hj];congr 1;simp only[List.length_cons,List.length_nil];omega
theorem partS_down (h:Rd w0 S (some a) (dL l)) (hk:k<l.length):∀(j:Nat) (v:Value),(au l[k].down)[j]? = some v->Cell w0 S (((a.add (k*102)).add 67).add j) v:=by
 intro j v hj;have hj2:=(List.getElem?_eq_some_iff.1 hj).1
 have h1:=cz l[k].patch
 have h2:=aa l[k].up
 have h3:=aa l[k].down
 rw[aZ (a.add (k*102))];refine eL h hk (67+j) v ?_;rw[da,List.getElem?_append_right (by omega),h1,List.getElem?_append_right (by simp only[List.length_cons,List.length_nil];omega),List.getElem?_append_right (by simp only[List.length_cons,List.length_nil];omega),List.getElem?_append_right (by simp only[List.length_cons,List.length_nil];omega),h2,List.getElem?_append_left (by simp only[List.length_cons,List.length_nil];omega)]
 rw[<- hj];congr 1;simp only[List.length_cons,List.length_nil];omega
end
theorem way_own {p:ar}{i:Nat}(hi:i<(own p).length) (h:i+1<(way p).length):(way p)[i+1] = (own p)[i]:=by
 show(own p++[p.down])[i]'_=_
 exact List.getElem_append_left hi
theorem way_down {p:ar}(h:(own p).length+1<(way p).length):(way p)[(own p).length+1] = p.down:=by
 show(own p++[p.down])[(own p).length]'_=_
 rw[List.getElem_append_right (Nat.le_refl _)];simp
theorem allE_take {l:List aN}{k:Nat}(hk:k<l.length):cN (bW (l.take (k+1)))=cN (bW (l.take k))++dB l[k].pl:=by
 unfold bW cN;rw[aA hk,List.map_append,List.flatMap_append];simp
theorem pairs_snoc {l:List ay}{i:Nat}(h:i+1<l.length):bI ((dx l).take (i+1))=bI ((dx l).take i)++[l[i],l[i+1]]:=by
 rw[edgeL_take h,pairs_app];rfl
theorem edges_own (p:ar) (h:0<(own p).length):dB p=(dx (way p)).take ((own p).length+1):=by
 unfold dB;rw[if_neg (by rw[eE] at h;omega),List.take_of_length_le (by rw[edgeL_len,way_len,eE];omega)]
theorem edges_none (p:ar) (h:(own p).length=0):dB p=[]:=by
 unfold dB;rw[if_pos (by rw[eE] at h;exact h)]
theorem rEdges_fc {w0:World}{S:SS}{A:Option Addr}{c:Nat}{l:List aN}(h:du w0 S A l):FC prog w0 95 [.slice A l.length c] S (fun v S'=>∃seg,S'=seg::S/\aV 27 33 v (bI (cN (bW l))).length (aI (bI (cN (bW l)))) seg):=by
 have hll:=h.len
 have hrd:=h.rd
 refine FC.ofD known95 (by simp) ?_
 unfold pc95;simp only[bo];refine PW.s1 rfl (PW.k1 0 rfl (PW.s1 rfl (PW.k2 0 3 rfl (PW.seq fun K1 hK1=>PW.ae (OL.bZ (S':=[]::S) (Sub.cL (Sub.refl _)) (OL.dp rfl ?_))))))
 refine OL.nil (PW.k3 0 3 4 rfl (PW.block (PW.k3 0 3 4 rfl ?_)));refine PW.aR (I:=fun mm T S'=>∃(k:Nat) (vo:Value) (sgo:bD),(k<=l.length/\mm=l.length-k/\aV 27 33 vo (bI (cN (bW (l.take k)))).length (aI (bI (cN (bW (l.take k))))) sgo/\(bI (cN (bW (l.take k)))).length<=202*k)/\T=([(0,.slice A l.length c),(3,vo),(4,.int .i64 k)]:TT)/\S'=sgo::S) (m:=l.length) ⟨0,_,[],⟨by omega,by omega,aV.nil 27 33,Nat.le_refl 0⟩,rfl,rfl⟩ ?_
 rintro mm _ _ ⟨k,vo,sgo,⟨hk,hmm,hso,hbo⟩,rfl,rfl⟩;refine PW.seq fun K2 hK2=>PW.s4 rfl rfl rfl rfl (PW.k4 0 3 4 10 rfl ?_)
 refine PW.cond rfl (fun c10=>?_) (fun c10=>?_)
 ·try simp only[aD] at c10
  have hkl:k<l.length:=by omega
  obtain⟨a0,rfl⟩:=partS_some hrd (by omega)
  have hpk:=hbo
  have hpk2:=(h.part _ (List.getElem_mem hkl)).small.1
  have hol:(own l[k].pl).length=l[k].lines.length:=eE l[k].pl
  have hwl:(way l[k].pl).length=l[k].lines.length+2:=way_len l[k].pl
  refine PW.skip (hK2 _ _ (PW.k3 0 3 4 rfl (PW.seq fun K3 hK3=>PW.block (PW.ae (OL.p2 rfl rfl (OL.x (Yields.bO rfl rfl rfl hkl) (OL.x (Yields.aT rfl (bm _) (eL hrd.cons hkl)) (OL.l rfl (rOwn_fc (h.part _ (List.getElem_mem hkl)).rng) ?_))))))))
  rintro _ _ ⟨seg17,rfl,hsl17⟩;obtain⟨Aw,cw,rfl,hnw,hcw,hrw⟩:=aF (w0:=w0) hsl17;obtain⟨pre,hpre⟩:∃z,z=bI (cN (bW (l.take k))):=⟨_,rfl⟩;rw[<- hpre] at hso hpk;refine OL.n1 rfl (PW.k4 0 3 4 5 rfl (PW.seq fun K4 hK4=>PW.s1 rfl (PW.k5 0 3 4 5 6 rfl (PW.block (PW.k5 0 3 4 5 6 rfl ?_)))))
  refine PW.aR (I:=fun mi T S'=>∃(i:Nat) (vi:Value) (sgi:bD),(i<=(own l[k].pl).length/\mi=(own l[k].pl).length-i/\aV 27 33 vi (pre++bI ((dx (way l[k].pl)).take i)).length (aI (pre++bI ((dx (way l[k].pl)).take i))) sgi)/\T=([(0,.slice (some a0) l.length c),(3,vi),(4,.int .i64 k),(5,.slice Aw (own l[k].pl).length cw),(6,.int .i64 i)]:TT)/\S'=seg17::sgi::S) (m:=(own l[k].pl).length) ⟨0,_,_,⟨by omega,by omega,by simpa[bI] using hso⟩,rfl,rfl⟩ ?_
  rintro mi _ _ ⟨i,vi,sgi,⟨hi,hmi,hsi⟩,rfl,rfl⟩;refine PW.seq fun K5 hK5=>PW.s4 rfl rfl rfl rfl (PW.k6 0 3 4 5 6 21 rfl ?_)
  refine PW.cond rfl (fun c21=>?_) (fun c21=>?_)
  ·try simp only[aD] at c21
   have hil:i<(own l[k].pl).length:=by omega
   obtain⟨w1,rfl⟩:=bE (hrw []) (by omega)
   have hrw2:=hrw (sgi::S)
   have hps:=pairs_snoc (l:=way l[k].pl) (i:=i) (by omega)
   rw[way_own hil (by omega)] at hps
   have hpt:(bI ((dx (way l[k].pl)).take i)).length<=2*i:=by rw[pairs_len,List.length_take];omega
   refine PW.skip (hK5 _ _ (PW.k5 0 3 4 5 6 rfl (PW.seq fun K6 hK6=>PW.block (PW.s2 rfl rfl (PW.k6 0 3 4 5 6 25 rfl ?_)))))
   refine PW.cond rfl (fun c25=>?_) (fun c25=>?_)
   ·try simp only[aD] at c25
    have hi0:i=0:=by omega
    refine PW.aQ mixed (QK.p3 rfl rfl rfl (QK.x (Yields.bO rfl rfl rfl hkl) (QK.dp rfl (QK.x (Yields.aT rfl (aa _) (partS_up hrd.cons.cons hkl)) (QK.dp rfl (QK.x (Yields.bO (j:=0) rfl rfl rfl (by omega)) (QK.x (Yields.aT rfl (aa _) (bS (k:=0) hrw2 (by omega))) (QK.nil ?_))))))))
    change OL _ _ _ [_,_,_] _ _ _;refine OL.c (OW.fl (cs:=aI [l[k].up,(own l[k].pl)[0]'(by omega)]) (fill_two rfl rfl rfl)) ?_
    rintro _ _ ⟨r35,rfl,rfl⟩;refine OL.c (appVs (k:=2) (xs:=pre++bI ((dx (way l[k].pl)).take i)) (l:=[l[k].up,(own l[k].pl)[0]'(by omega)]) rfl rfl hsi rfl rfl rfl (Rd.own (E:=27) bF) (fun h=>by cases h) (by rw[List.length_append];show _+_+2<=_;omega)) ?_
    rintro v36 _ ⟨sg36,rfl,hs36⟩;refine OL.n1 rfl (hK6 _ _ (PW.k5 0 3 4 5 6 rfl (PW.ops (OL.dp rfl (OL.x (Yields.ao rfl rfl (by omega) (by omega)) (OL.n1 rfl ?_))))))
    refine af.dE (Sub.drop (Sub.refl _)) (T'':=[(0,_),(3,_),(4,_),(5,_),(6,_)]) (wi rfl) ?_;have he:pre++bI ((dx (way l[k].pl)).take (i+1))=pre++bI ((dx (way l[k].pl)).take i)++[l[k].up,(own l[k].pl)[0]'(by omega)]:=by
     subst hi0;rw[hps,List.append_assoc];rfl
    exact⟨(own l[k].pl).length-(i+1),by omega,i+1,_,sg36,⟨by omega,rfl,by rw[he];exact hs36⟩,rfl,rfl⟩
   try simp only[aD] at c25
   refine PW.aQ mixed (QK.p3 rfl rfl rfl (QK.x (Yields.cH rfl rfl (by omega) (by omega)) (QK.x (Yields.bO (j:=i-1) rfl rfl (by omega) (by omega)) (QK.x (Yields.aT rfl (aa _) (bS (k:=i-1) hrw2 (by omega))) (QK.p2 rfl rfl (QK.x (Yields.bO (j:=i) rfl rfl rfl hil) (QK.x (Yields.aT rfl (aa _) (bS (k:=i) hrw2 hil)) (QK.nil ?_))))))))
   change OL _ _ _ [_,_,_] _ _ _;refine OL.c (OW.fl (cs:=aI [(own l[k].pl)[i-1]'(by omega),(own l[k].pl)[i]]) (fill_two rfl rfl rfl)) ?_
   rintro _ _ ⟨r47,rfl,rfl⟩;refine OL.c (appVs (k:=2) (xs:=pre++bI ((dx (way l[k].pl)).take i)) (l:=[(own l[k].pl)[i-1]'(by omega),(own l[k].pl)[i]]) rfl rfl hsi rfl rfl rfl (Rd.own (E:=27) bF) (fun h=>by cases h) (by rw[List.length_append];show _+_+2<=_;omega)) ?_
   rintro v48 _ ⟨sg48,rfl,hs48⟩;refine OL.n1 rfl (hK6 _ _ (PW.k5 0 3 4 5 6 rfl (PW.ops (OL.dp rfl (OL.x (Yields.ao rfl rfl (by omega) (by omega)) (OL.n1 rfl ?_))))))
   refine af.dE (Sub.drop (Sub.refl _)) (T'':=[(0,_),(3,_),(4,_),(5,_),(6,_)]) (wi rfl) ?_;have he:pre++bI ((dx (way l[k].pl)).take (i+1))=pre++bI ((dx (way l[k].pl)).take i)++[(own l[k].pl)[i-1]'(by omega),(own l[k].pl)[i]]:=by
    rw[hps,List.append_assoc];congr 2;have:=way_own (p:=l[k].pl) (i:=i-1) (by omega) (by omega)
    rw[<- this];have e:∀(n:Nat) (h:n<(way l[k].pl).length),n=i->(way l[k].pl)[n] = (way l[k].pl)[i]'(by omega):=fun n h e=>by subst e;rfl
    rw[e (i-1+1) (by omega) (by omega)]
   exact⟨(own l[k].pl).length-(i+1),by omega,i+1,_,sg48,⟨by omega,rfl,by rw[he];exact hs48⟩,rfl,rfl⟩
  try simp only[aD] at c21
  refine PW.exit (hK4 _ _ (PW.k4 0 3 4 5 rfl (PW.s3 rfl rfl rfl (PW.k5 0 3 4 5 51 rfl ?_))));refine PW.cond rfl (fun c51=>?_) (fun c51=>?_)
  ·try simp only[aD] at c51
   have hie:i=(own l[k].pl).length:=by omega
   obtain⟨w1,rfl⟩:=bE (hrw []) (by omega)
   have hrw2:=hrw (sgi::S)
   have hps:=pairs_snoc (l:=way l[k].pl) (i:=i) (by omega)
   have hpt:(bI ((dx (way l[k].pl)).take i)).length<=2*i:=by rw[pairs_len,List.length_take];omega
   refine PW.aQ mixed (QK.p4 rfl rfl rfl rfl (QK.x (Yields.cH rfl rfl (by omega) (by omega)) (QK.x (Yields.bO (j:=(own l[k].pl).length-1) rfl rfl (by omega) (by omega)) (QK.x (Yields.aT rfl (aa _) (bS (k:=(own l[k].pl).length-1) hrw2 (by omega))) (QK.p2 rfl rfl (QK.x (Yields.bO rfl rfl rfl hkl) (QK.dp rfl ?_)))))))
   refine QK.x (Yields.aT rfl (aa _) (partS_down hrd.cons.cons hkl)) (QK.nil ?_);change OL _ _ _ [_,_,_] _ _ _;refine OL.c (OW.fl (cs:=aI [(own l[k].pl)[(own l[k].pl).length-1]'(by omega),l[k].down]) (fill_two rfl rfl rfl)) ?_
   rintro _ _ ⟨r64,rfl,rfl⟩;refine OL.c (appVs (k:=2) (xs:=pre++bI ((dx (way l[k].pl)).take i)) (l:=[(own l[k].pl)[(own l[k].pl).length-1]'(by omega),l[k].down]) rfl rfl hsi rfl rfl rfl (Rd.own (E:=27) bF) (fun h=>by cases h) (by rw[List.length_append];show _+_+2<=_;omega)) ?_
   rintro v65 _ ⟨sg65,rfl,hs65⟩;refine OL.n1 rfl (hK3 _ _ (PW.k3 0 3 4 rfl (PW.ops (OL.dp rfl (OL.x (Yields.ao rfl rfl (by omega) (by omega)) (OL.n1 rfl ?_))))))
   refine af.dE (Sub.drop (Sub.drop (Sub.refl _))) (T'':=[(0,_),(3,_),(4,_)]) (wi rfl) ?_;have he:bI (cN (bW (l.take (k+1))))=pre++bI ((dx (way l[k].pl)).take i)++[(own l[k].pl)[(own l[k].pl).length-1]'(by omega),l[k].down]:=by
    have hE:(dx (way l[k].pl)).take ((own l[k].pl).length+1)=(dx (way l[k].pl)).take (i+1):=by rw[hie]
    rw[allE_take hkl,pairs_app,<- hpre,edges_own _ (by omega),hE,hps,List.append_assoc]
    congr 2;have e1:(way l[k].pl)[i]'(by omega)=(own l[k].pl)[(own l[k].pl).length-1]'(by omega):=by
     have:=way_own (p:=l[k].pl) (i:=(own l[k].pl).length-1) (by omega) (by omega)
     rw[<- this];congr 1;omega
    have e2:(way l[k].pl)[i+1]'(by omega)=l[k].down:=by
     subst hie;exact way_down (p:=l[k].pl) (by omega)
    rw[e1,e2]
   exact⟨l.length-(k+1),by omega,k+1,_,sg65,⟨by omega,rfl,by rw[he];exact hs65,by rw[he,List.length_append,List.length_append];simp only[List.length_cons,List.length_nil];omega⟩,rfl,rfl⟩
  try simp only[aD] at c51
  refine PW.skip (hK3 _ _ (PW.k3 0 3 4 rfl (PW.ops (OL.dp rfl (OL.x (Yields.ao rfl rfl (by omega) (by omega)) (OL.n1 rfl ?_))))))
  refine af.dE (Sub.drop (Sub.refl _)) (T'':=[(0,_),(3,_),(4,_)]) (wi rfl) ?_;have hz0:(own l[k].pl).length=0:=by omega
  have he:bI (cN (bW (l.take (k+1))))=pre++bI ((dx (way l[k].pl)).take i):=by
   rw[allE_take hkl,pairs_app,<- hpre,edges_none _ hz0,show i=0 by omega]
   rfl
  exact⟨l.length-(k+1),by omega,k+1,vi,sgi,⟨by omega,rfl,by rw[he];exact hsi,by rw[he,List.length_append,pairs_len,List.length_take];omega⟩,rfl,rfl⟩
 try simp only[aD] at c10
 refine PW.exit (hK1 _ _ (PW.k1 3 rfl (PW.s2 rfl rfl (PW.k1 2 rfl ?_))));refine PW.ret (zR rfl ?_);have hke:k=l.length:=by omega
 rw[hke,List.take_length] at hso;exact⟨_,Sub.refl _,sgo,rfl,hso⟩
structure BR (E:List (ay×ay)) (a:ay) (q:List ay) (i j:Nat):Prop where
 ain:a∈q
 snd:∀v∈q,v=a∨Rch E a v
 cnt:unS (E.map (·.2)) q+q.length<=E.length+1
 done:∀(x:ay) (k:Nat),k<i->q[k]? = some x->∀w,(x,w)∈E->w∈q
 part:∀x:ay,q[i]? = some x->∀e∈E.take j,e.1=x->e.2∈q
theorem BR.start (E:List (ay×ay)) (a:ay):BR E a [a] 0 0:=
 ⟨by simp,fun v hv=>.inl (List.mem_singleton.1 hv),by have:=unS_le (E.map (·.2)) [a];rw[List.length_map] at this;simp only[List.length_cons,List.length_nil];omega,fun _ _ h=>absurd h (Nat.not_lt_zero _),fun _ _ e he=>by simp at he⟩
theorem BR.next {E:List (ay×ay)}{a:ay}{q:List ay}{i j:Nat}(h:BR E a q i j) (hj:E.length<=j):BR E a q (i+1) 0:=
 ⟨h.ain,h.snd,h.cnt,fun x k hk hx w hw=>by
  by_cases e:k<i
  ·exact h.done x k e hx w hw
  have:k=i:=by omega
  subst this;exact h.part x hx (x,w) (by rw[List.take_of_length_le hj];exact hw) rfl,fun _ _ e he=>by simp at he⟩
theorem BR.skip {E:List (ay×ay)}{a:ay}{q:List ay}{i j:Nat}(h:BR E a q i j) (hj:j<E.length) (hs:∀x,q[i]? = some x->E[j].1=x->E[j].2∈q):BR E a q i (j+1):=
 ⟨h.ain,h.snd,h.cnt,h.done,fun x hx e he hex=>by
  rw[List.take_add_one,List.getElem?_eq_getElem hj] at he;rcases List.mem_append.1 he with h1|h1
  ·exact h.part x hx e h1 hex
  have:e=E[j]:=by simpa using h1
  subst this;exact hs x hx hex⟩
theorem BR.push {E:List (ay×ay)}{a:ay}{q:List ay}{i j:Nat}(h:BR E a q i j) (hj:j<E.length) (hi:i<q.length) (hw:E[j].2∉q) (hq:E[j].1=q[i]):BR E a (q++[E[j].2]) i (j+1):=
 ⟨List.mem_append_left _ h.ain,fun v hv=>by
  rcases List.mem_append.1 hv with h1|h1
  ·exact h.snd v h1
  ·rw[List.mem_singleton.1 h1];have he:(q[i],E[j].2)∈E:=by rw[<- hq];exact List.getElem_mem hj
   rcases h.snd _ (List.getElem_mem hi) with e|e
   ·exact .inr (.one (by rw[<- e];exact he))
   exact .inr (e.trans (.one he)),by
  have:=unS_lt (T:=E.map (·.2)) (s:=q) (s':=q++[E[j].2]) (w:=E[j].2) (List.mem_map.2 ⟨_,List.getElem_mem hj,rfl⟩) hw (by simp) (fun x hx=>List.mem_append_left _ hx)
  have:=h.cnt
  rw[List.length_append];simp only[List.length_cons,List.length_nil];omega,fun x k hk hx w hw=>by
  rw[List.getElem?_append_left (by omega)] at hx
  exact List.mem_append_left _ (h.done x k hk hx w hw),fun x hx e he hex=>by
  rw[List.getElem?_append_left hi] at hx;rw[List.take_add_one,List.getElem?_eq_getElem hj] at he;rcases List.mem_append.1 he with h1|h1
  ·exact List.mem_append_left _ (h.part x hx e h1 hex)
  have:e=E[j]:=by simpa using h1
  subst this;simp⟩
theorem BR.fin2 {E:List (ay×ay)}{a b:ay}{q:List ay}{i j:Nat}(h:BR E a q i j) (hab:a≠b) (hb:b∈q):Rch E a b:=(h.snd b hb).resolve_left fun e=>hab e.symm
theorem BR.fin {E:List (ay×ay)}{a b:ay}{q:List ay}{i j:Nat}(h:BR E a q i j) (hi:q.length<=i) (hr:Rch E a b):b∈q:=by
 have key:∀{x y},Rch E x y->x∈q->y∈q:=by
  have st:∀x y,(x,y)∈E->x∈q->y∈q:=fun x y he hx=>by
   obtain⟨k,hk,rfl⟩:=List.getElem_of_mem hx;exact h.done _ k (by omega) (List.getElem?_eq_getElem hk) y he
  intro x y hxy
  induction hxy with
  |one h1=>exact fun hx=>st _ _ h1 hx
  |cons h1 _ ih=>exact fun hx=>ih (st _ _ h1 hx)
 exact key hr h.ain
theorem rallE_len {l:List aN}(h:∀p∈l,p.lines.length<=100):(cN (bW l)).length<=101*l.length:=by
 induction l with
 |nil=>exact Nat.zero_le _
 |cons p l ih=>
  have h1:=ih fun q hq=>h q (List.mem_cons_of_mem _ hq)
  have h2:=h p (by simp)
  have e:cN (bW (p::l))=dB p.pl++cN (bW l):=rfl
  have h3:(dB p.pl).length<=101:=by
   unfold dB;split
   ·exact Nat.zero_le _
   rw[edgeL_len,way_len]
   show p.lines.length+2-1<=_
   omega
  rw[e,List.length_append,List.length_cons];omega
theorem rHasT_fc {w0:World}{S:SS}{A:Option Addr}{c:Nat}{l:List ay}{v:ay}(hx:Rd w0 S A (aI l)) (hb:l.length<=1000000000) (hv:v∈l):FC prog w0 60 [.slice A l.length c,aP v] S (fun u S'=>u=.bool true/\S'=S):=by
 have:=rHas_fc (c:=c) (v:=v) hx hb
 rw[decide_eq_true hv] at this;exact this
theorem rHasF_fc {w0:World}{S:SS}{A:Option Addr}{c:Nat}{l:List ay}{v:ay}(hx:Rd w0 S A (aI l)) (hb:l.length<=1000000000) (hv:v∉l):FC prog w0 60 [.slice A l.length c,aP v] S (fun u S'=>u=.bool false/\S'=S):=by
 have:=rHas_fc (c:=c) (v:=v) hx hb
 rw[decide_eq_false hv] at this;exact this
theorem rBefA_fc {w0:World}{S:SS}{A:Option Addr}{c:Nat}{l:List aN}{a b:ay}(h:du w0 S A l) (ha:a∈bh (bW l)) (hb:b∈bh (bW l)) (hab:a≠b) (hae:a≠bQ) (hbr:b≠aU) (har:a≠aU) (hbe:b≠bQ) {r:Bool}(hrch:r=true↔Rch (cN (bW l)) a b) :
  FC prog w0 63 [.slice A l.length c,aP a,aP b] S (fun v S'=>v=.bool r/\S'=S):=by
 have hll:=h.len
 have hel:=rallE_len (l:=l) (fun p hp=>(h.part p hp).small.1)
 have hal:(bh (bW l)).length<=1000000:=by
  have:=allV_len (l:=l) (fun p hp=>(h.part p hp).small.1) l.length (Nat.le_refl _)
  rw[List.take_length] at this;omega
 refine FC.ofD known63 (by simp) ?_
 unfold pc63;simp only[bo];refine PW.ae (OL.c (OW.bx rfl) ?_);rintro _ _ ⟨r4,rfl,rfl⟩;rw[bB,aa];refine OL.c (OW.bx rfl) ?_;rintro _ _ ⟨r5,rfl,rfl⟩;rw[bB,aa];refine OL.n1 rfl (PW.k3 0 4 5 rfl (PW.ae (OL.dp rfl (OL.l rfl (rAll_fc h.cons.cons) ?_))));rintro _ _ ⟨seg13,rfl,hsl13⟩;obtain⟨A13,c13,rfl,hn13,hc13,hr13⟩:=aF (w0:=w0) hsl13;refine OL.n1 rfl (PW.k4 0 4 5 7 rfl (PW.seq fun K1 hK1=>PW.seq fun K2 hK2=>PW.aQ mixed (QK.dp rfl (QK.x (Yields.aT rfl (aa _) (av zM2)) (QK.l rfl (rHasT_fc (hr13 _) (by omega) ha) (QK.p2 rfl rfl (QK.off rfl rfl ?_)))))))
 refine QK.off rfl rfl (QK.off rfl rfl (QK.p2 rfl rfl (QK.off rfl rfl (QK.off rfl rfl (QK.off rfl rfl (QK.p2 rfl rfl (QK.ak rfl (.pure rfl) (QK.ak rfl (.aT rfl (aa _) (av dm)) (QK.call rfl rfl (rHasT_fc (hr13 _) (by omega) hb) ?_)))))))))
 refine QK.ak rfl (.pure rfl) (QK.ak rfl (.pure rfl) (QK.off rfl rfl (QK.off rfl rfl (QK.off rfl rfl (QK.ak rfl (.pure rfl) (QK.ak rfl (.pure rfl) (QK.off rfl rfl (QK.off rfl rfl (QK.off rfl rfl (QK.ak rfl (.pure rfl) (QK.dp rfl ?_)))))))))));refine QK.dp rfl (QK.ak rfl (.aT rfl (aa _) (av zM2)) (QK.ak rfl (.aT rfl (aa _) (av dm)) ?_));refine QK.ak rfl (.to (v':=.bool false) (Yields.eb (neg:=false) rfl rfl (aO _ _)) (congrArg Value.bool (by simpa using hab))) ?_
 refine QK.p2 rfl rfl (QK.ak rfl (.aT rfl (aa _) (av zM2)) (QK.call rfl rfl (dI) ?_));refine QK.ak rfl (.to (v':=.bool false) (Yields.eb (neg:=false) rfl rfl (aO _ _)) (congrArg Value.bool (by simpa using hae))) ?_
 refine QK.p2 rfl rfl (QK.ak rfl (.aT rfl (aa _) (av dm)) (QK.call rfl rfl (de) (QK.nil ?_)));change OL _ _ _ [_,_] _ _ _;refine OL.ak rfl (.to (v':=.bool false) (Yields.eb (neg:=false) rfl rfl (aO _ _)) (congrArg Value.bool (by simpa using hbr))) ?_
 refine OL.n1 rfl (hK2 _ _ (PW.k4 0 4 5 58 rfl (PW.ite (b:=false) rfl ?_)));rw[if_neg Bool.false_ne_true];refine PW.skip (hK1 _ _ (PW.k3 0 4 5 rfl (PW.seq fun K3 hK3=>PW.seq fun K4 hK4=>PW.aQ mixed (QK.x (Yields.aT rfl (aa _) (av zM2)) (QK.l rfl (de) ?_)))))
 refine QK.x (Yields.to (v':=.bool false) (Yields.eb (neg:=false) rfl rfl (aO _ _)) (congrArg Value.bool (by simpa using har))) ?_
 refine QK.dp rfl (QK.ak rfl (.aT rfl (aa _) (av dm)) (QK.call rfl rfl (dI) (QK.nil ?_)));change OL _ _ _ [_,_] _ _ _;refine OL.ak rfl (.to (v':=.bool false) (Yields.eb (neg:=false) rfl rfl (aO _ _)) (congrArg Value.bool (by simpa using hbe))) ?_
 refine OL.n1 rfl (hK4 _ _ (PW.k4 0 4 5 66 rfl (PW.ite (b:=false) rfl ?_)));rw[if_neg Bool.false_ne_true];refine PW.skip (hK3 _ _ (PW.k3 0 4 5 rfl (PW.ae (OL.dp rfl (OL.l rfl (rEdges_fc h.cons.cons.cons) ?_)))));rintro _ _ ⟨seg68,rfl,hsl68⟩;obtain⟨A68,c68,rfl,hn68,hc68,hr68⟩:=aF (w0:=w0) hsl68;obtain⟨E,hE⟩:∃z,z=cN (bW l):=⟨_,rfl⟩;rw[<- hE] at hel hrch hr68 ⊢;have hpl:(bI E).length=2*E.length:=pairs_len E
 refine OL.n1 rfl (PW.k3 4 5 8 rfl (PW.ae (OL.x (Yields.aT rfl (aa _) (av zM3)) (OL.c (OW.fl (fill_one (v:=a) rfl rfl)) ?_))));rintro _ _ ⟨r70,rfl,rfl⟩;rw[aa];have hs70:aV 27 33 (.slice (some ⟨r70,0,none⟩) 1 1) [a].length (aI [a]) [(r70,.cells (au a) 27 33)]:=by
  have:=aV.mk' (E:=27) (sz:=33) (m:=1) (cap:=1) (r:=r70) (xs:=au a) (by rw[aa]) (Nat.le_refl _) (by decide)
  simpa[aI] using this
 refine OL.n1 rfl (PW.k3 5 8 9 rfl (PW.seq fun K5 hK5=>PW.s1 rfl (PW.k4 5 8 9 10 rfl (PW.block (PW.k4 5 8 9 10 rfl ?_)))))
 refine PW.aR (I:=fun mm T S'=>∃(i:Nat) (q:List ay) (Aq:Option Addr) (cq:Nat) (sgq:bD),(mm=E.length+1-i/\BR E a q i 0/\aV 27 33 (.slice Aq q.length cq) q.length (aI q) sgq)/\T=([(5,.pointer (some ⟨r5,0,none⟩)),(8,.slice A68 (bI E).length c68),(9,.slice Aq q.length cq),(10,.int .i64 i)]:TT)/\S'=sgq::seg68::seg13::bs r5 b::bs r4 a::S) (m:=E.length+1) ⟨0,[a],_,_,_,⟨by omega,BR.start E a,hs70⟩,rfl,rfl⟩ ?_
 rintro mm _ _ ⟨i,q,Aq,cq,sgq,⟨hmm,hB,hsq⟩,rfl,rfl⟩;refine PW.seq fun K6 hK6=>PW.s4 rfl rfl rfl rfl (PW.k5 5 8 9 10 74 rfl ?_)
 refine PW.cond rfl (fun c74=>?_) (fun c74=>?_)
 ·try simp only[aD] at c74
  have hil:i<q.length:=by omega
  have hcn:=hB.cnt
  refine PW.skip (hK6 _ _ (PW.k4 5 8 9 10 rfl (PW.seq fun K7 hK7=>PW.block (PW.s1 rfl (PW.k5 5 8 9 10 11 rfl (PW.block (PW.k5 5 8 9 10 11 rfl ?_)))))))
  refine PW.aR (I:=fun mi T S'=>∃(j:Nat) (q2:List ay) (Aq2:Option Addr) (cq2:Nat) (sgq2:bD),(j<=E.length/\mi=E.length-j/\i<q2.length/\BR E a q2 i j/\aV 27 33 (.slice Aq2 q2.length cq2) q2.length (aI q2) sgq2)/\T=([(5,.pointer (some ⟨r5,0,none⟩)),(8,.slice A68 (bI E).length c68),(9,.slice Aq2 q2.length cq2),(10,.int .i64 i),(11,.int .i64 ((2*j:Nat):Int))]:TT)/\S'=sgq2::seg68::seg13::bs r5 b::bs r4 a::S) (m:=E.length) ⟨0,q,_,_,sgq,⟨by omega,by omega,hil,hB,hsq⟩,rfl,rfl⟩ ?_
  rintro mi _ _ ⟨j,q2,Aq2,cq2,sgq2,⟨hj,hmi,hiq2,hB2,hsq2⟩,rfl,rfl⟩;refine PW.seq fun K8 hK8=>PW.ae (OL.dp rfl (OL.x (Yields.ao rfl rfl (by omega) (by omega)) (OL.n3 rfl rfl rfl (PW.k6 5 8 9 10 11 81 rfl ?_))))
  refine PW.cond rfl (fun c81=>?_) (fun c81=>?_)
  ·try simp only[aD] at c81
   have hjl:j<E.length:=by omega
   have hj2:2*j<(bI E).length:=by omega
   have hj3:2*j+1<(bI E).length:=by omega
   obtain⟨a8,rfl⟩:=bE (hr68 []) (by omega)
   have hil2:i<q2.length:=hiq2
   have hcn2:=hB2.cnt
   obtain⟨Aq3,cq3,eq3,hnq,hcq,hrq⟩:=aF (w0:=w0) hsq2;cases eq3;obtain⟨aq,rfl⟩:=bE (hrq []) (by omega)
   have hqi:q2[i]? = some q2[i]:=List.getElem?_eq_getElem hil2
   have hqe:(bI E)[2*j]'(by omega)=E[j].1:=(List.getElem?_eq_some_iff.1 (pairs_get hjl).1).2
   have hqe2:(bI E)[2*j+1]'(by omega)=E[j].2:=(List.getElem?_eq_some_iff.1 (pairs_get hjl).2).2
   refine PW.skip (hK8 _ _ (PW.k5 5 8 9 10 11 rfl (PW.seq fun K9 hK9=>PW.block (PW.seq fun K10 hK10=>PW.aQ mixed (QK.p2 rfl rfl (QK.x (Yields.bO (j:=2*j) rfl rfl rfl (by omega)) (QK.x (Yields.aT rfl (aa _) (bS (l:=bI E) (k:=2*j) (hr68 _).cons hj2)) (QK.dp rfl ?_))))))))
   refine QK.dp rfl (QK.x (Yields.bO rfl rfl rfl hil2) (QK.x (Yields.aT rfl (aa _) (bS (hrq _) hil2)) (QK.x (Yields.eb (neg:=false) rfl rfl (aO _ _)) ?_)));refine QK.bool trivial (Yields.pure rfl) (fun g93=>?_) (fun g93=>?_)
   ·try simp only[aD] at g93
    refine QK.ak rfl (.pure rfl) (QK.ak rfl (.pure rfl) (QK.ak rfl (.pure rfl) (QK.ak rfl (.ao rfl rfl (by omega) (by omega)) (QK.ak rfl (.bO (j:=2*j+1) rfl rfl (by omega) (by omega)) (QK.ak rfl (.aT rfl (aa _) (bS (l:=bI E) (k:=2*j+1) (hr68 _).cons hj3)) (QK.nil ?_))))))
    change OL _ _ _ [_,_,_] _ _ _;refine OL.call rfl rfl (rHas_fc (hrq _) (by omega)) ?_
    rintro _ Sx ⟨rfl,hSx⟩;rw[hSx];clear hSx;refine OL.ak rfl (.pure rfl) (OL.n1 rfl (hK10 _ _ (PW.k6 5 8 9 10 11 102 rfl ?_)));refine PW.cond rfl (fun c102=>?_) (fun c102=>?_)
    ·try simp only[aD] at c102
     refine PW.ops (OL.p3 rfl rfl rfl (OL.x (Yields.ao rfl rfl (by omega) (by omega)) (OL.x (Yields.bO (j:=2*j+1) rfl rfl (by omega) (by omega)) (OL.x (Yields.aT rfl (aa _) (bS (l:=bI E) (k:=2*j+1) (hr68 _).cons hj3)) ?_))))
     apply OL.bV (k:=0)
     ·rfl
     ·rfl
     ·exact(List.size_toArray).trans (aa _)
     ·rfl
     ·rfl
     ·rfl
     ·exact hsq2
     ·exact bL _
     ·omega
     ·unfold maxLen;omega
     intro v110 seg110 hs110;have hs110:=vtxs_snoc' hs110
     rw[hqe2] at hs110;obtain⟨A110,c110,rfl,_,_,_⟩:=aF (w0:=w0) hs110;refine OL.n1 rfl (hK9 _ _ (PW.k5 5 8 9 10 11 rfl (PW.ops (OL.dp rfl (OL.x (Yields.ao rfl rfl (by omega) (by omega)) (OL.n1 rfl ?_))))))
     refine af.mk (T'':=[(5,_),(8,_),(9,_),(10,_),(11,_)]) (wi rfl) ?_;exact⟨E.length-(j+1),by omega,j+1,_,_,_,seg110,⟨by omega,by omega,by rw[List.length_append];omega,hB2.push hjl hiq2 (by rw[<- hqe2];exact c102) (by rw[<- hqe];exact g93),hs110⟩,rfl,rfl⟩
    try simp only[aD] at c102
    refine PW.skip (hK9 _ _ (PW.k5 5 8 9 10 11 rfl (PW.ops (OL.dp rfl (OL.x (Yields.ao rfl rfl (by omega) (by omega)) (OL.n1 rfl ?_))))))
    refine af.mk (T'':=[(5,_),(8,_),(9,_),(10,_),(11,_)]) (wi rfl) ?_;exact⟨E.length-(j+1),by omega,j+1,_,_,_,sgq2,⟨by omega,by omega,hiq2,hB2.skip hjl (fun _ _ _=>by rw[<- hqe2];exact c102),hsq2⟩,rfl,rfl⟩
   try simp only[aD] at g93
   refine QK.off rfl rfl (QK.off rfl rfl (QK.off rfl rfl (QK.off rfl rfl (QK.off rfl rfl (QK.off rfl rfl (QK.nil ?_))))));change OL _ _ _ [_,_,_] _ _ _;refine OL.off rfl rfl (OL.off rfl rfl (OL.n1 rfl (hK10 _ _ (PW.k6 5 8 9 10 11 102 rfl (PW.ite (b:=false) rfl ?_)))));rw[if_neg Bool.false_ne_true];refine PW.skip (hK9 _ _ (PW.k5 5 8 9 10 11 rfl (PW.ops (OL.dp rfl (OL.x (Yields.ao rfl rfl (by omega) (by omega)) (OL.n1 rfl ?_))))))
   refine af.mk (T'':=[(5,_),(8,_),(9,_),(10,_),(11,_)]) (wi rfl) ?_;exact⟨E.length-(j+1),by omega,j+1,_,_,_,sgq2,⟨by omega,by omega,hiq2,hB2.skip hjl (fun x hx hex=>absurd (by rw[hqe,hex];rw[hqi] at hx;exact(Option.some.inj hx).symm) g93),hsq2⟩,rfl,rfl⟩
  try simp only[aD] at c81
  refine PW.exit (hK7 _ _ (PW.k4 5 8 9 10 rfl (PW.ops (OL.dp rfl (OL.x (Yields.ao rfl rfl (by omega) (by omega)) (OL.n1 rfl ?_))))))
  refine af.mk (T'':=[(5,_),(8,_),(9,_),(10,_)]) (wi rfl) ?_;have hcn2:=hB2.cnt
  exact⟨E.length+1-(i+1),by omega,i+1,q2,_,_,sgq2,⟨by omega,hB2.next (by omega),hsq2⟩,rfl,rfl⟩
 try simp only[aD] at c74
 refine PW.exit (hK5 _ _ (PW.k2 5 9 rfl (PW.ae ?_)));have hcn:=hB.cnt
 obtain⟨Aq3,cq3,eq3,hnq,hcq,hrq⟩:=aF (w0:=w0) hsq;cases eq3;exact OL.dp rfl (OL.x (Yields.aT rfl (aa _) (av zM3)) (OL.q rfl (rHas_fc (hrq _) (by omega)) (OL.n1 rfl (PW.k1 6 rfl (PW.ret (zR rfl ⟨_,Sub.drop (Sub.drop (Sub.drop (Sub.drop (Sub.drop (Sub.refl _))))),congrArg Value.bool (Bool.eq_iff_iff.2 (by rw[decide_eq_true_eq,hrch];exact⟨fun hm=>hB.fin2 hab hm,fun hr=>hB.fin (by omega) hr⟩)),rfl⟩))))))
theorem rBefB_fc {w0:World}{S:SS}{A:Option Addr}{c:Nat}{l:List aN}{a b:ay}(h:du w0 S A l) (ha:a=aU∨a∈bh (bW l)) (hb:b=bQ∨b∈bh (bW l)) (hab:a≠b) (hae:a≠bQ) (hbr:b≠aU) (hre:a=aU∨b=bQ) :
  FC prog w0 63 [.slice A l.length c,aP a,aP b] S (fun v S'=>v=.bool true/\S'=S):=by
 have hll:=h.len
 have hel:=rallE_len (l:=l) (fun p hp=>(h.part p hp).small.1)
 have hal:(bh (bW l)).length<=1000000:=by
  have:=allV_len (l:=l) (fun p hp=>(h.part p hp).small.1) l.length (Nat.le_refl _)
  rw[List.take_length] at this;omega
 refine FC.ofD known63 (by simp) ?_
 unfold pc63;simp only[bo];refine PW.ae (OL.c (OW.bx rfl) ?_);rintro _ _ ⟨r4,rfl,rfl⟩;rw[bB,aa];refine OL.c (OW.bx rfl) ?_;rintro _ _ ⟨r5,rfl,rfl⟩;rw[bB,aa];refine OL.n1 rfl (PW.k3 0 4 5 rfl (PW.ae (OL.dp rfl (OL.l rfl (rAll_fc h.cons.cons) ?_))));rintro _ _ ⟨seg13,rfl,hsl13⟩;obtain⟨A13,c13,rfl,hn13,hc13,hr13⟩:=aF (w0:=w0) hsl13;refine OL.n1 rfl (PW.k4 0 4 5 7 rfl (PW.seq fun K1 hK1=>PW.seq fun K2 hK2=>PW.aQ mixed (QK.dp rfl (QK.x (Yields.aT rfl (aa _) (av zM2)) (QK.l rfl (rHas_fc (hr13 _) (by omega)) (QK.dp rfl ?_))))))
 refine QK.bool trivial (Yields.pure rfl) (fun g18=>?_) (fun g18=>?_)
 ·try simp only[aD] at g18
  refine QK.ak rfl (.aT rfl (aa _) (av zM2)) (QK.call rfl rfl (de) ?_);refine QK.ak rfl (.to (v':=.bool false) (Yields.eb (neg:=true) rfl rfl (aO _ _)) (congrArg Value.bool (by simpa using ha.resolve_right g18))) ?_
  refine QK.p2 rfl rfl (QK.off rfl rfl (QK.off rfl rfl (QK.off rfl rfl (QK.p2 rfl rfl (QK.ak rfl (.pure rfl) (QK.ak rfl (.aT rfl (aa _) (av dm)) (QK.call rfl rfl (rHas_fc (hr13 _) (by omega)) (QK.ak rfl (.pure rfl) ?_))))))))
  refine QK.bool rfl (Yields.pure rfl) (fun g33=>?_) (fun g33=>?_)
  ·try simp only[aD] at g33
   refine QK.ak rfl (.aT rfl (aa _) (av dm)) (QK.call rfl rfl (de) ?_);refine QK.ak rfl (.to (v':=.bool true) (Yields.eb (neg:=true) rfl rfl (aO _ _)) (congrArg Value.bool (by simpa using hbr))) ?_
   refine QK.ak rfl (.pure rfl) (QK.ak rfl (.pure rfl) (QK.ak rfl (.aT rfl (aa _) (av dm)) (QK.call rfl rfl (dI) ?_)));refine QK.ak rfl (.to (v':=.bool false) (Yields.eb (neg:=true) rfl rfl (aO _ _)) (congrArg Value.bool (by simpa using hb.resolve_right g33))) ?_
   refine QK.ak rfl (.pure rfl) (QK.p2 rfl rfl (QK.ak rfl (.aT rfl (aa _) (av zM2)) (QK.ak rfl (.aT rfl (aa _) (av dm)) ?_)));refine QK.ak rfl (.to (v':=.bool false) (Yields.eb (neg:=false) rfl rfl (aO _ _)) (congrArg Value.bool (by simpa using hab))) ?_
   refine QK.p2 rfl rfl (QK.ak rfl (.aT rfl (aa _) (av zM2)) (QK.call rfl rfl (dI) ?_));refine QK.ak rfl (.to (v':=.bool false) (Yields.eb (neg:=false) rfl rfl (aO _ _)) (congrArg Value.bool (by simpa using hae))) ?_
   refine QK.p2 rfl rfl (QK.ak rfl (.aT rfl (aa _) (av dm)) (QK.call rfl rfl (de) (QK.nil ?_)));change OL _ _ _ [_,_] _ _ _;refine OL.ak rfl (.to (v':=.bool false) (Yields.eb (neg:=false) rfl rfl (aO _ _)) (congrArg Value.bool (by simpa using hbr))) ?_
   refine OL.n1 rfl (hK2 _ _ (PW.k4 0 4 5 58 rfl (PW.ite (b:=false) rfl ?_)));rw[if_neg Bool.false_ne_true];refine PW.skip (hK1 _ _ (PW.k3 0 4 5 rfl (PW.seq fun K3 hK3=>PW.seq fun K4 hK4=>PW.aQ mixed (QK.x (Yields.aT rfl (aa _) (av zM2)) (QK.l rfl (de) (QK.x (Yields.eb (neg:=false) rfl rfl (aO _ _)) ?_))))))
   refine QK.bool trivial (Yields.pure rfl) (fun g62=>?_) (fun g62=>?_)
   ·try simp only[aD] at g62
    refine QK.off rfl rfl (QK.off rfl rfl (QK.nil ?_));change OL _ _ _ [_,_] _ _ _;refine OL.off rfl rfl (OL.n1 rfl (hK4 _ _ (PW.k4 0 4 5 66 rfl (PW.ite (b:=true) rfl ?_))));rw[if_pos rfl];exact PW.s1 rfl (PW.k1 6 rfl (PW.ret (zR rfl ⟨_,Sub.drop (Sub.drop (Sub.drop (Sub.refl _))),rfl,rfl⟩)))
   try simp only[aD] at g62
   refine QK.ak rfl (.aT rfl (aa _) (av dm)) (QK.call rfl rfl (dI) (QK.nil ?_));change OL _ _ _ [_,_] _ _ _;refine OL.ak rfl (.to (v':=.bool true) (Yields.eb (neg:=false) rfl rfl (aO _ _)) (congrArg Value.bool (by simpa using hre.resolve_left g62))) ?_
   refine OL.n1 rfl (hK4 _ _ (PW.k4 0 4 5 66 rfl (PW.ite (b:=true) rfl ?_)));rw[if_pos rfl];exact PW.s1 rfl (PW.k1 6 rfl (PW.ret (zR rfl ⟨_,Sub.drop (Sub.drop (Sub.drop (Sub.refl _))),rfl,rfl⟩)))
  try simp only[aD] at g33
  refine QK.off rfl rfl (QK.off rfl rfl (QK.off rfl rfl (QK.ak rfl (.pure rfl) (QK.ak rfl (.pure rfl) (QK.off rfl rfl (QK.off rfl rfl (QK.off rfl rfl (QK.ak rfl (.pure rfl) (QK.p2 rfl rfl (QK.ak rfl (.aT rfl (aa _) (av zM2)) ?_))))))))));refine QK.ak rfl (.aT rfl (aa _) (av dm)) ?_;refine QK.ak rfl (.to (v':=.bool false) (Yields.eb (neg:=false) rfl rfl (aO _ _)) (congrArg Value.bool (by simpa using hab))) ?_
  refine QK.p2 rfl rfl (QK.ak rfl (.aT rfl (aa _) (av zM2)) (QK.call rfl rfl (dI) ?_));refine QK.ak rfl (.to (v':=.bool false) (Yields.eb (neg:=false) rfl rfl (aO _ _)) (congrArg Value.bool (by simpa using hae))) ?_
  refine QK.p2 rfl rfl (QK.ak rfl (.aT rfl (aa _) (av dm)) (QK.call rfl rfl (de) (QK.nil ?_)));change OL _ _ _ [_,_] _ _ _;refine OL.ak rfl (.to (v':=.bool false) (Yields.eb (neg:=false) rfl rfl (aO _ _)) (congrArg Value.bool (by simpa using hbr))) ?_
  refine OL.n1 rfl (hK2 _ _ (PW.k4 0 4 5 58 rfl (PW.ite (b:=false) rfl ?_)));rw[if_neg Bool.false_ne_true];refine PW.skip (hK1 _ _ (PW.k3 0 4 5 rfl (PW.seq fun K5 hK5=>PW.seq fun K6 hK6=>PW.aQ mixed (QK.x (Yields.aT rfl (aa _) (av zM2)) (QK.l rfl (de) (QK.x (Yields.eb (neg:=false) rfl rfl (aO _ _)) ?_))))))
  refine QK.bool trivial (Yields.pure rfl) (fun g62=>?_) (fun g62=>?_)
  ·try simp only[aD] at g62
   refine QK.off rfl rfl (QK.off rfl rfl (QK.nil ?_));change OL _ _ _ [_,_] _ _ _;refine OL.off rfl rfl (OL.n1 rfl (hK6 _ _ (PW.k4 0 4 5 66 rfl (PW.ite (b:=true) rfl ?_))));rw[if_pos rfl];exact PW.s1 rfl (PW.k1 6 rfl (PW.ret (zR rfl ⟨_,Sub.drop (Sub.drop (Sub.drop (Sub.refl _))),rfl,rfl⟩)))
  try simp only[aD] at g62
  refine QK.ak rfl (.aT rfl (aa _) (av dm)) (QK.call rfl rfl (dI) (QK.nil ?_));change OL _ _ _ [_,_] _ _ _;refine OL.ak rfl (.to (v':=.bool true) (Yields.eb (neg:=false) rfl rfl (aO _ _)) (congrArg Value.bool (by simpa using hre.resolve_left g62))) ?_
  refine OL.n1 rfl (hK6 _ _ (PW.k4 0 4 5 66 rfl (PW.ite (b:=true) rfl ?_)));rw[if_pos rfl];exact PW.s1 rfl (PW.k1 6 rfl (PW.ret (zR rfl ⟨_,Sub.drop (Sub.drop (Sub.drop (Sub.refl _))),rfl,rfl⟩)))
 try simp only[aD] at g18
 refine QK.off rfl rfl (QK.off rfl rfl (QK.off rfl rfl (QK.p2 rfl rfl (QK.off rfl rfl (QK.off rfl rfl (QK.off rfl rfl (QK.p2 rfl rfl (QK.ak rfl (.pure rfl) (QK.ak rfl (.aT rfl (aa _) (av dm)) ?_)))))))));refine QK.call rfl rfl (rHas_fc (hr13 _) (by omega)) (QK.ak rfl (.pure rfl) ?_)
 refine QK.bool rfl (Yields.pure rfl) (fun g33=>?_) (fun g33=>?_)
 ·try simp only[aD] at g33
  refine QK.ak rfl (.aT rfl (aa _) (av dm)) (QK.call rfl rfl (de) ?_);refine QK.ak rfl (.to (v':=.bool true) (Yields.eb (neg:=true) rfl rfl (aO _ _)) (congrArg Value.bool (by simpa using hbr))) ?_
  refine QK.ak rfl (.pure rfl) (QK.ak rfl (.pure rfl) (QK.ak rfl (.aT rfl (aa _) (av dm)) (QK.call rfl rfl (dI) ?_)));refine QK.ak rfl (.to (v':=.bool false) (Yields.eb (neg:=true) rfl rfl (aO _ _)) (congrArg Value.bool (by simpa using hb.resolve_right g33))) ?_
  refine QK.ak rfl (.pure rfl) (QK.p2 rfl rfl (QK.ak rfl (.aT rfl (aa _) (av zM2)) (QK.ak rfl (.aT rfl (aa _) (av dm)) ?_)));refine QK.ak rfl (.to (v':=.bool false) (Yields.eb (neg:=false) rfl rfl (aO _ _)) (congrArg Value.bool (by simpa using hab))) ?_
  refine QK.p2 rfl rfl (QK.ak rfl (.aT rfl (aa _) (av zM2)) (QK.call rfl rfl (dI) ?_));refine QK.ak rfl (.to (v':=.bool false) (Yields.eb (neg:=false) rfl rfl (aO _ _)) (congrArg Value.bool (by simpa using hae))) ?_
  refine QK.p2 rfl rfl (QK.ak rfl (.aT rfl (aa _) (av dm)) (QK.call rfl rfl (de) (QK.nil ?_)));change OL _ _ _ [_,_] _ _ _;refine OL.ak rfl (.to (v':=.bool false) (Yields.eb (neg:=false) rfl rfl (aO _ _)) (congrArg Value.bool (by simpa using hbr))) ?_
  refine OL.n1 rfl (hK2 _ _ (PW.k4 0 4 5 58 rfl (PW.ite (b:=false) rfl ?_)));rw[if_neg Bool.false_ne_true];refine PW.skip (hK1 _ _ (PW.k3 0 4 5 rfl (PW.seq fun K7 hK7=>PW.seq fun K8 hK8=>PW.aQ mixed (QK.x (Yields.aT rfl (aa _) (av zM2)) (QK.l rfl (de) (QK.x (Yields.eb (neg:=false) rfl rfl (aO _ _)) ?_))))))
  refine QK.bool trivial (Yields.pure rfl) (fun g62=>?_) (fun g62=>?_)
  ·try simp only[aD] at g62
   refine QK.off rfl rfl (QK.off rfl rfl (QK.nil ?_));change OL _ _ _ [_,_] _ _ _;refine OL.off rfl rfl (OL.n1 rfl (hK8 _ _ (PW.k4 0 4 5 66 rfl (PW.ite (b:=true) rfl ?_))));rw[if_pos rfl];exact PW.s1 rfl (PW.k1 6 rfl (PW.ret (zR rfl ⟨_,Sub.drop (Sub.drop (Sub.drop (Sub.refl _))),rfl,rfl⟩)))
  try simp only[aD] at g62
  refine QK.ak rfl (.aT rfl (aa _) (av dm)) (QK.call rfl rfl (dI) (QK.nil ?_));change OL _ _ _ [_,_] _ _ _;refine OL.ak rfl (.to (v':=.bool true) (Yields.eb (neg:=false) rfl rfl (aO _ _)) (congrArg Value.bool (by simpa using hre.resolve_left g62))) ?_
  refine OL.n1 rfl (hK8 _ _ (PW.k4 0 4 5 66 rfl (PW.ite (b:=true) rfl ?_)));rw[if_pos rfl];exact PW.s1 rfl (PW.k1 6 rfl (PW.ret (zR rfl ⟨_,Sub.drop (Sub.drop (Sub.drop (Sub.refl _))),rfl,rfl⟩)))
 try simp only[aD] at g33
 refine QK.off rfl rfl (QK.off rfl rfl (QK.off rfl rfl (QK.ak rfl (.pure rfl) (QK.ak rfl (.pure rfl) (QK.off rfl rfl (QK.off rfl rfl (QK.off rfl rfl (QK.ak rfl (.pure rfl) (QK.p2 rfl rfl (QK.ak rfl (.aT rfl (aa _) (av zM2)) ?_))))))))));refine QK.ak rfl (.aT rfl (aa _) (av dm)) ?_;refine QK.ak rfl (.to (v':=.bool false) (Yields.eb (neg:=false) rfl rfl (aO _ _)) (congrArg Value.bool (by simpa using hab))) ?_
 refine QK.p2 rfl rfl (QK.ak rfl (.aT rfl (aa _) (av zM2)) (QK.call rfl rfl (dI) ?_));refine QK.ak rfl (.to (v':=.bool false) (Yields.eb (neg:=false) rfl rfl (aO _ _)) (congrArg Value.bool (by simpa using hae))) ?_
 refine QK.p2 rfl rfl (QK.ak rfl (.aT rfl (aa _) (av dm)) (QK.call rfl rfl (de) (QK.nil ?_)));change OL _ _ _ [_,_] _ _ _;refine OL.ak rfl (.to (v':=.bool false) (Yields.eb (neg:=false) rfl rfl (aO _ _)) (congrArg Value.bool (by simpa using hbr))) ?_
 refine OL.n1 rfl (hK2 _ _ (PW.k4 0 4 5 58 rfl (PW.ite (b:=false) rfl ?_)));rw[if_neg Bool.false_ne_true];refine PW.skip (hK1 _ _ (PW.k3 0 4 5 rfl (PW.seq fun K9 hK9=>PW.seq fun K10 hK10=>PW.aQ mixed (QK.x (Yields.aT rfl (aa _) (av zM2)) (QK.l rfl (de) (QK.x (Yields.eb (neg:=false) rfl rfl (aO _ _)) ?_))))))
 refine QK.bool trivial (Yields.pure rfl) (fun g62=>?_) (fun g62=>?_)
 ·try simp only[aD] at g62
  refine QK.off rfl rfl (QK.off rfl rfl (QK.nil ?_));change OL _ _ _ [_,_] _ _ _;refine OL.off rfl rfl (OL.n1 rfl (hK10 _ _ (PW.k4 0 4 5 66 rfl (PW.ite (b:=true) rfl ?_))));rw[if_pos rfl];exact PW.s1 rfl (PW.k1 6 rfl (PW.ret (zR rfl ⟨_,Sub.drop (Sub.drop (Sub.drop (Sub.refl _))),rfl,rfl⟩)))
 try simp only[aD] at g62
 refine QK.ak rfl (.aT rfl (aa _) (av dm)) (QK.call rfl rfl (dI) (QK.nil ?_));change OL _ _ _ [_,_] _ _ _;refine OL.ak rfl (.to (v':=.bool true) (Yields.eb (neg:=false) rfl rfl (aO _ _)) (congrArg Value.bool (by simpa using hre.resolve_left g62))) ?_
 refine OL.n1 rfl (hK10 _ _ (PW.k4 0 4 5 66 rfl (PW.ite (b:=true) rfl ?_)));rw[if_pos rfl];exact PW.s1 rfl (PW.k1 6 rfl (PW.ret (zR rfl ⟨_,Sub.drop (Sub.drop (Sub.drop (Sub.refl _))),rfl,rfl⟩)))
end Go.Proofs.Gr

namespace Go.SL
open Go Go.RowKit
variable {P:Program}{w0:World}{n:Nat}{T:TT}{S:SS}
theorem PW.seqS {x y:PC}{Q:Exit->TT->SS->Prop}(T0:TT) (S0:SS) (tail:PW P w0 n y T0 S0 Q)
  (h:∀K:TT->SS->Prop,(∀T' S',Within T0 T'->S'=S0->K T' S')->PW P w0 n x T S (thenK K Q)):PW P w0 n (.seq x y) T S Q:=
 PW.seq fun K hK=>h K fun T' S' hW hS=>hK T' S' (PW.cD hW (hS▸tail))
end Go.SL

namespace Go.Proofs.Gr
open Go.SL Go.RowKit Go.Proofs Go.GP Go.Proofs.Tryz
set_option maxHeartbeats 1000000
theorem rBef_fc {w0:World}{S:SS}{A:Option Addr}{c:Nat}{l:List aN}{a b:ay}(h:du w0 S A l) (hr:∀v∈bh (bW l),v≠aU/\v≠bQ) (hb:Bef (bW l) a b) :
  FC prog w0 63 [.slice A l.length c,aP a,aP b] S (fun v S'=>v=.bool true/\S'=S):=by
 obtain⟨h1,h2,h3,h4,h5,h6⟩:=hb;have ha:a=aU∨a∈bh (bW l):=h1.imp_right fun h=>h.resolve_left h4
 have hb:b=bQ∨b∈bh (bW l):=h2.resolve_left h5
 by_cases e1:a=aU
 ·exact rBefB_fc h ha hb h3 h4 h5 (.inl e1)
 by_cases e2:b=bQ
 ·exact rBefB_fc h ha hb h3 h4 h5 (.inr e2)
 exact rBefA_fc h (ha.resolve_left e1) (hb.resolve_left e2) h3 h4 h5 e1 e2 (r:=true) ⟨fun _=>(h6.resolve_left e1).resolve_left e2,fun _=>rfl⟩
def KH:List CK:=List.replicate 32 (.int .u8)
theorem eqL_hash (a b:HashB):eqL KH (bd a.1) (bd b.1)=some (decide (a=b)):=by
 have h:=eqL_bytes (x:=a.1) (y:=b.1) (by rw[a.2,b.2])
 rw[a.2] at h;rw[show KH=List.replicate 32 (.int .u8) from rfl,h]
 congr 1;exact decide_eq_decide.2 ⟨fun e=>Subtype.ext e,fun e=>congrArg _ e⟩
theorem appP2 {P:Program}{w0:World}{n:Nat}{T:TT}{S:SS}{k m q c:Nat}{z v:Value}{s x:PV}{A:Option Addr}{xs l:List aN}{seg:bD}(hs':s.val T=some v) (hk:S[k]? = some seg) (hv:aV 66 102 v m (dL xs) seg)
  (hx:x.val T=some (.slice A q c)) (hq:l.length=q) (hrd:Rd w0 S A (dL l)) (hc:A=none->c=0) (hb:m+q<=1000000) :
  OW P w0 n (.app 31 66 102 176 z s x) T S (fun v' S'=>∃seg',S'=S.set k seg'/\aV 66 102 v' (m+q) (dL (xs++l)) seg'):=by
 have h:=OW.appL (P:=P) (w0:=w0) (n:=n) (t:=31) (z:=z) (bytes:=176) hs' hk hv hx (by rw[partS_len,hq]) hrd (by decide) hc (partS_one l) (by omega) (by unfold maxLen;omega)
 rw[<- partS_app] at h;exact h
section
variable {w0:World}{S:SS}{a:Addr}{l:List aN}{k:Nat}
theorem partS_patch (h:Rd w0 S (some a) (dL l)) (hk:k<l.length):∀(j:Nat) (v:Value),(bd l[k].patch.1)[j]? = some v->Cell w0 S (((a.add (k*102)).add 0).add j) v:=by
 intro j v hj;have hj2:=(List.getElem?_eq_some_iff.1 hj).1
 rw[aZ (a.add (k*102))];refine eL h hk (0+j) v ?_;rw[Nat.zero_add,da,List.getElem?_append_left hj2];exact hj
theorem partS_at32 (h:Rd w0 S (some a) (dL l)) (hk:k<l.length):Cell w0 S ((a.add (k*102)).add 32) (.int .i64 l[k].at_):=by
 refine eL h hk 32 _ ?_;have h1:=cz l[k].patch
 rw[da,List.getElem?_append_right (by omega),h1]
 rfl
end
theorem nodup_take {l:List ay}(h:l.Nodup) {k:Nat}(hk:k<l.length):l[k]∉l.take k:=by
 intro hm;obtain⟨i,hi,e⟩:=List.getElem_of_mem hm;rw[List.length_take] at hi;rw[List.getElem_take] at e;have:=(List.getElem_inj h).1 e
 omega
theorem rAdd_fc {w0:World}{S:SS}{A:Option Addr}{c:Nat}{l:List aN}{p:aN}(h:du w0 S A l) (hp:PartRd w0 S p) (hcA:A=none->c=0) (hnew:New (bW l) p.pl) (hline:∀v∈bh (bW l),v≠aU/\v≠bQ) :
  FC prog w0 26 [.slice A l.length c,fz p] S (fun v S'=>∃v1 seg,v=.tuple #[v1,.int .i64 0]/\S'=seg::S/\aV 66 102 v1 (l++[p]).length (dL (l++[p])) seg):=by
 have hll:=h.len
 have hrd:=h.rd
 have hal:(bh (bW l)).length<=1000000:=by
  have:=allV_len (l:=l) (fun p hp=>(h.part p hp).small.1) l.length (Nat.le_refl _)
  rw[List.take_length] at this;omega
 have hpl:=hp.rng.lines
 have hgn:=hp.rng.gones
 have hup:p.up≠aU->p.up∈bh (bW l):=fun e=>(hnew.up.resolve_left e).resolve_left hnew.upE
 have hdn:p.down≠bQ->p.down∈bh (bW l):=fun e=>(hnew.down.resolve_left hnew.downR).resolve_left e
 have hol:(own p.pl).length=p.lines.length:=eE p.pl
 refine FC.ofD known26 (by simp) ?_
 unfold pc26;simp only[bo];refine PW.ae (OL.c (OW.bx rfl) ?_);rintro _ _ ⟨r3,rfl,rfl⟩;rw[fj,bm];refine OL.n2 rfl rfl (PW.k2 0 3 rfl (PW.ae (OL.dp rfl (OL.l rfl (rAll_fc h.cons) ?_))));rintro _ _ ⟨sga,rfl,hsa⟩;obtain⟨Aa,ca,rfl,hna,hca,hra⟩:=aF (w0:=w0) hsa;refine OL.n1 rfl (PW.k3 0 3 6 rfl (PW.ae (OL.x (Yields.aT rfl (bm _) (av dm)) (OL.l rfl (rOwn_fc hp.rng) ?_))));rintro _ _ ⟨sgo,rfl,hso⟩;obtain⟨Ao,co,rfl,hno,hco,hro⟩:=aF (w0:=w0) hso;refine OL.n1 rfl (PW.k4 0 3 6 7 rfl (PW.seq fun K1 hK1=>PW.s1 rfl (PW.k5 0 3 6 7 8 rfl (PW.block (PW.k5 0 3 6 7 8 rfl ?_)))))
 refine PW.aR (I:=fun mm T S'=>∃k:Nat,(k<=l.length/\mm=l.length-k)/\T=([(0,.slice A l.length c),(3,.pointer (some ⟨r3,0,none⟩)),(6,.slice Aa (bh (bW l)).length ca),(7,.slice Ao (own p.pl).length co),(8,.int .i64 k)]:TT)/\S'=sgo::sga::[(r3,.cells (bG p) 66 102)]::S) (m:=l.length) ⟨0,⟨by omega,by omega⟩,rfl,rfl⟩ ?_
 rintro mm _ _ ⟨k,⟨hk,hmm⟩,rfl,rfl⟩;refine PW.seq fun K2 hK2=>PW.s4 rfl rfl rfl rfl (PW.k6 0 3 6 7 8 20 rfl ?_)
 refine PW.cond rfl (fun c20=>?_) (fun c20=>?_)
 ·try simp only[aD] at c20
  have hkl:k<l.length:=by omega
  obtain⟨a0,rfl⟩:=partS_some hrd (by omega)
  refine PW.skip (hK2 _ _ (PW.k5 0 3 6 7 8 rfl (PW.seq fun K3 hK3=>PW.block (PW.seq fun K4 hK4=>PW.aQ mixed (QK.p2 rfl rfl (QK.x (Yields.bO rfl rfl rfl hkl) (QK.dp rfl (QK.x (Yields.aT rfl (cz _) (partS_patch (hrd.cons.cons.cons) hkl)) ?_))))))))
  refine QK.dp rfl (QK.x (Yields.aT rfl (cz _) (part_patch (p:=p) (E:=66) (tot:=102) zM2)) (QK.x (Yields.eb (neg:=false) rfl rfl (eqL_hash _ _)) ?_));refine QK.bool trivial (Yields.pure rfl) (fun g31=>?_) (fun g31=>?_)
  ·try simp only[aD] at g31
   refine QK.ak rfl (.pure rfl) (QK.ak rfl (.pure rfl) (QK.ak rfl (.bO rfl rfl rfl hkl) (QK.ak rfl (.pure rfl) (QK.ak rfl (.ld rfl (partS_at32 (hrd.cons.cons.cons) hkl)) (QK.ak rfl (.pure rfl) (QK.ak rfl (.ld rfl (part_at (p:=p) (E:=66) (tot:=102) zM2)) (QK.nil ?_)))))));change OL _ _ _ [_,_] _ _ _;refine OL.ak rfl (.pure rfl) (OL.n1 rfl (hK4 _ _ (PW.k6 0 3 6 7 8 40 rfl ?_)));refine PW.cond rfl (fun c40=>?_) (fun c40=>?_)
   ·try simp only[aD] at c40
    exfalso;exact hnew.name l[k].pl (List.mem_map.2 ⟨_,List.getElem_mem hkl,rfl⟩) (Prod.ext g31 c40)
    -- done
   try simp only[aD] at c40
   refine PW.skip (hK3 _ _ (PW.k5 0 3 6 7 8 rfl (PW.ops (OL.dp rfl (OL.x (Yields.ao rfl rfl (by omega) (by omega)) (OL.n1 rfl ?_))))))
   refine af.mk (T'':=[(0,_),(3,_),(6,_),(7,_),(8,_)]) (wi rfl) ?_;exact⟨l.length-(k+1),by omega,k+1,⟨by omega,rfl⟩,rfl,rfl⟩
  try simp only[aD] at g31
  refine QK.off rfl rfl (QK.off rfl rfl (QK.off rfl rfl (QK.off rfl rfl (QK.off rfl rfl (QK.off rfl rfl (QK.off rfl rfl (QK.nil ?_)))))));change OL _ _ _ [_,_] _ _ _;refine OL.off rfl rfl (OL.n1 rfl (hK4 _ _ (PW.k6 0 3 6 7 8 40 rfl (PW.ite (b:=false) rfl ?_))));rw[if_neg Bool.false_ne_true];refine PW.skip (hK3 _ _ (PW.k5 0 3 6 7 8 rfl (PW.ops (OL.dp rfl (OL.x (Yields.ao rfl rfl (by omega) (by omega)) (OL.n1 rfl ?_))))))
  refine af.mk (T'':=[(0,_),(3,_),(6,_),(7,_),(8,_)]) (wi rfl) ?_;exact⟨l.length-(k+1),by omega,k+1,⟨by omega,rfl⟩,rfl,rfl⟩
 try simp only[aD] at c20
 refine PW.exit (hK1 _ _ (PW.k4 0 3 6 7 rfl (PW.seq fun K5 hK5=>PW.s1 rfl (PW.k5 0 3 6 7 9 rfl (PW.block (PW.k5 0 3 6 7 9 rfl ?_))))))
 refine PW.aR (I:=fun mm T S'=>∃k:Nat,(k<=(own p.pl).length/\mm=(own p.pl).length-k)/\T=([(0,.slice A l.length c),(3,.pointer (some ⟨r3,0,none⟩)),(6,.slice Aa (bh (bW l)).length ca),(7,.slice Ao (own p.pl).length co),(9,.int .i64 k)]:TT)/\S'=sgo::sga::[(r3,.cells (bG p) 66 102)]::S) (m:=(own p.pl).length) ⟨0,⟨by omega,by omega⟩,rfl,rfl⟩ ?_
 rintro mm _ _ ⟨k,⟨hk,hmm⟩,rfl,rfl⟩;refine PW.seq fun K6 hK6=>PW.s4 rfl rfl rfl rfl (PW.k6 0 3 6 7 9 45 rfl ?_)
 refine PW.cond rfl (fun c45=>?_) (fun c45=>?_)
 ·try simp only[aD] at c45
  have hkl:k<(own p.pl).length:=by omega
  obtain⟨o0,rfl⟩:=bE (hro []) (by omega)
  refine PW.skip (hK6 _ _ (PW.k5 0 3 6 7 9 rfl (PW.seq fun K7 hK7=>PW.block (PW.ae (OL.p3 rfl rfl rfl (OL.x (Yields.bO rfl rfl rfl hkl) (OL.x (Yields.aT rfl (aa _) (bS (hro _) hkl)) (OL.q rfl (rHasF_fc ((hra _).cons) (by omega) (hnew.own _ (List.getElem_mem hkl))) ?_))))))))
  refine OL.nil (PW.k6 0 3 6 7 9 53 rfl (PW.ite (b:=false) rfl ?_));rw[if_neg Bool.false_ne_true];refine PW.skip (hK7 _ _ (PW.k5 0 3 6 7 9 rfl (PW.ops (OL.dp rfl (OL.x (Yields.ao rfl rfl (by omega) (by omega)) (OL.n1 rfl ?_))))))
  refine af.mk (T'':=[(0,_),(3,_),(6,_),(7,_),(9,_)]) (wi rfl) ?_;exact⟨(own p.pl).length-(k+1),by omega,k+1,⟨by omega,rfl⟩,rfl,rfl⟩
 try simp only[aD] at c45
 refine PW.exit (hK5 _ _ (PW.k3 0 3 6 rfl (PW.seq fun K8 hK8=>PW.seq fun K9 hK9=>PW.aQ mixed (QK.dp rfl (QK.x (Yields.ld rfl (part_first (p:=p) (E:=66) (tot:=102) zM2)) ?_)))))
 refine QK.x (Yields.to (v':=.bool false) (Yields.pure rfl) (congrArg Value.bool (decide_eq_false (by have:=hnew.first;show ¬p.first<0;exact Int.not_lt.2 this)))) ?_
 refine QK.dp rfl (QK.ak rfl (.pure rfl) (QK.ak rfl (.aT rfl (aa _) (part_up (p:=p) (E:=66) (tot:=102) zM2)) (QK.call rfl rfl (dI) ?_)));refine QK.ak rfl (.to (v':=.bool false) (Yields.eb (neg:=false) rfl rfl (aO _ _)) (congrArg Value.bool (by simpa using(show p.up≠bQ from hnew.upE)))) ?_
 refine QK.p2 rfl rfl (QK.ak rfl (.pure rfl) (QK.ak rfl (.aT rfl (aa _) (dF (p:=p) (E:=66) (tot:=102) zM2)) (QK.call rfl rfl (de) (QK.nil ?_))));change OL _ _ _ [_,_] _ _ _;refine OL.ak rfl (.to (v':=.bool false) (Yields.eb (neg:=false) rfl rfl (aO _ _)) (congrArg Value.bool (by simpa using(show p.down≠aU from hnew.downR)))) ?_
 refine OL.n1 rfl (hK9 _ _ (PW.k4 0 3 6 69 rfl (PW.ite (b:=false) rfl ?_)));rw[if_neg Bool.false_ne_true];refine PW.skip (hK8 _ _ (PW.k3 0 3 6 rfl (PW.seq fun K10 hK10=>PW.s1 rfl (PW.k4 0 3 6 10 rfl (PW.block (PW.k4 0 3 6 10 rfl ?_))))))
 refine PW.aR (I:=fun mm T S'=>∃k:Nat,(k<=p.gone.length/\mm=p.gone.length-k)/\T=([(0,.slice A l.length c),(3,.pointer (some ⟨r3,0,none⟩)),(6,.slice Aa (bh (bW l)).length ca),(10,.int .i64 k)]:TT)/\S'=sgo::sga::[(r3,.cells (bG p) 66 102)]::S) (m:=p.gone.length) ⟨0,⟨by omega,by omega⟩,rfl,rfl⟩ ?_
 rintro mm _ _ ⟨k,⟨hk,hmm⟩,rfl,rfl⟩;refine PW.seq fun K11 hK11=>PW.ae (OL.p2 rfl rfl (OL.x (Yields.ld rfl (dh (p:=p) (E:=66) (tot:=102) zM2)) (OL.n2 rfl rfl (PW.k5 0 3 6 10 75 rfl ?_))))
 refine PW.cond rfl (fun c75=>?_) (fun c75=>?_)
 ·try simp only[aD] at c75
  have hgl:k<p.gone.length:=by omega
  obtain⟨ag,hag⟩:=bE hp.rdG (by omega)
  have hgr:Rd w0 (sgo::sga::[(r3,.cells (bG p) 66 102)]::S) (some ag) (aI p.gone):=by rw[<- hag];exact hp.rdG.cons.cons.cons
  have hgc:p.gone.length<=p.gc:=hp.rng.gcap
  have hgR:=hnew.goneR _ (List.getElem_mem hgl)
  refine PW.skip (hK11 _ _ (PW.k4 0 3 6 10 rfl (PW.seq fun K12 hK12=>PW.block (PW.seq fun K13 hK13=>PW.aQ mixed (QK.dp rfl (QK.x (Yields.ld rfl (dh (p:=p) (E:=66) (tot:=102) zM2)) (QK.dp rfl ?_)))))))
  rw[hag];refine QK.x (Yields.bO rfl rfl rfl hgl) (QK.x (Yields.aT rfl (aa _) (bS hgr hgl)) (QK.l rfl (de) ?_));refine QK.x (Yields.to (v':=.bool false) (Yields.eb (neg:=false) rfl rfl (aO _ _)) (congrArg Value.bool (by simpa using hgR.1))) ?_
  refine QK.dp rfl (QK.ak rfl (.pure rfl) (QK.ak rfl (.ld rfl (dh (p:=p) (E:=66) (tot:=102) zM2)) (QK.ak rfl (.pure rfl) ?_)));rw[hag];refine QK.ak rfl (.bO rfl rfl rfl hgl) (QK.ak rfl (.aT rfl (aa _) (bS hgr hgl)) (QK.call rfl rfl (dI) ?_));refine QK.ak rfl (.to (v':=.bool false) (Yields.eb (neg:=false) rfl rfl (aO _ _)) (congrArg Value.bool (by simpa using hgR.2))) ?_
  refine QK.p2 rfl rfl (QK.ak rfl (.pure rfl) (QK.ak rfl (.ld rfl (dh (p:=p) (E:=66) (tot:=102) zM2)) (QK.ak rfl (.pure rfl) ?_)));rw[hag];refine QK.ak rfl (.to (v':=.slice (some ag) k p.gc) (Yields.slS (A:=some ag) (len:=p.gone.length) (cap:=p.gc) (l:=0) (h:=k) rfl rfl rfl (.inr ⟨rfl,rfl⟩) (.inl rfl) (by omega) (by omega)) (cutV0 _ _ _ _)) (QK.ak rfl (.pure rfl) (QK.ak rfl (.ld rfl (dh (p:=p) (E:=66) (tot:=102) zM2)) (QK.ak rfl (.pure rfl) ?_)))
  rw[hag];refine QK.ak rfl (.bO rfl rfl rfl hgl) (QK.ak rfl (.aT rfl (aa _) (bS hgr hgl)) (QK.nil ?_));change OL _ _ _ [_,_] _ _ _;refine OL.call rfl rfl (by have:=rHasF_fc (w0:=w0) (S:=sgo::sga::[(r3,.cells (bG p) 66 102)]::S) (A:=some ag) (c:=p.gc) (l:=p.gone.take k) (v:=p.gone[k]) (hgr.pre (by rw[<- List.take_append_drop k p.gone,dc,List.take_append_drop];exact List.prefix_append _ _)) (by rw[List.length_take];omega) (nodup_take hnew.gone0 hgl);rw[List.length_take,Nat.min_eq_left (by omega)] at this;exact this) ?_
  rintro _ Sx ⟨rfl,hSx⟩;rw[hSx];clear hSx;refine OL.n1 rfl (hK13 _ _ (PW.k5 0 3 6 10 105 rfl (PW.ite (b:=false) rfl ?_)));rw[if_neg Bool.false_ne_true];refine PW.skip (hK12 _ _ (PW.k4 0 3 6 10 rfl (PW.ops (OL.dp rfl (OL.x (Yields.ao rfl rfl (by omega) (by omega)) (OL.n1 rfl ?_))))))
  refine af.mk (T'':=[(0,_),(3,_),(6,_),(10,_)]) (wi rfl) ?_;exact⟨p.gone.length-(k+1),by omega,k+1,⟨by omega,rfl⟩,rfl,rfl⟩
 try simp only[aD] at c75
 refine PW.exit (hK10 _ _ (PW.k3 0 3 6 rfl ?_));refine PW.seqS [(0,.slice A l.length c),(3,.pointer (some ⟨r3,0,none⟩)),(6,.slice Aa (bh (bW l)).length ca)] (sgo::sga::[(r3,.cells (bG p) 66 102)]::S) ?_ fun K14 hK14=>?_
 ·skip;refine PW.seq fun K15 hK15=>PW.s1 rfl (PW.k4 0 3 6 11 rfl (PW.block (PW.k4 0 3 6 11 rfl ?_)))
  refine PW.aR (I:=fun mm T S'=>∃k:Nat,(k<=p.gone.length/\mm=p.gone.length-k)/\T=([(0,.slice A l.length c),(3,.pointer (some ⟨r3,0,none⟩)),(6,.slice Aa (bh (bW l)).length ca),(11,.int .i64 k)]:TT)/\S'=sgo::sga::[(r3,.cells (bG p) 66 102)]::S) (m:=p.gone.length) ⟨0,⟨by omega,by omega⟩,rfl,rfl⟩ ?_
  rintro mm _ _ ⟨k,⟨hk,hmm⟩,rfl,rfl⟩;refine PW.seq fun K16 hK16=>PW.ae (OL.p2 rfl rfl (OL.x (Yields.ld rfl (dh (p:=p) (E:=66) (tot:=102) zM2)) (OL.n2 rfl rfl (PW.k5 0 3 6 11 136 rfl ?_))))
  refine PW.cond rfl (fun c136=>?_) (fun c136=>?_)
  ·try simp only[aD] at c136
   have hgl:k<p.gone.length:=by omega
   obtain⟨ag,hag⟩:=bE hp.rdG (by omega)
   have hgr:Rd w0 (sgo::sga::[(r3,.cells (bG p) 66 102)]::S) (some ag) (aI p.gone):=by rw[<- hag];exact hp.rdG.cons.cons.cons
   have hgc:p.gone.length<=p.gc:=hp.rng.gcap
   refine PW.skip (hK16 _ _ (PW.k4 0 3 6 11 rfl (PW.seq fun K17 hK17=>PW.block (PW.ae (OL.p2 rfl rfl (OL.x (Yields.ld rfl (dh (p:=p) (E:=66) (tot:=102) zM2)) (OL.dp rfl ?_)))))))
   rw[hag];refine OL.x (Yields.bO rfl rfl rfl hgl) (OL.x (Yields.aT rfl (aa _) (bS hgr hgl)) (OL.q rfl (rHasT_fc ((hra _).cons) (by omega) (hnew.gone _ (List.getElem_mem hgl))) (OL.n1 rfl (PW.k5 0 3 6 11 146 rfl (PW.ite (b:=false) rfl ?_)))))
   rw[if_neg Bool.false_ne_true];refine PW.skip (hK17 _ _ (PW.k4 0 3 6 11 rfl (PW.ops (OL.dp rfl (OL.x (Yields.ao rfl rfl (by omega) (by omega)) (OL.n1 rfl ?_))))))
   refine af.mk (T'':=[(0,_),(3,_),(6,_),(11,_)]) (wi rfl) ?_;exact⟨p.gone.length-(k+1),by omega,k+1,⟨by omega,rfl⟩,rfl,rfl⟩
  try simp only[aD] at c136
  refine PW.exit (hK15 _ _ (PW.k2 0 3 rfl (PW.seq fun K18 hK18=>PW.ae (OL.p2 rfl rfl (OL.x (Yields.aT rfl (aa _) (part_up (p:=p) (E:=66) (tot:=102) zM2)) (OL.dp rfl (OL.x (Yields.aT rfl (aa _) (dF (p:=p) (E:=66) (tot:=102) zM2)) (OL.q rfl (rBef_fc h.cons.cons.cons hline hnew.bef) (OL.dp rfl ?_)))))))))
  refine OL.nil (PW.k3 0 3 154 rfl (PW.ite (b:=false) rfl ?_));rw[if_neg Bool.false_ne_true];refine PW.skip (hK18 _ _ (PW.k2 0 3 rfl (PW.s1 rfl (PW.k3 0 3 12 rfl (PW.ae (OL.bZ (S':=[]::sgo::sga::[(r3,.cells (bG p) 66 102)]::S) (Sub.cL (Sub.refl _)) (OL.p2 rfl rfl (OL.c (appP2 (k:=0) (m:=0) (xs:=[]) (l:=l) rfl rfl (aV.nil 66 102) rfl rfl hrd.cons.cons.cons.cons hcA (by omega)) ?_))))))))
  rintro v158 _ ⟨sg158,rfl,hs158⟩;rw[Nat.zero_add,List.nil_append] at hs158;refine OL.n1 rfl (PW.k2 3 12 rfl (PW.ae (OL.dp rfl (OL.x (Yields.aT rfl (bm _) (av zM3)) ?_))));apply OL.bV (k:=0)
  ·rfl
  ·rfl
  ·exact(List.size_toArray).trans (bm _)
  ·rfl
  ·rfl
  ·rfl
  ·exact hs158
  ·exact partC_one _
  ·omega
  ·unfold maxLen;omega
  intro v162 sg162 hs162;exact OL.n2 rfl rfl (PW.k2 4 5 rfl (PW.ret (zR rfl ⟨_,Sub.cons (Sub.drop (Sub.drop (Sub.drop (Sub.refl _)))),_,sg162,rfl,rfl,by rw[List.length_append,partS_app];show aV 66 102 v162 (l.length+1) (dL l++(bG p++[])) sg162;rw[List.append_nil];exact hs162⟩)))
 skip;refine PW.seq fun K19 hK19=>PW.aQ mixed (QK.dp rfl (QK.x (Yields.aT rfl (aa _) (part_up (p:=p) (E:=66) (tot:=102) zM2)) (QK.l rfl (de) (QK.x (Yields.eb (neg:=true) rfl rfl (aO _ _)) ?_))))
 refine QK.bool trivial (Yields.pure rfl) (fun g111=>?_) (fun g111=>?_)
 ·try simp only[aD] at g111
  refine QK.ak rfl (.pure rfl) (QK.ak rfl (.pure rfl) (QK.ak rfl (.aT rfl (aa _) (part_up (p:=p) (E:=66) (tot:=102) zM2)) (QK.call rfl rfl (rHasT_fc ((hra _).cons) (by omega) (hup g111)) (QK.ak rfl (.pure rfl) (QK.p2 rfl rfl (QK.ak rfl (.pure rfl) (QK.ak rfl (.aT rfl (aa _) (dF (p:=p) (E:=66) (tot:=102) zM2)) (QK.call rfl rfl (dI) (QK.ak rfl (.eb (neg:=true) rfl rfl (aO _ _)) ?_)))))))))
  refine QK.bool rfl (Yields.pure rfl) (fun g123=>?_) (fun g123=>?_)
  ·try simp only[aD] at g123
   refine QK.ak rfl (.pure rfl) (QK.ak rfl (.pure rfl) (QK.ak rfl (.aT rfl (aa _) (dF (p:=p) (E:=66) (tot:=102) zM2)) (QK.nil ?_)));change OL _ _ _ [_,_,_,_] _ _ _;refine OL.call rfl rfl (rHasT_fc ((hra _).cons) (by omega) (hdn g123)) ?_
   rintro _ Sx ⟨rfl,hSx⟩;rw[hSx];clear hSx;refine OL.ak rfl (.pure rfl) (OL.ak rfl (.pure rfl) (OL.n1 rfl (hK19 _ _ (PW.k4 0 3 6 130 rfl (PW.ite (b:=false) rfl ?_)))));rw[if_neg Bool.false_ne_true];refine PW.skip ?_;exact hK14 _ _ ⟨rfl,rfl,rfl,trivial⟩ rfl
  try simp only[aD] at g123
  refine QK.off rfl rfl (QK.off rfl rfl (QK.off rfl rfl (QK.nil ?_)));change OL _ _ _ [_,_,_,_] _ _ _;refine OL.off rfl rfl (OL.off rfl rfl (OL.ak rfl (.pure rfl) (OL.n1 rfl (hK19 _ _ (PW.k4 0 3 6 130 rfl (PW.ite (b:=false) rfl ?_))))));rw[if_neg Bool.false_ne_true];refine PW.skip ?_;exact hK14 _ _ ⟨rfl,rfl,rfl,trivial⟩ rfl
 try simp only[aD] at g111
 refine QK.off rfl rfl (QK.off rfl rfl (QK.off rfl rfl (QK.off rfl rfl (QK.off rfl rfl (QK.p2 rfl rfl (QK.ak rfl (.pure rfl) (QK.ak rfl (.aT rfl (aa _) (dF (p:=p) (E:=66) (tot:=102) zM2)) (QK.call rfl rfl (dI) (QK.ak rfl (.eb (neg:=true) rfl rfl (aO _ _)) ?_)))))))));refine QK.bool rfl (Yields.pure rfl) (fun g123=>?_) (fun g123=>?_)
 ·try simp only[aD] at g123
  refine QK.ak rfl (.pure rfl) (QK.ak rfl (.pure rfl) (QK.ak rfl (.aT rfl (aa _) (dF (p:=p) (E:=66) (tot:=102) zM2)) (QK.nil ?_)));change OL _ _ _ [_,_,_,_] _ _ _;refine OL.call rfl rfl (rHasT_fc ((hra _).cons) (by omega) (hdn g123)) ?_
  rintro _ Sx ⟨rfl,hSx⟩;rw[hSx];clear hSx;refine OL.ak rfl (.pure rfl) (OL.ak rfl (.pure rfl) (OL.n1 rfl (hK19 _ _ (PW.k4 0 3 6 130 rfl (PW.ite (b:=false) rfl ?_)))));rw[if_neg Bool.false_ne_true];refine PW.skip ?_;exact hK14 _ _ ⟨rfl,rfl,rfl,trivial⟩ rfl
 try simp only[aD] at g123
 refine QK.off rfl rfl (QK.off rfl rfl (QK.off rfl rfl (QK.nil ?_)));change OL _ _ _ [_,_,_,_] _ _ _;refine OL.off rfl rfl (OL.off rfl rfl (OL.ak rfl (.pure rfl) (OL.n1 rfl (hK19 _ _ (PW.k4 0 3 6 130 rfl (PW.ite (b:=false) rfl ?_))))));rw[if_neg Bool.false_ne_true];refine PW.skip ?_;exact hK14 _ _ ⟨rfl,rfl,rfl,trivial⟩ rfl
end Go.Proofs.Gr

namespace Go.Proofs.Gr
open Go.SL Go.RowKit Go.Proofs Go.GP
section
variable (bf:ay->ay->Bool)
def ordF (a b:ay):Bool:=bf a b || bf b a
def midsF (l:List aG) (k:Nat):List Int:=((List.range k).filter fun i=>decide (0<i) && !ordF bf l[i-1]!.v l[i]!.v).map Int.ofNat
def blockF (l:List aG):aB:=⟨l,true,midsF bf l l.length⟩
def solidF (l:List aG) (x:aG):Bool:=l.all fun y=>decide (x.v=y.v) || ordF bf x.v y.v
def shutF (open_:List aG):List aB:=if open_=[] then [] else [blockF bf open_]
def stepF (l:List aG) (st:List aB×List aG) (x:aG):List aB×List aG:=
 if solidF bf l x then(st.1++shutF bf st.2++[⟨[x],false,[]⟩],[]) else(st.1,st.2++[x])
def foldF (l:List aG) (k:Nat):List aB×List aG:=(l.take k).foldl (stepF bf l) ([],[])
def itemsF (l:List aG):List aB:=(foldF bf l l.length).1++shutF bf (foldF bf l l.length).2
end
theorem itemsF_eq (ps:List ar) (l:List aG):itemsL ps l=itemsF (befP ps) l:=by
 have h1:stepI ps l=stepF (befP ps) l:=by
  funext st x;unfold stepI stepF shut shutF blockP blockF cP midsF cR solidF ordP ordF;rfl
 unfold itemsL itemsF foldI foldF;rw[h1];unfold shut shutF blockP blockF cP midsF ordP ordF;rfl
theorem befP_eq {ps:List ar}(hc:((bh ps).all fun a=>closedB (cN ps) a)=true):befP ps=befC ps:=by
 funext a b;rw[Bool.eq_iff_iff,befP_iff];by_cases ha:a∈bh ps
 ·exact(befC_iff (List.all_eq_true.1 hc a ha)).symm
 by_cases hr:a=aU
 ·unfold Bef befC;simp only[Bool.and_eq_true,hasC_iff,Bool.or_eq_true,decide_eq_true_eq,Bool.not_eq_true',decide_eq_false_iff_not,and_assoc,ne_eq,hr,true_or]
 have h1:¬Bef ps a b:=by
  rintro⟨h,_,_,h2,_⟩;rcases h with h|h|h
  ·exact hr h
  ·exact h2 h
  exact ha h
 have h2:befC ps a b=false:=by
  unfold befC hasC;by_cases he:a=bQ
  ·simp[he]
  simp[ha,hr,he]
 simp[h1,h2]
theorem items_comp {ps:List ar}(hc:((bh ps).all fun a=>closedB (cN ps) a)=true):b7 ps=itemsF (befC ps) (live (bC ps)):=by
 unfold b7;rw[itemsF_eq,befP_eq hc]
end Go.Proofs.Gr

namespace Go.Proofs.Gr
open Go.SL Go.RowKit Go.Proofs Go.GP Go.Proofs.Tryz
set_option maxHeartbeats 1000000
def mkP (b:UInt8) (up down:ay) (A:Option Addr) (c:Nat) (l:List ByteArray):aN:=⟨hb1 b,0,0,up,down,A,c,l,none,0,[]⟩
def zP:List Value:=List.replicate 32 (.int .u8 0)++[.int .i64 0,.int .i64 0]++au v0++au v0++[.slice none 0 0,.slice none 0 0]
theorem fI {a b c d e:List Value}{n:Nat}(h:c=a++(b++d)) (ha:a.length=n) (hb:b.length=e.length):setAt c n e=a++(e++d):=by
 subst h;rw[bU _ _ _ (by simp only[List.length_append];omega),List.take_append_of_le_length (by omega),List.take_of_length_le (by omega),List.drop_append,List.drop_eq_nil_of_le (by omega),List.drop_append,List.drop_eq_nil_of_le (by omega),show n+e.length-a.length-b.length=0 by omega]
 simp
theorem vtx_stk {w0:World}{S:SS}{P:Program}{n r k:Nat}{T:TT}{x v:PV}{u:ay}{z:List Value}(hk:S[k]? = some [(r,.cells z 27 33)]) (hx:x.val T=some (.pointer (some ⟨r,0,none⟩))) (hv:v.val T=some (aP u)) (hz:z.length=33) :
  OW P w0 n (.st 33 x v) T S (fun _ S'=>S'=S.set k (bs r u)):=by
 refine(OW.st (k:=k) (c:=z) (u:=aP u) hx hv hk ((List.size_toArray).trans (aa u)) (by omega) (bL u)).mono ?_
 rintro _ _ rfl;rw[bB,eP (by rw[aa,hz])]
def va:ay:=(hb1 1,0)
def vb:ay:=(hb1 1,1)
def k1:ar:=(mkP 1 aU bQ none 0 [fE 97,fE 98]).pl
theorem okRoot:er aU:=by unfold er;decide
theorem okEnd:er bQ:=by unfold er;decide
theorem GG.n100 {w0:World}{X:SS}{m:dV}{ps:List ar}(h:GG w0 X m ps) {p:ar}(hn:newC ps p=true):addE m.gr p=0/\came ps p=p::ps:=by
 have hnew:=newC_new h.sq ⟨_,h.inv⟩ hn
 exact⟨(addE_zero h.inv h.sq).2 hnew,came_new hnew⟩
theorem addF_fc {w0:World}{S:SS}{s:bD}{m:dV}{ps:List ar}{p:aN}(h:GG w0 [] m ps) (hp:PartRd w0 (s::S) p) (hn:newC ps p.pl=true) (hc:(bh ps).length+ps.length+p.lines.length+1<=1000000) (hlim:m.lim+addL p<=500000000000) :
  FC prog w0 25 [m.ptr,fz p] (s::(GS m++S)) (fun v S'=>∃m',v=.int .i64 0/\S'=GS m'++(s::S)/\GG w0 [] m' (p.pl::ps)/\m'.lim<=m.lim+addL p/\m'.r=m.r):=by
 refine(FC.bZ gs_a (add2_fc (S:=s::S) h over_nil hp.rng hp.rdL hp.rdG hc hlim)).mono ?_;rintro _ _ ⟨m1,rfl,rfl,hg1,hl1,hr1,_⟩;obtain⟨hz,hcm⟩:=h.n100 hn;rw[hcm] at hg1;exact⟨m1,by rw[hz],rfl,hg1,hl1,hr1⟩
end Go.Proofs.Gr





namespace Go.Proofs.Gr
open Go.SL Go.RowKit Go.Proofs Go.GP
set_option maxHeartbeats 1000000
theorem str_cell {w0:World}{S:SS}{a:Addr}{l:List ByteArray}(h:Rd w0 S (some a) (strs l)) {k:Nat}(hk:k<l.length):Cell w0 S (a.add k) (.string l[k]):=dD h hk
theorem cG {T:TT}{a b d:List Value}{n k:Nat}{x:PV}{v:Value}{r:List (Nat×Nat×PV)}(hx:x.val T=some v) (ha:a.length=n) (hb:b.length=k) (hv:v.cells.toList.length=k) :
  dw T (a++(b++d)) ((n,k,x)::r)=dw T ((a++v.cells.toList)++d) r:=by
 simp only[dw,hx];rw[if_pos ⟨by rw[<- Array.length_toList];exact hv,by simp only[List.length_append];omega⟩,fI rfl ha (hb.trans hv.symm),List.append_assoc]
theorem fill_part7 {T:TT}{p:aN}{x1 x2 x3 x4 x5 x6 x7:PV}(h1:x1.val T=some (.agg (bd p.patch.1).toArray)) (h2:x2.val T=some (.int .i64 p.at_)) (h3:x3.val T=some (.int .i64 p.first)) (h4:x4.val T=some (aP p.up)) (h5:x5.val T=some (aP p.down))
  (h6:x6.val T=some (.slice p.LA p.lines.length p.lc)) (h7:x7.val T=some (.slice p.GA p.gone.length p.gc)) :
  dw T zP [(0,32,x1),(32,1,x2),(33,1,x3),(34,33,x4),(67,33,x5),(100,1,x6),(101,1,x7)] = some (bG p):=by
 have hb:=cz p.patch
 have hu:=aa p.up
 have hd:=aa p.down
 have h0:=aa v0
 have e0:zP=[]++(List.replicate 32 (.int .u8 0)++([.int .i64 0]++([.int .i64 0]++(au v0++(au v0++([.slice none 0 0]++([.slice none 0 0]++[]))))))):=by unfold zP;simp only[List.append_assoc,List.nil_append,List.append_nil];rfl
 have c1:(Value.agg (bd p.patch.1).toArray).cells.toList=bd p.patch.1:=rfl
 have c4:(aP p.up).cells.toList=au p.up:=rfl
 have c5:(aP p.down).cells.toList=au p.down:=rfl
 have c2:∀(k:IntKind) (z:Int),(Value.int k z).cells.toList=[.int k z]:=fun _ _=>rfl
 have c6:∀(A:Option Addr) (n c:Nat),(Value.slice A n c).cells.toList=[.slice A n c]:=fun _ _ _=>rfl
 rw[e0,cG (a:=[]) (n:=0) (k:=32) h1 rfl List.length_replicate (by rw[c1];exact hb),c1,cG (k:=1) (b:=[.int .i64 0]) h2 (by simp only[List.length_append,List.length_nil];omega) rfl rfl,c2,
  cG (k:=1) (b:=[.int .i64 0]) h3 (by simp only[List.length_append,List.length_nil,List.length_cons];omega) rfl rfl,c2,cG h4 (by simp only[List.length_append,List.length_nil,List.length_cons];omega) h0 (by rw[c4];exact hu),c4,
  cG h5 (by simp only[List.length_append,List.length_nil,List.length_cons];omega) h0 (by rw[c5];exact hd),c5,cG (k:=1) (b:=[.slice none 0 0]) h6 (by simp only[List.length_append,List.length_nil,List.length_cons];omega) rfl rfl,c6,
  cG (k:=1) (b:=[.slice none 0 0]) h7 (by simp only[List.length_append,List.length_nil,List.length_cons];omega) rfl rfl,c6]
 rw[da];simp only[dw,List.append_assoc,List.nil_append,List.append_nil]
structure PartsIn (w0:World) (A:Option Addr) (l:List aN):Prop where
 rd:Rd w0 [] A (dL l)
 part:∀x∈l,PartA w0 x
 len:l.length<=1000000000000000
theorem PartB.rdS {w0:World}{S:SS}{p:aN}(h:PartB w0 p):PartRd w0 S p:=⟨h.rdL.any,h.rdG.any,h.rng,by have:=h.small;omega⟩
section
variable {w0:World}{S:SS}{a:Addr}{l:List aN}{k:Nat}
theorem partS_first (h:Rd w0 S (some a) (dL l)) (hk:k<l.length):Cell w0 S ((a.add (k*102)).add 33) (.int .i64 l[k].first):=eL h hk _ _ (partC_at _).2.1
theorem partS_lines (h:Rd w0 S (some a) (dL l)) (hk:k<l.length):Cell w0 S ((a.add (k*102)).add 100) (.slice l[k].LA l[k].lines.length l[k].lc):=eL h hk _ _ (partC_at _).2.2.1
theorem partS_gone (h:Rd w0 S (some a) (dL l)) (hk:k<l.length):Cell w0 S ((a.add (k*102)).add 101) (.slice l[k].GA l[k].gone.length l[k].gc):=eL h hk _ _ (partC_at _).2.2.2
end
theorem gs_h {a:dV}{s t u:bD}{S:SS}:Sub (GS a++(u::S)) (u::(GS a++(t::s::S))):=Sub.ec [1,2,3,4,0] 7 (by decide) (u::(GS a++(t::s::S)))
theorem gs_i {a:dV}{s t:bD}{S:SS}:Sub (GS a++(s::S)) (GS a++(t::s::S)):=Sub.ec [0,1,2,3,5] 6 (by decide) (GS a++(t::s::S))
theorem gs_j {a:dV}{S:SS}:Sub (GS a++([]::S)) (GS a++S):=⟨by simp,by simp⟩
theorem line_pls {w0:World}{X:SS}{m:dV}{l:List aN}(h:GG w0 X m (bW l).reverse):∀v∈bh (bW l),v≠aU/\v≠bQ:=fun v hv=>h.sq.line (by
 obtain⟨p,hp,hv⟩:=bN.1 hv;exact bN.2 ⟨p,List.mem_reverse.2 hp,hv⟩)
theorem new_rev {l:List ar}{p:ar}(h:New l.reverse p):New l p:=by
 have hv:∀v,v∈bh l.reverse↔v∈bh l:=fun v=>by simp only[bN,List.mem_reverse]
 exact h.more (fun q hq=>List.mem_reverse.1 hq) (fun q hq=>h.name q (List.mem_reverse.2 hq)) (fun v hv1 hv2=>h.own v hv1 ((hv v).2 hv2))
end Go.Proofs.Gr

namespace Go.Proofs.Gr
open Go.SL Go.RowKit Go.Proofs Go.GP
def Row (ps:List ar) (L:List aG):Prop:=L.Pairwise fun a b=>a.v≠b.v/\befP ps b.v a.v=false
section
variable {ps:List ar}{L:List aG}
theorem Row.at (h:Row ps L) {i j:Nat}(hi:i<j) (hj:j<L.length):(L[i]'(by omega)).v≠L[j].v/\befP ps L[j].v (L[i]'(by omega)).v=false:=
 List.pairwise_iff_getElem.1 h i j (by omega) hj hi
theorem Row.bef (h:Row ps L) {i j:Nat}(hi:i<j) (hj:j<L.length) (ho:ordP ps (L[i]'(by omega)).v L[j].v=true):befP ps (L[i]'(by omega)).v L[j].v=true:=by
 unfold ordP at ho;rw[(h.at hi hj).2,Bool.or_false] at ho;exact ho
theorem Row.ne (h:Row ps L) {i j:Nat}(hi:i<L.length) (hj:j<L.length) (hn:i≠j):L[i].v≠L[j].v:=by
 rcases Nat.lt_or_gt_of_ne hn with h1|h1
 ·exact(h.at h1 hj).1
 exact(h.at h1 hi).1.symm
theorem solid_ix (h:Row ps L) {i:Nat}(hi:i<L.length):cR ps L L[i] = true↔∀(k:Nat) (hk:k<L.length),k≠i->ordP ps L[i].v L[k].v=true:=by
 unfold cR;rw[List.all_eq_true];constructor
 ·intro h1 k hk hn;have:=h1 L[k] (List.getElem_mem hk)
  rw[decide_eq_false (h.ne hi hk (fun e=>hn e.symm)),Bool.false_or] at this
  exact this
 intro h1 x hx;obtain⟨k,hk,rfl⟩:=List.getElem_of_mem hx;by_cases e:k=i
 ·subst e;simp
 rw[h1 k hk e,Bool.or_true]
theorem lone (hs:Sq ps) (h:Row ps L) {p:Nat}(hp:p<L.length) (hn:cR ps L L[p] = false) (h1:∀q,q+1=p->∀hq:q<L.length,cR ps L L[q] = true) (h2:∀hq:p+1<L.length,cR ps L L[p+1] = true):False:=by
 have hall:cR ps L L[p] = true:=by
  rw[solid_ix h hp];intro k hk hne;rcases Nat.lt_or_gt_of_ne hne with hlt|hgt
  ·-- k<p
   by_cases e:k+1=p
   ·have hs1:=(solid_ix h hk).1 (h1 k e hk) p hp (by omega)
    rw[ordP_comm];exact hs1
   have hq:p-1<L.length:=by omega
   have hsq:=(solid_ix h hq).1 (h1 (p-1) (by omega) hq)
   have b1:=h.bef (i:=k) (j:=p-1) (by omega) hq (by rw[ordP_comm];exact hsq k hk (by omega))
   have b2:=h.bef (i:=p-1) (j:=p) (by omega) hp (hsq p hp (by omega))
   unfold ordP;rw[befP_trans hs b1 b2,Bool.or_true]
  by_cases e:k=p+1
  ·subst e;have hs1:=(solid_ix h hk).1 (h2 hk) p hp (by omega)
   rw[ordP_comm];exact hs1
  have hq:p+1<L.length:=by omega
  have hsq:=(solid_ix h hq).1 (h2 hq)
  have b1:=h.bef (i:=p) (j:=p+1) (by omega) hq (by rw[ordP_comm];exact hsq p hp (by omega))
  have b2:=h.bef (i:=p+1) (j:=k) (by omega) hk (hsq k hk (by omega))
  unfold ordP;rw[befP_trans hs b1 b2,Bool.true_or]
 rw[hn] at hall;cases hall
structure GoodI (ps:List ar) (L:List aG) (I:List aB):Prop where
 one:∀x∈I,(x.block=true->2<=x.lines.length)/\(x.block=false->x.lines.length=1)/\∀y∈x.lines,cR ps L y=!x.block
 adj:∀(i:Nat) (a b:aB),I[i]? = some a->I[i+1]? = some b->a.block=true->b.block=true->False
theorem GoodI.snoc {I:List aB}{x:aB}(h:GoodI ps L I) (h1:(x.block=true->2<=x.lines.length)/\(x.block=false->x.lines.length=1)/\∀y∈x.lines,cR ps L y=!x.block)
  (h2:x.block=true->∀a,I.getLast? = some a->a.block=false):GoodI ps L (I++[x]) where
 one:=fun y hy=>by
  rcases List.mem_append.1 hy with hy|hy
  ·exact h.one y hy
  rw[List.mem_singleton.1 hy];exact h1
 adj:=fun i a b ha hb hab hbb=>by
  have hi:=(List.getElem?_eq_some_iff.1 hb).1
  rw[List.length_append] at hi;simp only[List.length_cons,List.length_nil] at hi;rw[List.getElem?_append_left (by omega)] at ha
  by_cases e:i+1<I.length
  ·rw[List.getElem?_append_left e] at hb;exact h.adj i a b ha hb hab hbb
  have e2:i+1=I.length:=by omega
  rw[List.getElem?_append_right (by omega),e2,Nat.sub_self] at hb
  have hbx:x=b:=by simpa using hb
  subst hbx;have:=h2 hbb a (by rw[List.getLast?_eq_getElem?,<- ha];congr 1;omega)
  rw[hab] at this;cases this
structure St (ps:List ar) (L:List aG) (k:Nat) (I:List aB) (op:List aG):Prop where
 good:GoodI ps L I
 all:I.flatMap (·.lines)++op=L.take k
 last:∀a,I.getLast? = some a->a.block=false
 open_ : ∀ x ∈ op, cR ps L x = false
 ahead:∀q,q+op.length+1=k->∀hq:q<L.length,cR ps L L[q] = true
theorem St.opLen {k:Nat}{I:List aB}{op:List aG}(h:St ps L k I op) (hk:k<=L.length):op.length<=k:=by
 have:=congrArg List.length h.all
 rw[List.length_append,List.length_take] at this;omega
theorem St.opAt {k:Nat}{I:List aB}{op:List aG}(h:St ps L k I op) (hk:k<=L.length) {x:aG}(hx:op=[x]):∃p,∃hp:p<L.length,p+1=k/\L[p] = x:=by
 subst hx;have hl:=congrArg List.length h.all
 rw[List.length_append,List.length_take] at hl;simp only[List.length_cons,List.length_nil] at hl;refine⟨k-1,by omega,by omega,?_⟩
 have e:(L.take k)[k-1]? = some x:=by
  rw[<- h.all,List.getElem?_append_right (by omega),show k-1-(I.flatMap (·.lines)).length=0 by omega]
  rfl
 rw[List.getElem?_take_of_lt (by omega),List.getElem?_eq_getElem (by omega)] at e
 exact Option.some.inj e
theorem St.shut {k:Nat}{I:List aB}{op:List aG}(hs:Sq ps) (hr:Row ps L) (h:St ps L k I op) (hk:k<=L.length) (hn:∀hq:k<L.length,cR ps L L[k] = true) :
  GoodI ps L (I++shut ps op)/\(I++shut ps op).flatMap (·.lines)=L.take k:=by
 unfold Gr.shut;by_cases e:op=[]
 ·rw[if_pos e,List.append_nil];have:=h.all
  rw[e,List.append_nil] at this;exact⟨h.good,this⟩
 rw[if_neg e];refine⟨h.good.snoc ⟨fun _=>?_,(fun hb=>by cases hb),fun y hy=>h.open_ y hy⟩ fun _=>h.last,?_⟩
 ·show 2<=op.length
  match op,e,h with
  |[x],_,h=>
   exfalso;obtain⟨p,hp,hpk,hx⟩:=h.opAt hk rfl;have hns:cR ps L L[p] = false:=by rw[hx];exact h.open_ x (by simp)
   subst hpk;exact lone hs hr hp hns (fun q hq hql=>h.ahead q (by simp only[List.length_cons,List.length_nil];omega) hql) hn
  |_::_::_,_,_=>simp only[List.length_cons];omega
 rw[List.flatMap_append,<- h.all];simp[blockP]
theorem St.step {k:Nat}{I:List aB}{op:List aG}(hs:Sq ps) (hr:Row ps L) (h:St ps L k I op) (hk:k<L.length):St ps L (k+1) (stepI ps L (I,op) L[k]).1 (stepI ps L (I,op) L[k]).2:=by
 unfold stepI;by_cases e:cR ps L L[k] = true
 ·rw[if_pos e];obtain⟨g,a⟩:=h.shut hs hr (by omega) (fun _=>e)
  refine⟨g.snoc ⟨(fun hb=>by cases hb),fun _=>rfl,fun y hy=>?_⟩ (fun hb=>by cases hb),?_,fun a ha=>?_,(fun x hx=>by cases hx),fun q hq hql=>?_⟩
  ·rw[List.mem_singleton.1 hy];exact e
  ·show(I++Gr.shut ps op++[(⟨[L[k]],false,[]⟩:aB)]).flatMap (fun x:aB=>x.lines)++[] = _
   rw[List.flatMap_append,a,List.append_nil,aA hk];rfl
  ·have:(I++Gr.shut ps op++[(⟨[L[k]],false,[]⟩:aB)]).getLast? = some ⟨[L[k]],false,[]⟩:=by rw[List.getLast?_append];rfl
   rw[show(I++Gr.shut ps op++[(⟨[L[k]],false,[]⟩:aB)]).getLast? = some a from ha] at this
   cases this
   rfl
  have:q=k:=by simp only[List.length_nil] at hq;omega
  subst this;exact e
 rw[if_neg e];refine⟨h.good,?_,h.last,fun x hx=>?_,fun q hq hql=>h.ahead q ?_ hql⟩
 ·show I.flatMap (·.lines)++(op++[L[k]])=_
  rw[<- List.append_assoc,h.all,aA hk]
 ·rcases List.mem_append.1 hx with hx|hx
  ·exact h.open_ x hx
  rw[List.mem_singleton.1 hx];exact Bool.eq_false_iff.2 e
 have:(op++[L[k]]).length=op.length+1:=by simp
 have hq:q+(op++[L[k]]).length+1=k+1:=hq
 omega
theorem St.fold (hs:Sq ps) (hr:Row ps L):∀k,k<=L.length->St ps L k (foldI ps L k).1 (foldI ps L k).2
 |0,_=>⟨⟨(fun x hx=>by cases hx),fun i a b ha=>by cases ha⟩,rfl,(fun a ha=>by cases ha),(fun x hx=>by cases hx),fun q hq=>by omega⟩
 |k+1,hk=>by
  have:=(St.fold hs hr k (by omega)).step hs hr hk
  rw[fy hk];exact this
theorem itemsL_good (hs:Sq ps) (hr:Row ps L):GoodI ps L (itemsL ps L)/\(itemsL ps L).flatMap (·.lines)=L:=by
 have:=(St.fold hs hr L.length (Nat.le_refl _)).shut hs hr (Nat.le_refl _) fun h=>absurd h (Nat.lt_irrefl _)
 rw[List.take_length] at this;exact this
theorem linesP_row {ps:List ar}(hs:Sq ps):Row ps (live (bC ps)):=by
 refine List.Pairwise.sublist List.filter_sublist ?_;rw[List.pairwise_iff_getElem];intro i j hi hj hij;refine⟨fun e=>?_,linesP_order hs hj (by omega)⟩
 have hn:=topoF_nodup hs
 have hlt:(bC ps).length=(eF ps).length:=List.length_map _
 have e1:∀(k:Nat) (hk:k<(bC ps).length),(bC ps)[k].v=(eF ps)[k]'(by omega):=fun k hk=>by simp[bC,lineP]
 rw[e1,e1] at e;have:=(List.getElem_inj hn).1 e
 omega
theorem itemsP_good {ps:List ar}(hs:Sq ps):GoodI ps (live (bC ps)) (b7 ps)/\(b7 ps).flatMap (·.lines)=live (bC ps):=itemsL_good hs (linesP_row hs)
end
end Go.Proofs.Gr



namespace Go.Proofs.Gr
open Go.SL Go.RowKit Go.Proofs Go.GP Go.Proofs.Tryz
set_option maxHeartbeats 1000000
theorem bef_line {l:List aN}(hsq:Sq (bW l).reverse) {a b:ay}(ha:a∈bh (bW l)) (hb:b∈bh (bW l)) (hab:a≠b):befP (bW l).reverse a b=true↔Rch (cN (bW l)) a b:=by
 have hv:∀v∈bh (bW l),v∈bh (bW l).reverse:=fun v hv=>by
  obtain⟨p,hp,hv⟩:=bN.1 hv;exact bN.2 ⟨p,List.mem_reverse.2 hp,hv⟩
 have he:∀e,e∈cN (bW l).reverse↔e∈cN (bW l):=fun e=>by simp only[fF,List.mem_reverse]
 rw[befP_iff];obtain⟨a1,a2⟩:=hsq.line (hv a ha);obtain⟨b1,b2⟩:=hsq.line (hv b hb);constructor
 ·intro h;exact((h.2.2.2.2.2.resolve_left a1).resolve_left b2).mono fun e h=>(he e).1 h
 intro h;exact⟨.inr (.inr (hv a ha)),.inr (.inr (hv b hb)),hab,a2,b1,.inr (.inr (h.mono fun e h=>(he e).2 h))⟩
theorem rBefL_fc {w0:World}{S:SS}{A:Option Addr}{c:Nat}{l:List aN}{a b:ay}(h:du w0 S A l) (hsq:Sq (bW l).reverse) (ha:a∈bh (bW l)) (hb:b∈bh (bW l)) (hab:a≠b) :
  FC prog w0 63 [.slice A l.length c,aP a,aP b] S (fun v S'=>v=.bool (befP (bW l).reverse a b)/\S'=S):=by
 have hv:∀v∈bh (bW l),v∈bh (bW l).reverse:=fun v hv=>by
  obtain⟨p,hp,hv⟩:=bN.1 hv;exact bN.2 ⟨p,List.mem_reverse.2 hp,hv⟩
 obtain⟨a1,a2⟩:=hsq.line (hv a ha);obtain⟨b1,b2⟩:=hsq.line (hv b hb);exact rBefA_fc h ha hb hab a2 b1 a1 b2 (bef_line hsq ha hb hab)
theorem rOrd_fc {w0:World}{S:SS}{A:Option Addr}{c:Nat}{l:List aN}{a b:ay}(h:du w0 S A l) (hsq:Sq (bW l).reverse) (ha:a∈bh (bW l)) (hb:b∈bh (bW l)) (hab:a≠b) :
  FC prog w0 75 [.slice A l.length c,aP a,aP b] S (fun v S'=>v=.bool (ordP (bW l).reverse a b)/\S'=S):=by
 refine FC.ofD known75 (by simp) ?_
 unfold pc75;simp only[bo];refine PW.ae (OL.c (OW.bx rfl) ?_);rintro _ _ ⟨r4,rfl,rfl⟩;rw[bB,aa];refine OL.c (OW.bx rfl) ?_;rintro _ _ ⟨r5,rfl,rfl⟩;rw[bB,aa];refine OL.n1 rfl (PW.k3 0 4 5 rfl (PW.ae (OL.dp rfl (OL.x (Yields.aT rfl (aa _) (av dm)) (OL.x (Yields.aT rfl (aa _) (av bF)) (OL.q rfl (rBefL_fc h.cons.cons hsq ha hb hab) ?_))))));refine OL.bool trivial (Yields.pure rfl) (fun g11=>?_) (fun g11=>?_)
 ·try simp only[aD] at g11
  exact OL.off rfl rfl (OL.off rfl rfl (OL.off rfl rfl (OL.off rfl rfl (OL.n2 rfl rfl (PW.k1 6 rfl (PW.ret (zR rfl ⟨_,Sub.drop (Sub.drop (Sub.refl _)),by unfold ordP;rw[g11];rfl,rfl⟩)))))))
 try simp only[aD] at g11
 refine OL.ak rfl (.pure rfl) (OL.ak rfl (.aT rfl (aa _) (av bF)) (OL.ak rfl (.aT rfl (aa _) (av dm)) (OL.call rfl rfl (rBefL_fc h.cons.cons hsq hb ha hab.symm) ?_)));rintro _ Sx ⟨rfl,hSx⟩;rw[hSx];clear hSx;exact OL.n2 rfl rfl (PW.k1 6 rfl (PW.ret (zR rfl ⟨_,Sub.drop (Sub.drop (Sub.refl _)),by unfold ordP;rw[g11];rfl,rfl⟩)))
theorem rSolid_fc {w0:World}{S:SS}{A B:Option Addr}{c d i:Nat}{l:List aN}{L:List aG}{r:Bool}(h:du w0 S A l) (hsq:Sq (bW l).reverse) (hx:Rd w0 S B (lines L)) (hv:∀x∈L,x.v∈bh (bW l)) (hnd:∀(j k:Nat) (hj:j<L.length) (hk:k<L.length),j≠k->L[j].v≠L[k].v) (hi:i<L.length) (hb:L.length<=1000000)
  (hr:r=true↔∀(k:Nat) (hk:k<L.length),k≠i->ordP (bW l).reverse L[i].v L[k].v=true):FC prog w0 74 [.slice A l.length c,.slice B L.length d,.int .i64 (i:Int)] S (fun v S'=>v=.bool r/\S'=S):=by
 obtain⟨a0,rfl⟩:=bR hx (by omega)
 refine FC.of known74 (by simp) ?_
 unfold pc74;simp only[bo];refine PW.s1 rfl (PW.k3 0 1 2 rfl (PW.seq fun K1 hK1=>PW.s1 rfl (PW.k4 0 1 2 7 rfl (PW.block (PW.k4 0 1 2 7 rfl ?_)))))
 refine PW.aR (I:=fun mm T S'=>∃k:Nat,(k<=L.length/\mm=L.length-k/\∀(j:Nat) (hj:j<L.length),j<k->j≠i->ordP (bW l).reverse L[i].v L[j].v=true)/\T=([(0,.slice A l.length c),(1,.slice (some a0) L.length d),(2,.int .i64 (i:Int)),(7,.int .i64 k)]:TT)/\S'=S) (m:=L.length) ⟨0,⟨by omega,by omega,fun j _ h=>absurd h (Nat.not_lt_zero j)⟩,rfl,rfl⟩ ?_
 rintro mm _ _ ⟨k,⟨hk,hmm,hall⟩,rfl,rfl⟩;refine PW.seq fun K2 hK2=>PW.s4 rfl rfl rfl rfl (PW.k5 0 1 2 7 11 rfl ?_)
 refine PW.cond rfl (fun c11=>?_) (fun c11=>?_)
 ·try simp only[aD] at c11
  have hkl:k<L.length:=by omega
  refine PW.skip (hK2 _ _ (PW.k4 0 1 2 7 rfl (PW.seq fun K3 hK3=>PW.block (PW.seq fun K4 hK4=>PW.aQ mixed (QK.p3 rfl rfl rfl ?_)))))
  refine QK.bool trivial (Yields.pure rfl) (fun g17=>?_) (fun g17=>?_)
  ·try simp only[aD] at g17
   refine QK.ak rfl (.pure rfl) (QK.ak rfl (.pure rfl) (QK.ak rfl (.pure rfl) (QK.ak rfl (.bO rfl rfl rfl hi) (QK.ak rfl (.pure rfl) (QK.ak rfl (.aT rfl (aa _) (fJ hx hi)) (QK.ak rfl (.pure rfl) (QK.ak rfl (.pure rfl) (QK.ak rfl (.bO rfl rfl rfl hkl) (QK.ak rfl (.pure rfl) (QK.ak rfl (.aT rfl (aa _) (fJ hx hkl)) (QK.nil ?_)))))))))));change OL _ _ _ [_,_,_] _ _ _;refine OL.call rfl rfl (rOrd_fc h hsq (hv _ (List.getElem_mem hi)) (hv _ (List.getElem_mem hkl)) (hnd _ _ hi hkl (by omega))) ?_
   rintro _ Sx ⟨rfl,hSx⟩;rw[hSx];clear hSx;refine OL.ak rfl (.pure rfl) (OL.n1 rfl (hK4 _ _ (PW.k5 0 1 2 7 31 rfl ?_)));refine PW.cond rfl (fun c31=>?_) (fun c31=>?_)
   ·try simp only[aD] at c31
    refine PW.s1 rfl (PW.k1 6 rfl ?_);refine PW.ret (zR rfl ?_);exact⟨congrArg Value.bool (Bool.eq_false_iff.2 fun h=>by
     have:=hr.1 h k hkl (by omega)
     rw[c31] at this;cases this).symm,rfl⟩
   try simp only[aD] at c31
   refine PW.skip (hK3 _ _ (PW.k4 0 1 2 7 rfl (PW.ops (OL.dp rfl (OL.x (Yields.ao rfl rfl (by omega) (by omega)) (OL.n1 rfl ?_))))))
   refine af.mk (T'':=[(0,_),(1,_),(2,_),(7,_)]) (wi rfl) ?_;exact⟨L.length-(k+1),by omega,k+1,⟨by omega,rfl,fun j hj hjk hn=>by
    by_cases e:j=k
    ·subst e;exact c31
    exact hall j hj (by omega) hn⟩,rfl,rfl⟩
  try simp only[aD] at g17
  refine QK.off rfl rfl (QK.off rfl rfl (QK.off rfl rfl (QK.off rfl rfl (QK.off rfl rfl (QK.off rfl rfl (QK.off rfl rfl (QK.off rfl rfl (QK.off rfl rfl (QK.off rfl rfl (QK.off rfl rfl (QK.nil ?_)))))))))));change OL _ _ _ [_,_,_] _ _ _;refine OL.off rfl rfl (OL.off rfl rfl (OL.n1 rfl (hK4 _ _ (PW.k5 0 1 2 7 31 rfl (PW.ite (b:=false) rfl ?_)))));rw[if_neg Bool.false_ne_true];refine PW.skip (hK3 _ _ (PW.k4 0 1 2 7 rfl (PW.ops (OL.dp rfl (OL.x (Yields.ao rfl rfl (by omega) (by omega)) (OL.n1 rfl ?_))))))
  refine af.mk (T'':=[(0,_),(1,_),(2,_),(7,_)]) (wi rfl) ?_;exact⟨L.length-(k+1),by omega,k+1,⟨by omega,rfl,fun j hj hjk hn=>by
   by_cases e:j=k
   ·exact absurd e (by omega)
   exact hall j hj (by omega) hn⟩,rfl,rfl⟩
 try simp only[aD] at c11
 exact PW.exit (hK1 _ _ (PW.cD (T':=[]) trivial (PW.s1 rfl (PW.k1 6 rfl (PW.ret (zR rfl ⟨congrArg Value.bool (hr.2 fun j hj hn=>hall j hj (by omega) hn).symm,rfl⟩))))))
theorem cmp_at:∀{x y:List UInt8}{k:Nat}(hx:k<x.length) (hy:k<y.length),x.take k=y.take k->x[k]≠y[k]->Lib.compareBytes x y=if x[k]<y[k] then -1 else 1
 |a::x,b::y,0,_,_,_,hn=>by
  simp only[List.getElem_cons_zero] at hn ⊢;unfold Lib.compareBytes;by_cases h1:a<b
  ·rw[if_pos h1,if_pos h1]
  rw[if_neg h1,if_neg h1,if_pos];have h3:a.toNat≠b.toNat:=fun e=>hn (UInt8.toNat_inj.1 e)
  rw[UInt8.lt_iff_toNat_lt] at h1 ⊢;omega
 |a::x,b::y,k+1,hx,hy,ht,hn=>by
  rw[List.take_succ_cons,List.take_succ_cons] at ht;obtain⟨rfl,ht2⟩:=List.cons.inj ht;simp only[List.getElem_cons_succ] at hn ⊢;have hx':k<x.length:=by simpa using hx
  have hy':k<y.length:=by simpa using hy
  have:=cmp_at hx' hy' ht2 hn
  unfold Lib.compareBytes;rw[if_neg (UInt8.lt_irrefl a),if_neg (UInt8.lt_irrefl a)];exact this
theorem cmp_self:∀(x:List UInt8),Lib.compareBytes x x=0
 |[]=>rfl
 |a::x=>by
  unfold Lib.compareBytes;rw[if_neg (UInt8.lt_irrefl a),if_neg (UInt8.lt_irrefl a)];exact cmp_self x
theorem hlen (v:ay):v.1.1.length=32:=v.1.2
theorem lt_at {a b:ay}{k:Nat}(hx:k<a.1.1.length) (hy:k<b.1.1.length) (ht:a.1.1.take k=b.1.1.take k) (hn:a.1.1[k]≠b.1.1[k]):cy a b=decide ((a.1.1[k].toNat:Int)<b.1.1[k].toNat):=by
 unfold cy ordV orL;rw[cmp_at hx hy ht hn];by_cases h:a.1.1[k]<b.1.1[k]
 ·rw[if_pos h];have:=UInt8.lt_iff_toNat_lt.1 h
  rw[decide_eq_true (show(a.1.1[k].toNat:Int)<b.1.1[k].toNat by omega)]
  rfl
 rw[if_neg h];have h2:¬a.1.1[k].toNat<b.1.1[k].toNat:=fun h3=>h (UInt8.lt_iff_toNat_lt.2 h3)
 rw[decide_eq_false (show ¬(a.1.1[k].toNat:Int)<b.1.1[k].toNat by omega)]
 rfl
theorem lt_end {a b:ay}(h:a.1.1=b.1.1):cy a b=decide (a.2<b.2):=by
 unfold cy ordV;rw[h,cmp_self];unfold orL;rw[if_neg (by simp)]
 unfold orL cmpI;by_cases h1:a.2<b.2
 ·simp[h1]
 by_cases h2:a.2 > b.2
 ·simp[h1,h2]
 simp[h1,h2,orL]
theorem vbyte {w0:World}{S:SS}{r E tot k:Nat}{v:ay}(hm:(r,AO.cells (au v) E tot)∈S.flatten) (hk:k<v.1.1.length):Cell w0 S (((⟨r,0,none⟩:Addr).add 0).add k) (.int .u8 (v.1.1[k].toNat:Int)):=by
 rw[aZ,Nat.zero_add];refine av hm k _ ?_;have hb:(bd v.1.1).length=v.1.1.length:=by simp[bd]
 unfold au;rw[List.getElem?_append_left (by omega)]
 simp[bd,hk]
theorem vnum {w0:World}{S:SS}{r E tot:Nat}{v:ay}(hm:(r,AO.cells (au v) E tot)∈S.flatten):Cell w0 S ⟨r,32,none⟩ (.int .i64 v.2):=az hm (by
 have hb:(bd v.1.1).length=32:=by simp[bd,hlen]
 unfold au;rw[List.getElem?_append_right (by omega),hb]
 rfl)
theorem rLess_fc {w0:World}{S:SS}{a b:ay}:FC prog w0 108 [aP a,aP b] S (fun v S'=>v=.bool (cy a b)/\S'=S):=by
 have hla:=hlen a
 have hlb:=hlen b
 refine FC.ofD known108 (by simp) ?_
 unfold pc108;simp only[bo];refine PW.ae (OL.c (OW.bx rfl) ?_);rintro _ _ ⟨r2,rfl,rfl⟩;rw[bB,aa];refine OL.c (OW.bx rfl) ?_;rintro _ _ ⟨r3,rfl,rfl⟩;rw[bB,aa];refine OL.n1 rfl (PW.k2 2 3 rfl (PW.seq fun K1 hK1=>PW.s1 rfl (PW.k3 2 3 5 rfl (PW.block (PW.k3 2 3 5 rfl ?_)))))
 refine PW.aR (I:=fun mm T S'=>∃k:Nat,(k<=32/\mm=32-k/\a.1.1.take k=b.1.1.take k)/\T=([(2,.pointer (some ⟨r2,0,none⟩)),(3,.pointer (some ⟨r3,0,none⟩)),(5,.int .i64 k)]:TT)/\S'=bs r3 b::bs r2 a::S) (m:=32) ⟨0,⟨by omega,by omega,by simp⟩,rfl,rfl⟩ ?_
 rintro mm _ _ ⟨k,⟨hk,hmm,hall⟩,rfl,rfl⟩;refine PW.seq fun K2 hK2=>PW.s2 rfl rfl (PW.k4 2 3 5 7 rfl ?_)
 refine PW.cond rfl (fun c7=>?_) (fun c7=>?_)
 ·try simp only[aD] at c7
  refine PW.skip (hK2 _ _ (PW.k3 2 3 5 rfl (PW.seq fun K3 hK3=>PW.block (PW.seq fun K4 hK4=>PW.aQ mixed (QK.p2 rfl rfl (QK.x (Yields.ixA1 rfl rfl rfl (by omega)) (QK.x (Yields.ld rfl (vbyte (v:=a) (E:=27) (tot:=33) dm (by omega))) (QK.dp rfl ?_))))))))
  refine QK.dp rfl (QK.x (Yields.ixA1 rfl rfl rfl (by omega)) (QK.x (Yields.ld rfl (vbyte (v:=b) (E:=27) (tot:=33) bF (by omega))) (QK.nil ?_)))
  change OL _ _ _ [_] _ _ _;refine OL.n1 rfl (hK4 _ _ (PW.k4 2 3 5 18 rfl ?_));refine PW.cond rfl (fun c18=>?_) (fun c18=>?_)
  ·try simp only[aD] at c18
   refine PW.seq fun K5 hK5=>PW.aQ mixed (QK.p2 rfl rfl (QK.x (Yields.ixA1 rfl rfl rfl (by omega)) (QK.x (Yields.ld rfl (vbyte (v:=a) (E:=27) (tot:=33) dm (by omega))) (QK.p2 rfl rfl (QK.x (Yields.ixA1 rfl rfl rfl (by omega)) (QK.x (Yields.ld rfl (vbyte (v:=b) (E:=27) (tot:=33) bF (by omega))) (QK.nil ?_)))))))
   change OL _ _ _ [_,_] _ _ _;exact OL.n2 rfl rfl (hK5 _ _ (PW.k1 4 rfl (PW.ret (zR rfl ⟨_,Sub.drop (Sub.drop (Sub.refl _)),congrArg Value.bool (lt_at (by omega) (by omega) hall (fun e=>c18 (by rw[e]))).symm,rfl⟩))))
  try simp only[aD] at c18
  refine PW.skip (hK3 _ _ (PW.k3 2 3 5 rfl (PW.ops (OL.dp rfl (OL.x (Yields.ao rfl rfl (by omega) (by omega)) (OL.n1 rfl ?_))))))
  refine af.mk (T'':=[(2,_),(3,_),(5,_)]) (wi rfl) ?_;have he:a.1.1[k]'(by omega)=b.1.1[k]'(by omega):=UInt8.toNat_inj.1 (by omega)
  exact⟨32-(k+1),by omega,k+1,⟨by omega,rfl,by rw[aA (show k<a.1.1.length by omega),aA (show k<b.1.1.length by omega),hall,he]⟩,rfl,rfl⟩
 try simp only[aD] at c7
 refine PW.exit (hK1 _ _ (PW.k2 2 3 rfl (PW.ae (OL.dp rfl (OL.x (Yields.ld rfl (vnum (v:=a) (E:=27) (tot:=33) dm)) (OL.dp rfl (OL.x (Yields.ld rfl (vnum (v:=b) (E:=27) (tot:=33) bF)) (OL.n2 rfl rfl (PW.k1 4 rfl ?_)))))))));refine PW.ret (zR rfl ?_);have hke:k=32:=by omega
 have he:a.1.1=b.1.1:=by
  rw[hke,List.take_of_length_le (by omega),List.take_of_length_le (by omega)] at hall
  exact hall
 exact⟨_,Sub.drop (Sub.drop (Sub.refl _)),congrArg Value.bool (lt_end he).symm,rfl⟩
theorem textV_own {ps:List ar}(hs:Sq ps) {p:ar}(hp:p∈ps) {k:Nat}(hk:k<p.lines.length):textV ps (p.vtx k)=p.lines[k]:=by
 obtain⟨G,hG⟩:=hs.gr;rw[hG.textV (bN.2 ⟨p,hp,dG.2 ⟨k,hk,rfl⟩⟩)];exact hG.text p hp k _ (List.getElem?_eq_getElem hk)
theorem set_text (x:aG) (t:ByteArray):setAt (bq x) 33 [.string t] = bq ⟨x.v,t,x.alive⟩:=by
 have hv:=aa x.v
 unfold bq;exact fI (a:=au x.v) (b:=[.string x.text]) (d:=[.bool x.alive]) rfl hv rfl
theorem set_alive (x:aG) (b:Bool):setAt (bq x) 34 [.bool b] = bq ⟨x.v,x.text,b⟩:=by
 have hv:=aa x.v
 have:=fI (c:=bq x) (a:=au x.v++[.string x.text]) (b:=[.bool x.alive]) (d:=[]) (e:=[.bool b]) (n:=34) (by unfold bq;simp) (by simp[hv]) rfl
 rw[this];unfold bq;simp
theorem line_stk {w0:World}{S:SS}{P:Program}{n r k E:Nat}{T:TT}{x v:PV}{u:aG}{z:List Value}(hk:S[k]? = some [(r,.cells z E 35)]) (hx:x.val T=some (.pointer (some ⟨r,0,none⟩))) (hv:v.val T=some (lineV u)) (hz:z.length=35) :
  OW P w0 n (.st 35 x v) T S (fun _ S'=>S'=S.set k [(r,.cells (bq u) E 35)]):=by
 refine(OW.st (k:=k) (c:=z) (u:=lineV u) hx hv hk ((List.size_toArray).trans (aJ u)) (by omega) (eW u)).mono ?_
 rintro _ _ rfl;rw[lineV_box,eP (by rw[aJ,hz])]
theorem line_read {w0:World}{S:SS}{r E tot:Nat}{u:aG}(hm:(r,AO.cells (bq u) E tot)∈S.flatten):ReadsAs w0 S (some 35) ⟨r,0,none⟩ (lineV u):=⟨bq u,rfl,aJ u,av hm⟩
theorem fill_line3 {T:TT}{v:ay}{a:PV}{b:Bool}(h1:a.val T=some (aP v)):dw T z35 [(0,33,a),(34,1,.v (.bool b))] = some (bq ⟨v,⟨#[]⟩,b⟩):=by
 have hv:=aa v
 have c1:(aP v).cells.toList=au v:=rfl
 rw[show z35=[]++(z33++[.string ⟨#[]⟩,.bool false]) from rfl,cG (a:=[]) (n:=0) (k:=33) h1 rfl rfl (by rw[c1];exact hv),c1]
 have:=cG (T:=T) (a:=[]++au v++[.string ⟨#[]⟩]) (b:=[.bool false]) (d:=[]) (n:=34) (k:=1) (x:=.v (.bool b)) (v:=.bool b) (r:=[]) rfl (by simp[hv]) rfl rfl
 rw[show []++au v++[Value.string ⟨#[]⟩,.bool false] = []++au v++[.string ⟨#[]⟩]++([.bool false]++[]) by simp,this]
 unfold bq;simp only[dw,List.nil_append,List.append_nil,List.append_assoc];rfl
theorem rLine_fc {w0:World}{S:SS}{A:Option Addr}{c:Nat}{l:List aN}{v:ay}(h:du w0 S A l) (hsq:Sq (bW l).reverse) (hv:v∈bh (bW l)) :
  FC prog w0 126 [.slice A l.length c,aP v] S (fun u S'=>u=lineV (lineP (bW l).reverse v)/\S'=S):=by
 have hll:=h.len
 have hrd:=h.rd
 refine FC.ofC known126 (by simp) ?_
 unfold pc126;simp only[bo];refine PW.ae (OL.c (OW.bx rfl) ?_);rintro _ _ ⟨r3,rfl,rfl⟩;rw[bB,aa];refine OL.c OW.al ?_;rintro _ _ ⟨r4,rfl,rfl⟩;refine OL.nil (PW.k3 0 3 4 rfl (PW.ae (OL.x (Yields.aT rfl (aa _) (av dm)) (OL.x (Yields.build (fill_line3 rfl)) (OL.c OW.al ?_)))));rintro _ _ ⟨r5,rfl,rfl⟩;refine OL.c (line_stk (k:=0) (u:=⟨v,⟨#[]⟩,true⟩) rfl rfl rfl rfl) ?_;rintro _ _ rfl;change OL _ _ _ _ _ ([(r5,.cells (bq (⟨v,⟨#[]⟩,true⟩:aG)) 145 35)]::[(r4,.cells z35 145 35)]::bs r3 v::S) _;refine OL.nil (PW.k4 0 3 4 5 rfl (PW.seq fun K1 hK1=>PW.s1 rfl (PW.k5 0 3 4 5 6 rfl (PW.block (PW.k5 0 3 4 5 6 rfl ?_)))))
 refine PW.aR (I:=fun mm T S'=>∃(i:Nat) (x:aG),(i<=l.length/\mm=l.length-i/\x.v=v/\x.alive=!(((bW (l.take i)).flatMap (·.gone)).contains v)/\(v∈bh (bW (l.take i))->x.text=textV (bW l).reverse v))/\T=([(0,.slice A l.length c),(3,.pointer (some ⟨r3,0,none⟩)),(4,.pointer (some ⟨r4,0,none⟩)),(5,.pointer (some ⟨r5,0,none⟩)),(6,.int .i64 i)]:TT)/\S'=[(r5,.cells (bq x) 145 35)]::[(r4,.cells z35 145 35)]::bs r3 v::S) (m:=l.length) ⟨0,(⟨v,⟨#[]⟩,true⟩:aG),⟨by omega,by omega,rfl,rfl,fun hm=>by simp[bW,bh] at hm⟩,rfl,rfl⟩ ?_
 rintro mm _ _ ⟨i,x,⟨hi,hmm,hxv,hxa,hxt⟩,rfl,rfl⟩;refine PW.seq fun K2 hK2=>PW.s4 rfl rfl rfl rfl (PW.k6 0 3 4 5 6 14 rfl ?_)
 refine PW.cond rfl (fun c14=>?_) (fun c14=>?_)
 ·try simp only[aD] at c14
  have hil:i<l.length:=by omega
  obtain⟨a0,rfl⟩:=partS_some hrd (by omega)
  have hps:=(h.part _ (List.getElem_mem hil)).small
  have hol:(own l[i].pl).length=l[i].lines.length:=eE l[i].pl
  have hpm:l[i].pl∈(bW l).reverse:=List.mem_reverse.2 (List.mem_map.2 ⟨_,List.getElem_mem hil,rfl⟩)
  have hgs:(bW (l.take (i+1))).flatMap (·.gone)=(bW (l.take i)).flatMap (·.gone)++l[i].gone:=by
   unfold bW;rw[aA hil,List.map_append,List.flatMap_append];simp[aN.pl]
  have hvs:bh (bW (l.take (i+1)))=bh (bW (l.take i))++own l[i].pl:=allV_take hil
  refine PW.skip (hK2 _ _ (PW.k5 0 3 4 5 6 rfl (PW.seq fun K3 hK3=>PW.block (PW.ae (OL.p2 rfl rfl (OL.x (Yields.bO rfl rfl rfl hil) (OL.x (Yields.aT rfl (bm _) (eL hrd.cons.cons.cons hil)) (OL.l rfl (rOwn_fc (h.part _ (List.getElem_mem hil)).rng) ?_))))))))
  rintro _ _ ⟨sgo,rfl,hso⟩;obtain⟨Ao,co,rfl,hno,hco,hro⟩:=aF (w0:=w0) hso;refine OL.n1 rfl (PW.k6 0 3 4 5 6 7 rfl (PW.seq fun K4 hK4=>PW.s1 rfl (PW.k7 0 3 4 5 6 7 8 rfl (PW.block (PW.k7 0 3 4 5 6 7 8 rfl ?_)))))
  refine PW.aR (I:=fun mk T S'=>∃(k:Nat) (y:aG),(k<=(own l[i].pl).length/\mk=(own l[i].pl).length-k/\y.v=v/\y.alive=x.alive/\(v∈bh (bW (l.take i))∨v∈(own l[i].pl).take k->y.text=textV (bW l).reverse v))/\T=([(0,.slice (some a0) l.length c),(3,.pointer (some ⟨r3,0,none⟩)),(4,.pointer (some ⟨r4,0,none⟩)),(5,.pointer (some ⟨r5,0,none⟩)),(6,.int .i64 i),(7,.slice Ao (own l[i].pl).length co),(8,.int .i64 k)]:TT)/\S'=sgo::[(r5,.cells (bq y) 145 35)]::[(r4,.cells z35 145 35)]::bs r3 v::S) (m:=(own l[i].pl).length) ⟨0,x,⟨by omega,by omega,hxv,rfl,fun hm=>hxt (hm.resolve_right (by simp))⟩,rfl,rfl⟩ ?_
  rintro mk _ _ ⟨k,y,⟨hk,hmk,hyv,hya,hyt⟩,rfl,rfl⟩;refine PW.seq fun K5 hK5=>PW.s4 rfl rfl rfl rfl (PW.k8 0 3 4 5 6 7 8 25 rfl ?_)
  refine PW.cond rfl (fun c25=>?_) (fun c25=>?_)
  ·try simp only[aD] at c25
   have hkl:k<(own l[i].pl).length:=by omega
   have hkl2:k<l[i].lines.length:=by omega
   obtain⟨o0,rfl⟩:=bE (hro []) (by omega)
   obtain⟨b0,hb0⟩:=dg (h.part _ (List.getElem_mem hil)).rdL (by omega)
   have hrl:Rd w0 (sgo::[(r5,.cells (bq y) 145 35)]::[(r4,.cells z35 145 35)]::bs r3 v::S) (some b0) (strs l[i].lines):=by rw[<- hb0];exact(h.part _ (List.getElem_mem hil)).rdL.cons.cons.cons.cons
   have hok:(own l[i].pl)[k] = l[i].pl.vtx k:=by simp[own]
   have hts:=aA hkl
   refine PW.skip (hK5 _ _ (PW.k7 0 3 4 5 6 7 8 rfl (PW.seq fun K6 hK6=>PW.block (PW.seq fun K7 hK7=>PW.aQ mixed (QK.p2 rfl rfl (QK.x (Yields.bO rfl rfl rfl hkl) (QK.x (Yields.aT rfl (aa _) (bS (hro _) hkl)) (QK.x (Yields.aT rfl (aa _) (av zM3)) ?_))))))))
   refine QK.nil ?_;change OL _ _ _ [_] _ _ _;refine OL.x (Yields.eb (neg:=false) rfl rfl (aO _ _)) (OL.nil (hK7 _ _ (PW.k8 0 3 4 5 6 7 8 33 rfl ?_)));refine PW.cond rfl (fun c33=>?_) (fun c33=>?_)
   ·skip;have hvk:(own l[i].pl)[k] = v:=by simpa using c33
    have htx:textV (bW l).reverse v=l[i].lines[k]:=by rw[<- hvk,hok];exact textV_own hsq hpm hkl2
    refine PW.ops (OL.p2 rfl rfl (OL.x (Yields.bO rfl rfl rfl hil) (OL.dp rfl (OL.x (Yields.ld rfl (partS_lines hrd.cons.cons.cons.cons hil)) (OL.dp rfl ?_)))));rw[hb0];refine OL.x (Yields.dY rfl rfl rfl hkl2) (OL.x (Yields.ld rfl (str_cell hrl hkl2)) (OL.dp rfl ?_));refine OL.c (OW.st (k:=1) (c:=bq y) (u:=.string l[i].lines[k]) rfl rfl rfl rfl (by rw[aJ];show 33+1<=35;decide) rfl) ?_
    rintro _ _ rfl;rw[show(Value.string l[i].lines[k]).cells.toList=[.string l[i].lines[k]] from rfl]
    change OL _ _ _ _ _ (sgo::[(r5,.cells (setAt (bq y) 33 [.string l[i].lines[k]]) 145 35)]::[(r4,.cells z35 145 35)]::bs r3 v::S) _;rw[set_text];refine OL.nil (hK6 _ _ (PW.k7 0 3 4 5 6 7 8 rfl (PW.ops (OL.dp rfl (OL.x (Yields.ao rfl rfl (by omega) (by omega)) (OL.n1 rfl ?_))))))
    refine af.mk (T'':=[(0,_),(3,_),(4,_),(5,_),(6,_),(7,_),(8,_)]) (wi rfl) ?_;exact⟨(own l[i].pl).length-(k+1),by omega,k+1,⟨y.v,l[i].lines[k],y.alive⟩,⟨by omega,rfl,hyv,hya,fun _=>htx.symm⟩,rfl,rfl⟩
   skip;have hvk:(own l[i].pl)[k]≠v:=by simpa using c33
   refine PW.skip (hK6 _ _ (PW.k7 0 3 4 5 6 7 8 rfl (PW.ops (OL.dp rfl (OL.x (Yields.ao rfl rfl (by omega) (by omega)) (OL.n1 rfl ?_))))))
   refine af.mk (T'':=[(0,_),(3,_),(4,_),(5,_),(6,_),(7,_),(8,_)]) (wi rfl) ?_;exact⟨(own l[i].pl).length-(k+1),by omega,k+1,y,⟨by omega,rfl,hyv,hya,fun hm=>hyt (hm.imp_right fun h2=>by
    rw[hts] at h2;exact(List.mem_append.1 h2).resolve_right fun h3=>hvk (List.mem_singleton.1 h3).symm)⟩,rfl,rfl⟩
  try simp only[aD] at c25
  have hke:k=(own l[i].pl).length:=by omega
  have hyt2:=hyt
  rw[hke,List.take_length] at hyt2;refine PW.exit (hK4 _ _ (PW.k5 0 3 4 5 6 rfl (PW.seq fun K8 hK8=>PW.aQ mixed (QK.p2 rfl rfl (QK.x (Yields.bO rfl rfl rfl hil) (QK.dp rfl (QK.x (Yields.ld rfl (partS_gone hrd.cons.cons.cons.cons hil)) (QK.x (Yields.aT rfl (aa _) (av zM3)) (QK.nil ?_)))))))))
  change OL _ _ _ [_] _ _ _;refine OL.q rfl (rHas_fc ((h.part _ (List.getElem_mem hil)).rdG.cons.cons.cons.cons) (by omega)) (OL.nil (hK8 _ _ (PW.k6 0 3 4 5 6 49 rfl ?_)))
  refine PW.cond rfl (fun c49=>?_) (fun c49=>?_)
  ·skip;have hvg:v∈l[i].gone:=by simpa using c49
   refine PW.ops (OL.dp rfl ?_);refine OL.c (OW.st (k:=1) (c:=bq y) (u:=.bool false) rfl rfl rfl rfl (by rw[aJ];show 34+1<=35;decide) rfl) ?_
   rintro _ _ rfl;rw[show(Value.bool false).cells.toList=[.bool false] from rfl]
   change OL _ _ _ _ _ (sgo::[(r5,.cells (setAt (bq y) 34 [.bool false]) 145 35)]::[(r4,.cells z35 145 35)]::bs r3 v::S) _;rw[set_alive];refine OL.nil (hK3 _ _ (PW.k5 0 3 4 5 6 rfl (PW.ops (OL.dp rfl (OL.x (Yields.ao rfl rfl (by omega) (by omega)) (OL.n1 rfl ?_))))))
   refine af.dE (Sub.drop (Sub.refl _)) (T'':=[(0,_),(3,_),(4,_),(5,_),(6,_)]) (wi rfl) ?_;exact⟨l.length-(i+1),by omega,i+1,⟨y.v,y.text,false⟩,⟨by omega,rfl,hyv,(by rw[hgs];simp[hvg]),fun hm=>hyt2 (by rw[hvs] at hm;exact List.mem_append.1 hm)⟩,rfl,rfl⟩
  skip;have hvg:v∉l[i].gone:=by simpa using c49
  refine PW.skip (hK3 _ _ (PW.k5 0 3 4 5 6 rfl (PW.ops (OL.dp rfl (OL.x (Yields.ao rfl rfl (by omega) (by omega)) (OL.n1 rfl ?_))))))
  refine af.dE (Sub.drop (Sub.refl _)) (T'':=[(0,_),(3,_),(4,_),(5,_),(6,_)]) (wi rfl) ?_;exact⟨l.length-(i+1),by omega,i+1,y,⟨by omega,rfl,hyv,(by rw[hya,hxa,hgs];simp[hvg]),fun hm=>hyt2 (by rw[hvs] at hm;exact List.mem_append.1 hm)⟩,rfl,rfl⟩
 try simp only[aD] at c14
 refine PW.exit (hK1 _ _ (PW.k2 4 5 rfl (PW.ae (OL.x (Yields.aT rfl (aJ _) (av bF)) (OL.c (line_stk (k:=1) (u:=x) rfl rfl rfl rfl) ?_)))));rintro _ _ rfl;refine OL.nil (PW.k1 4 rfl (PW.ret ?_));have hie:i=l.length:=by omega
 rw[hie,List.take_length] at hxa hxt;have hx:x=lineP (bW l).reverse v:=by
  have h2:=hxt hv
  obtain⟨xv,xt,xa⟩:=x;simp only at hxv hxa h2;subst hxv;rw[hxa,h2];unfold lineP aliveV;congr 2;rw[Bool.eq_iff_iff];simp
 exact⟨.inr rfl,_,_,rfl,line_read (r:=r4) (u:=x) (E:=145) (tot:=35) dm,_,Sub.drop (Sub.drop (Sub.drop (Sub.refl _))),congrArg lineV hx,rfl⟩
def Best (E:List (ay×ay)) (left:List ay) (i:Nat) (b:Int):Prop:=
 (b=-1/\∀u∈left.take i,¬Free E left u)∨∃(n:Nat) (hn:n<left.length),b=(n:Int)/\Free E left left[n]/\∀u∈left.take i,Free E left u->cy u left[n] = false
section
variable {E:List (ay×ay)}{left:List ay}{i:Nat}{b:Int}
theorem Best.cD (h:Best E left i b) (hi:i<left.length) (hf:Free E left left[i]->∃(n:Nat) (hn:n<left.length),b=(n:Int)/\cy left[i] left[n] = false):Best E left (i+1) b:=by
 rcases h with⟨h1,h2⟩|⟨n,hn,h1,h2,h3⟩
 ·refine .inl ⟨h1,fun u hu=>?_⟩
  rw[aA hi] at hu;rcases List.mem_append.1 hu with hu|hu
  ·exact h2 u hu
  rw[List.mem_singleton.1 hu];intro hfr;obtain⟨m,hm,e,_⟩:=hf hfr;omega
 refine .inr ⟨n,hn,h1,h2,fun u hu hfu=>?_⟩
 rw[aA hi] at hu;rcases List.mem_append.1 hu with hu|hu
 ·exact h3 u hu hfu
 rw[List.mem_singleton.1 hu] at hfu ⊢;obtain⟨m,hm,e,h4⟩:=hf hfu;have:m=n:=by omega
 subst this;exact h4
theorem Best.set (h:Best E left i b) (hi:i<left.length) (hf:Free E left left[i]) (hb:b<0∨∃(n:Nat) (hn:n<left.length),b=(n:Int)/\cy left[i] left[n] = true):Best E left (i+1) (i:Int):=by
 refine .inr ⟨i,hi,rfl,hf,fun u hu hfu=>?_⟩
 rw[aA hi] at hu;rcases List.mem_append.1 hu with hu|hu
 ·rcases h with⟨h1,h2⟩|⟨n,hn,h1,h2,h3⟩
  ·exact absurd hfu (h2 u hu)
  rcases hb with hb|⟨m,hm,e,h4⟩
  ·omega
  have:m=n:=by omega
  subst this;exact dN.trans _ _ _ (dN.asymm _ _ h4) (h3 u hu hfu)
 rw[List.mem_singleton.1 hu];cases e:cy left[i] left[i] with
 |false=>rfl
 |true=>have:=dN.asymm _ _ e;rw[e] at this;cases this
theorem erase_ix {V:Type}[DecidableEq V] {l:List V}(h:l.Nodup) {n:Nat}(hn:n<l.length):l.erase l[n] = l.eraseIdx n:=by
 induction l generalizing n with
 |nil=>simp at hn
 |cons a l ih=>
  obtain⟨h1,h2⟩:=List.nodup_cons.1 h;cases n with
  |zero=>simp
  |succ n=>
   have hn':n<l.length:=by simpa using hn
   have hne:a≠l[n]:=fun e=>h1 (e▸List.getElem_mem hn')
   rw[List.getElem_cons_succ,List.eraseIdx_cons_succ,List.erase_cons_tail (by simpa using hne),ih h2 hn']
theorem topo_none {rest:List ay}(ht:eZ cy E left rest) (h:∀u∈left,¬Free E left u):rest=[]:=by
 cases ht with
 |nil _=>rfl
 |cons h1 h2 _ _=>exact absurd h2 (h _ h1)
theorem topo_some {rest:List ay}(hnd:left.Nodup) (ht:eZ cy E left rest) {n:Nat}(hn:n<left.length) (hf:Free E left left[n]) (hb:∀u∈left,Free E left u->cy u left[n] = false):∃r,rest=left[n]::r/\eZ cy E (left.eraseIdx n) r:=by
 cases ht with
 |nil h=>exact absurd hf (h _ (List.getElem_mem hn))
 |@cons _ v r h1 h2 h3 h4=>
  have e:v=left[n]:=ltV_tot _ _ (hb v h1 h2) (h3 _ (List.getElem_mem hn) hf)
  subst e;exact⟨r,rfl,by rw[<- erase_ix hnd hn];exact h4⟩
end
theorem cut_step {l:List ay}{n k:Nat}(hk:k<l.length):(l.take (k+1)).eraseIdx n=if k=n then(l.take k).eraseIdx n else(l.take k).eraseIdx n++[l[k]]:=by
 have hl:(l.take k).length=k:=by rw[List.length_take];omega
 rw[aA hk];split
 ·rename_i e;subst e;rw[List.eraseIdx_append_of_length_le (by omega),hl,Nat.sub_self,List.eraseIdx_of_length_le (l:=l.take k) (by omega)]
  simp
 rename_i e;by_cases h:n<k
 ·rw[List.eraseIdx_append_of_lt_length (by omega)]
 rw[List.eraseIdx_append_of_length_le (by omega),hl,List.eraseIdx_of_length_le (l:=[l[k]]) (by simp;omega),List.eraseIdx_of_length_le (l:=l.take k) (by omega)]
theorem line_snocE {E:TypeId}{v:Value}{l:List aG}{x:aG}{seg:bD}(h:aV E 35 v (l.length+1) (lines l++bq x) seg):aV E 35 v (l++[x]).length (lines (l++[x])) seg:=by
 rw[List.length_append,lines_snoc];exact h
theorem sub_rot {a b c d:bD}{S:SS}:Sub (b::c::a::S) (a::b::c::d::S):=Sub.ec [1,2,0] 4 (by decide) (a::b::c::d::S)
theorem free_step {E:List (ay×ay)}{left:List ay}{x:ay}{j:Nat}(hj:j<E.length):(∀e∈E.take (j+1),e.2=x->e.1∉left)↔(∀e∈E.take j,e.2=x->e.1∉left)/\(E[j].2=x->E[j].1∉left):=by
 rw[aA hj];constructor
 ·exact fun h=>⟨fun e he=>h e (List.mem_append_left _ he),h _ (List.mem_append_right _ (List.mem_singleton.2 rfl))⟩
 rintro⟨h1,h2⟩ e he;rcases List.mem_append.1 he with he|he
 ·exact h1 e he
 rw[List.mem_singleton.1 he];exact h2
theorem rLines_fc {w0:World}{S:SS}{A:Option Addr}{c:Nat}{l:List aN}(h:du w0 S A l) (hsq:Sq (bW l).reverse) :
  FC prog w0 105 [.slice A l.length c] S (fun v S'=>∃seg,S'=seg::S/\aV 145 35 v (bC (bW l).reverse).length (lines (bC (bW l).reverse)) seg):=by
 have hll:=h.len
 have hel:=rallE_len (l:=l) (fun p hp=>(h.part p hp).small.1)
 have hal:(bh (bW l)).length<=1000000:=by
  have:=allV_len (l:=l) (fun p hp=>(h.part p hp).small.1) l.length (Nat.le_refl _)
  rw[List.take_length] at this;omega
 have hpv:(bh (bW l).reverse).Perm (bh (bW l)):=(bW l).reverse_perm.flatMap_right own
 have hnd0:(bh (bW l)).Nodup:=hpv.nodup_iff.1 hsq.nodup
 have htop:eZ cy (cN (bW l)) (bh (bW l)) (eF (bW l).reverse):=eZ.congr (topoF_topo _) (fun e _=>by simp only[fF,List.mem_reverse]) hpv
 refine FC.ofD known105 (by simp) ?_
 unfold pc105;simp only[bo];refine PW.s1 rfl (PW.k1 0 rfl (PW.ae (OL.dp rfl (OL.l rfl (rAll_fc h) ?_))));rintro _ _ ⟨sgl,rfl,hsl⟩;obtain⟨Al,cl,rfl,hnl,hcl,hrl⟩:=aF (w0:=w0) hsl;refine OL.n1 rfl (PW.k2 0 3 rfl (PW.ae (OL.dp rfl (OL.l rfl (rEdges_fc h.cons) ?_))));rintro _ _ ⟨sgE,rfl,hsE⟩;obtain⟨AE,cE,rfl,hnE,hcE,hrE⟩:=aF (w0:=w0) hsE;obtain⟨E,hE⟩:∃z,z=cN (bW l):=⟨_,rfl⟩;rw[<- hE] at hel hrE hsE hcE htop ⊢;have hpl:(bI E).length=2*E.length:=pairs_len E
 refine OL.n1 rfl (PW.k3 0 3 4 rfl (PW.ae (OL.bZ (S':=[]::sgE::sgl::S) (Sub.cL (Sub.refl _)) (OL.n1 rfl (PW.k4 0 3 4 5 rfl (PW.seq fun K1 hK1=>PW.block (PW.k4 0 3 4 5 rfl ?_)))))))
 refine PW.aR (I:=fun mm T S'=>∃(left outV rest:List ay) (Al:Option Addr) (cl:Nat) (vo:Value) (sgl sgo:bD),(mm=left.length/\left.Nodup/\(∀v∈left,v∈bh (bW l))/\left.length<=1000000/\outV.length+left.length<=1000000/\eF (bW l).reverse=outV++rest/\eZ cy E left rest/\aV 27 33 (.slice Al left.length cl) left.length (aI left) sgl/\aV 145 35 vo (outV.map (lineP (bW l).reverse)).length (lines (outV.map (lineP (bW l).reverse))) sgo)/\T=([(0,.slice A l.length c),(3,.slice Al left.length cl),(4,.slice AE (bI E).length cE),(5,vo)]:TT)/\S'=sgo::sgE::sgl::S) (m:=(bh (bW l)).length) ⟨bh (bW l),[],eF (bW l).reverse,_,_,_,sgl,[],⟨rfl,hnd0,fun v hv=>hv,hal,by simpa using hal,rfl,htop,hsl,aV.nil 145 35⟩,rfl,rfl⟩ ?_
 rintro mm _ _ ⟨left,outV,rest,Al,cl,vo,sgl,sgo,⟨hmm,hnd,hlv,hlb,hob,hfe,ht,hsl,hso⟩,rfl,rfl⟩;refine PW.seq fun K2 hK2=>PW.s3 rfl rfl rfl (PW.k5 0 3 4 5 18 rfl ?_)
 refine PW.cond rfl (fun c18=>?_) (fun c18=>?_)
 ·try simp only[aD] at c18
  have hl0:0<left.length:=by omega
  obtain⟨Al2,cl2,el2,hnl2,hcl3,hrl2⟩:=aF (w0:=w0) hsl;cases el2;obtain⟨a3,rfl⟩:=bE (hrl2 []) (by omega)
  refine PW.skip (hK2 _ _ (PW.k4 0 3 4 5 rfl (PW.block (PW.s1 rfl (PW.k5 0 3 4 5 6 rfl (PW.seq fun K3 hK3=>PW.s1 rfl ?_))))))
  refine PW.k6 0 3 4 5 6 7 rfl (PW.block (PW.k6 0 3 4 5 6 7 rfl ?_));refine PW.aR (I:=fun mi T S'=>∃(i:Nat) (b:Int),(i<=left.length/\mi=left.length-i/\Best E left i b/\-1<=b/\b<=1000000)/\T=([(0,.slice A l.length c),(3,.slice (some a3) left.length cl),(4,.slice AE (bI E).length cE),(5,vo),(6,.int .i64 b),(7,.int .i64 i)]:TT)/\S'=sgo::sgE::sgl::S) (m:=left.length) ⟨0,-1,⟨by omega,by omega,.inl ⟨rfl,fun u hu=>by simp at hu⟩,by omega,by omega⟩,rfl,rfl⟩ ?_
  rintro mi _ _ ⟨i,b,⟨hi,hmi,hB,hb1,hb2⟩,rfl,rfl⟩;refine PW.seq fun K4 hK4=>PW.s4 rfl rfl rfl rfl (PW.k7 0 3 4 5 6 7 22 rfl ?_)
  refine PW.cond rfl (fun c22=>?_) (fun c22=>?_)
  ·try simp only[aD] at c22
   have hil:i<left.length:=by omega
   refine PW.skip (hK4 _ _ (PW.k6 0 3 4 5 6 7 rfl (PW.seq fun K5 hK5=>PW.block (PW.s1 rfl (PW.k7 0 3 4 5 6 7 8 rfl (PW.seq fun K6 hK6=>PW.ae (OL.dp rfl ?_)))))))
   refine OL.nil (PW.k8 0 3 4 5 6 7 8 9 rfl (PW.block (PW.k8 0 3 4 5 6 7 8 9 rfl ?_)));refine PW.aR (I:=fun mj T S'=>∃(j:Nat) (fr:Bool),(j<=E.length/\mj=E.length-j/\(fr=true↔∀e∈E.take j,e.2=left[i]->e.1∉left))/\T=([(0,.slice A l.length c),(3,.slice (some a3) left.length cl),(4,.slice AE (bI E).length cE),(5,vo),(6,.int .i64 b),(7,.int .i64 i),(8,.bool fr),(9,.int .i64 ((2*j:Nat):Int))]:TT)/\S'=sgo::sgE::sgl::S) (m:=E.length) ⟨0,true,⟨by omega,by omega,by simp⟩,rfl,rfl⟩ ?_
   rintro mj _ _ ⟨j,fr,⟨hj,hmj,hfr⟩,rfl,rfl⟩;refine PW.seq fun K7 hK7=>PW.ae (OL.dp rfl (OL.x (Yields.ao rfl rfl (by omega) (by omega)) (OL.n3 rfl rfl rfl (PW.k9 0 3 4 5 6 7 8 9 29 rfl ?_))))
   refine PW.cond rfl (fun c29=>?_) (fun c29=>?_)
   ·try simp only[aD] at c29
    have hjl:j<E.length:=by omega
    have hj2:2*j<(bI E).length:=by omega
    have hj3:2*j+1<(bI E).length:=by omega
    obtain⟨aE,rfl⟩:=bE (hrE []) (by omega)
    have hrEE:Rd w0 (sgo::sgE::sgl::S) (some aE) (aI (bI E)):=br (hrE []) (by simp)
    have hrLL:Rd w0 (sgo::sgE::sgl::S) (some a3) (aI left):=br (hrl2 []) (by simp)
    have hqe:(bI E)[2*j] = E[j].1:=(List.getElem?_eq_some_iff.1 (pairs_get hjl).1).2
    have hqe2:(bI E)[2*j+1] = E[j].2:=(List.getElem?_eq_some_iff.1 (pairs_get hjl).2).2
    have hfs:=free_step (E:=E) (left:=left) (x:=left[i]) hjl
    refine PW.skip (hK7 _ _ (PW.k8 0 3 4 5 6 7 8 9 rfl (PW.seq fun K8 hK8=>PW.block (PW.seq fun K9 hK9=>PW.aQ mixed (QK.p2 rfl rfl (QK.x (Yields.ao rfl rfl (by omega) (by omega)) (QK.x (Yields.bO (j:=2*j+1) rfl rfl (by omega) hj3) (QK.x (Yields.aT rfl (aa _) (bS (l:=bI E) (k:=2*j+1) hrEE hj3)) ?_))))))))
    refine QK.p2 rfl rfl (QK.x (Yields.bO rfl rfl rfl hil) (QK.x (Yields.aT rfl (aa _) (bS hrLL hil)) (QK.x (Yields.eb (neg:=false) rfl rfl (aO _ _)) ?_)));refine QK.bool trivial (Yields.pure rfl) (fun g42=>?_) (fun g42=>?_)
    ·try simp only[aD] at g42
     refine QK.ak rfl (.pure rfl) (QK.ak rfl (.pure rfl) (QK.ak rfl (.pure rfl) (QK.ak rfl (.bO (j:=2*j) rfl rfl rfl hj2) (QK.ak rfl (.aT rfl (aa _) (bS (l:=bI E) (k:=2*j) hrEE hj2)) (QK.nil ?_)))));change OL _ _ _ [_,_] _ _ _;refine OL.call rfl rfl (rHas_fc hrLL (by omega)) ?_
     rintro _ Sx ⟨rfl,hSx⟩;rw[hSx];clear hSx;refine OL.n1 rfl (hK9 _ _ (PW.k9 0 3 4 5 6 7 8 9 49 rfl ?_));refine PW.cond rfl (fun c49=>?_) (fun c49=>?_)
     ·skip;refine PW.ops (OL.n1 rfl (hK8 _ _ (PW.k8 0 3 4 5 6 7 8 9 rfl (PW.ops (OL.dp rfl (OL.x (Yields.ao rfl rfl (by omega) (by omega)) (OL.n1 rfl ?_)))))))
      refine af.mk (T'':=[(0,_),(3,_),(4,_),(5,_),(6,_),(7,_),(8,_),(9,_)]) (wi rfl) ?_;exact⟨E.length-(j+1),by omega,j+1,false,⟨by omega,rfl,by
       rw[hfs,<- hqe,<- hqe2];simp only[Bool.false_eq_true,false_iff];exact fun h2=>h2.2 g42 (by simpa using c49)⟩,rfl,rfl⟩
     skip;refine PW.skip (hK8 _ _ (PW.k8 0 3 4 5 6 7 8 9 rfl (PW.ops (OL.dp rfl (OL.x (Yields.ao rfl rfl (by omega) (by omega)) (OL.n1 rfl ?_))))))
     refine af.mk (T'':=[(0,_),(3,_),(4,_),(5,_),(6,_),(7,_),(8,_),(9,_)]) (wi rfl) ?_;exact⟨E.length-(j+1),by omega,j+1,fr,⟨by omega,rfl,by
      rw[hfs,hfr,<- hqe,<- hqe2];exact⟨fun h2=>⟨h2,fun _=>by simpa using c49⟩,fun h2=>h2.1⟩⟩,rfl,rfl⟩
    try simp only[aD] at g42
    refine QK.off rfl rfl (QK.off rfl rfl (QK.off rfl rfl (QK.off rfl rfl (QK.off rfl rfl (QK.nil ?_)))));change OL _ _ _ [_,_] _ _ _;refine OL.off rfl rfl (OL.n1 rfl (hK9 _ _ (PW.k9 0 3 4 5 6 7 8 9 49 rfl (PW.ite (b:=false) rfl ?_))));rw[if_neg Bool.false_ne_true];refine PW.skip (hK8 _ _ (PW.k8 0 3 4 5 6 7 8 9 rfl (PW.ops (OL.dp rfl (OL.x (Yields.ao rfl rfl (by omega) (by omega)) (OL.n1 rfl ?_))))))
    refine af.mk (T'':=[(0,_),(3,_),(4,_),(5,_),(6,_),(7,_),(8,_),(9,_)]) (wi rfl) ?_;exact⟨E.length-(j+1),by omega,j+1,fr,⟨by omega,rfl,by
     rw[hfs,hfr,<- hqe,<- hqe2];exact⟨fun h2=>⟨h2,fun h3=>absurd h3 g42⟩,fun h2=>h2.1⟩⟩,rfl,rfl⟩
   try simp only[aD] at c29
   refine PW.exit (hK6 _ _ (PW.k7 0 3 4 5 6 7 8 rfl (PW.seq fun K10 hK10=>PW.aQ mixed ?_)))
   have hbs:fr=true↔Free E left left[i]:=by
    rw[hfr,List.take_of_length_le (by omega)]
    exact Iff.rfl
   have hrLL:Rd w0 (sgo::sgE::sgl::S) (some a3) (aI left):=br (hrl2 []) (by simp)
   refine QK.dp rfl ?_;refine QK.bool trivial (Yields.pure rfl) (fun g51=>?_) (fun g51=>?_)
   ·try simp only[aD] at g51
    refine QK.ak rfl (.pure rfl) (QK.ak rfl (.pure rfl) ?_);refine QK.bool rfl (Yields.pure rfl) (fun g54=>?_) (fun g54=>?_)
    ·try simp only[aD] at g54
     refine QK.off rfl rfl (QK.off rfl rfl (QK.off rfl rfl (QK.off rfl rfl (QK.off rfl rfl (QK.off rfl rfl (QK.off rfl rfl (QK.off rfl rfl (QK.nil ?_))))))));change OL _ _ _ [_,_,_] _ _ _;refine OL.off rfl rfl (OL.ak rfl (.pure rfl) (OL.n1 rfl (hK10 _ _ (PW.k7 0 3 4 5 6 7 65 rfl (PW.ite (b:=true) rfl ?_)))));rw[if_pos rfl];refine PW.ops (OL.n2 rfl rfl (hK5 _ _ (PW.k6 0 3 4 5 6 7 rfl (PW.ops (OL.dp rfl (OL.x (Yields.ao rfl rfl (by omega) (by omega)) (OL.n1 rfl ?_)))))))
     refine af.mk (T'':=[(0,_),(3,_),(4,_),(5,_),(6,_),(7,_)]) (wi rfl) ?_;exact⟨left.length-(i+1),by omega,i+1,_,⟨by omega,rfl,hB.set hil (hbs.1 g51) (.inl g54),by omega,by omega⟩,rfl,rfl⟩
    try simp only[aD] at g54
    obtain⟨bn,hbn,hbe⟩:∃(n:Nat) (hn:n<left.length),b=(n:Int):=by
     rcases hB with⟨h1,_⟩|⟨n,hn,h1,_⟩
     ·omega
     exact⟨n,hn,h1⟩
    refine QK.ak rfl (.pure rfl) (QK.ak rfl (.pure rfl) (QK.ak rfl (.bO rfl rfl rfl hil) (QK.ak rfl (.aT rfl (aa _) (bS hrLL hil)) (QK.ak rfl (.pure rfl) (QK.ak rfl (.pure rfl) (QK.ak rfl (.bO (j:=bn) rfl rfl hbe hbn) (QK.ak rfl (.aT rfl (aa _) (bS hrLL hbn)) (QK.nil ?_))))))));change OL _ _ _ [_,_,_] _ _ _;refine OL.call rfl rfl (rLess_fc) ?_;rintro _ Sx ⟨rfl,hSx⟩;rw[hSx];clear hSx;refine OL.ak rfl (.pure rfl) (OL.n1 rfl (hK10 _ _ (PW.k7 0 3 4 5 6 7 65 rfl ?_)));refine PW.cond rfl (fun c65=>?_) (fun c65=>?_)
    ·skip;refine PW.ops (OL.n2 rfl rfl (hK5 _ _ (PW.k6 0 3 4 5 6 7 rfl (PW.ops (OL.dp rfl (OL.x (Yields.ao rfl rfl (by omega) (by omega)) (OL.n1 rfl ?_)))))))
     refine af.mk (T'':=[(0,_),(3,_),(4,_),(5,_),(6,_),(7,_)]) (wi rfl) ?_;exact⟨left.length-(i+1),by omega,i+1,_,⟨by omega,rfl,hB.set hil (hbs.1 g51) (.inr ⟨bn,hbn,hbe,c65⟩),by omega,by omega⟩,rfl,rfl⟩
    skip;refine PW.skip (hK5 _ _ (PW.k6 0 3 4 5 6 7 rfl (PW.ops (OL.dp rfl (OL.x (Yields.ao rfl rfl (by omega) (by omega)) (OL.n1 rfl ?_))))))
    refine af.mk (T'':=[(0,_),(3,_),(4,_),(5,_),(6,_),(7,_)]) (wi rfl) ?_;exact⟨left.length-(i+1),by omega,i+1,b,⟨by omega,rfl,hB.cD hil (fun _=>⟨bn,hbn,hbe,c65⟩),by omega,by omega⟩,rfl,rfl⟩
   try simp only[aD] at g51
   refine QK.off rfl rfl (QK.off rfl rfl (QK.off rfl rfl (QK.off rfl rfl (QK.off rfl rfl (QK.off rfl rfl (QK.off rfl rfl (QK.off rfl rfl (QK.off rfl rfl (QK.off rfl rfl (QK.off rfl rfl (QK.nil ?_)))))))))));change OL _ _ _ [_,_,_] _ _ _;refine OL.off rfl rfl (OL.off rfl rfl (OL.n1 rfl (hK10 _ _ (PW.k7 0 3 4 5 6 7 65 rfl (PW.ite (b:=false) rfl ?_)))));rw[if_neg Bool.false_ne_true];refine PW.skip (hK5 _ _ (PW.k6 0 3 4 5 6 7 rfl (PW.ops (OL.dp rfl (OL.x (Yields.ao rfl rfl (by omega) (by omega)) (OL.n1 rfl ?_))))))
   refine af.mk (T'':=[(0,_),(3,_),(4,_),(5,_),(6,_),(7,_)]) (wi rfl) ?_;exact⟨left.length-(i+1),by omega,i+1,b,⟨by omega,rfl,hB.cD hil (fun hf=>absurd (hbs.2 hf) (by rw[g51];simp)),by omega,by omega⟩,rfl,rfl⟩
  try simp only[aD] at c22
  refine PW.exit (hK3 _ _ (PW.k5 0 3 4 5 6 rfl (PW.seq fun K11 hK11=>PW.s2 rfl rfl (PW.k6 0 3 4 5 6 68 rfl ?_))))
  refine PW.cond rfl (fun c68=>?_) (fun c68=>?_)
  ·try simp only[aD] at c68
   have hno:∀u∈left,¬Free E left u:=by
    have hie:i=left.length:=by omega
    rcases hB with⟨h1,h2⟩|⟨n,hn,h1,_⟩
    ·rw[hie,List.take_length] at h2;exact h2
    omega
   have hrest:=topo_none ht hno
   rw[hrest,List.append_nil] at hfe;exact PW.s2 rfl rfl (PW.k1 2 rfl (PW.ret (zR rfl ⟨_,Sub.cons (Sub.drop (Sub.drop (Sub.refl _))),sgo,rfl,by unfold bC;rw[hfe];exact hso⟩)))
  try simp only[aD] at c68
  obtain⟨bn,hbn,hbe,hbf,hbb⟩:∃(n:Nat) (hn:n<left.length),b=(n:Int)/\Free E left left[n]/\∀u∈left,Free E left u->cy u left[n] = false:=by
   have hie:i=left.length:=by omega
   rcases hB with⟨h1,_⟩|⟨n,hn,h1,h2,h3⟩
   ·omega
   rw[hie,List.take_length] at h3;exact⟨n,hn,h1,h2,h3⟩
  have hol2:(outV.map (lineP (bW l).reverse)).length=outV.length:=List.length_map _
  obtain⟨r2,hre,ht2⟩:=topo_some hnd ht hbn hbf hbb;have hrLL:Rd w0 (sgo::sgE::sgl::S) (some a3) (aI left):=br (hrl2 []) (by simp)
  refine PW.skip (hK11 _ _ (PW.k5 0 3 4 5 6 rfl (PW.ae (OL.p4 rfl rfl rfl rfl (OL.x (Yields.bO (j:=bn) rfl rfl hbe hbn) (OL.x (Yields.aT rfl (aa _) (bS hrLL hbn)) (OL.q rfl (rLine_fc (h.mono (Over.refl _).cons.cons.cons) hsq (hlv _ (List.getElem_mem hbn))) ?_)))))));apply OL.bV (k:=0)
  ·rfl
  ·rfl
  ·exact(List.size_toArray).trans (aJ _)
  ·rfl
  ·rfl
  ·rfl
  ·exact hso
  ·exact eW _
  ·omega
  ·unfold maxLen;omega
  intro v78 seg78 hs78;have hs78:=line_snocE hs78
  refine OL.n1 rfl (PW.k5 0 3 4 5 6 rfl (PW.ae (OL.bZ (S':=[]::seg78::sgE::sgl::S) (Sub.cL (Sub.refl _)) (OL.n1 rfl (PW.k6 0 3 4 5 6 10 rfl (PW.seq fun K12 hK12=>PW.s1 rfl ?_))))))
  refine PW.k7 0 3 4 5 6 10 11 rfl (PW.block (PW.k7 0 3 4 5 6 10 11 rfl ?_));refine PW.aR (I:=fun mk T S'=>∃(k:Nat) (Ar:Option Addr) (cr:Nat) (sgr:bD),(k<=left.length/\mk=left.length-k/\aV 27 33 (.slice Ar ((left.take k).eraseIdx bn).length cr) ((left.take k).eraseIdx bn).length (aI ((left.take k).eraseIdx bn)) sgr)/\T=([(0,.slice A l.length c),(3,.slice (some a3) left.length cl),(4,.slice AE (bI E).length cE),(5,v78),(6,.int .i64 b),(10,.slice Ar ((left.take k).eraseIdx bn).length cr),(11,.int .i64 k)]:TT)/\S'=sgr::seg78::sgE::sgl::S) (m:=left.length) ⟨0,_,_,[],⟨by omega,by omega,aV.nil 27 33⟩,rfl,rfl⟩ ?_
  rintro mk _ _ ⟨k,Ar,cr,sgr,⟨hk,hmk,hsr⟩,rfl,rfl⟩;refine PW.seq fun K13 hK13=>PW.s4 rfl rfl rfl rfl (PW.k8 0 3 4 5 6 10 11 82 rfl ?_)
  refine PW.cond rfl (fun c82=>?_) (fun c82=>?_)
  ·try simp only[aD] at c82
   have hkl:k<left.length:=by omega
   have hrL3:Rd w0 (sgr::seg78::sgE::sgl::S) (some a3) (aI left):=br (hrl2 []) (by simp)
   have hcs:=cut_step (l:=left) (n:=bn) hkl
   have hcl4:((left.take k).eraseIdx bn).length<=k:=by
    have:=List.length_eraseIdx_le (left.take k) bn
    rw[List.length_take] at this;omega
   refine PW.skip (hK13 _ _ (PW.k7 0 3 4 5 6 10 11 rfl (PW.seq fun K14 hK14=>PW.block (PW.s3 rfl rfl rfl (PW.k8 0 3 4 5 6 10 11 87 rfl ?_)))))
   refine PW.cond rfl (fun c87=>?_) (fun c87=>?_)
   ·try simp only[aD] at c87
    refine PW.ops (OL.p3 rfl rfl rfl (OL.x (Yields.bO rfl rfl rfl hkl) (OL.x (Yields.aT rfl (aa _) (bS hrL3 hkl)) ?_)));apply OL.bV (k:=0)
    ·rfl
    ·rfl
    ·exact(List.size_toArray).trans (aa _)
    ·rfl
    ·rfl
    ·rfl
    ·exact hsr
    ·exact bL _
    ·omega
    ·unfold maxLen;omega
    intro v94 seg94 hs94;have hs94:=vtxs_snoc' hs94
    obtain⟨A94,c94,rfl,_,_,_⟩:=aF (w0:=w0) hs94;refine OL.n1 rfl (hK14 _ _ (PW.k7 0 3 4 5 6 10 11 rfl (PW.ops (OL.dp rfl (OL.x (Yields.ao rfl rfl (by omega) (by omega)) (OL.n1 rfl ?_))))))
    refine af.mk (T'':=[(0,_),(3,_),(4,_),(5,_),(6,_),(10,_),(11,_)]) (wi rfl) ?_;have hc2:(left.take (k+1)).eraseIdx bn=(left.take k).eraseIdx bn++[left[k]]:=by rw[hcs,if_neg (by omega)]
    rw[<- hc2] at hs94 ⊢;exact⟨left.length-(k+1),by omega,k+1,_,_,seg94,⟨by omega,rfl,hs94⟩,rfl,rfl⟩
   try simp only[aD] at c87
   refine PW.skip (hK14 _ _ (PW.k7 0 3 4 5 6 10 11 rfl (PW.ops (OL.dp rfl (OL.x (Yields.ao rfl rfl (by omega) (by omega)) (OL.n1 rfl ?_))))))
   refine af.mk (T'':=[(0,_),(3,_),(4,_),(5,_),(6,_),(10,_),(11,_)]) (wi rfl) ?_;have hc2:(left.take (k+1)).eraseIdx bn=(left.take k).eraseIdx bn:=by rw[hcs,if_pos (by omega)]
   rw[<- hc2] at hsr ⊢;exact⟨left.length-(k+1),by omega,k+1,_,_,sgr,⟨by omega,rfl,hsr⟩,rfl,rfl⟩
  try simp only[aD] at c82
  refine PW.exit (hK12 _ _ (PW.k4 0 4 5 10 rfl (PW.ops (OL.n2 rfl rfl ?_))));refine af.dE (sub_rot) (T'':=[(0,_),(3,_),(4,_),(5,_)]) (wi rfl) ?_;have hke:k=left.length:=by omega
  have hcl5:(left.eraseIdx bn).length+1=left.length:=by rw[List.length_eraseIdx_of_lt hbn];omega
  rw[hke,List.take_length] at hsr ⊢;exact⟨(left.eraseIdx bn).length,by omega,left.eraseIdx bn,outV++[left[bn]],r2,Ar,cr,v78,sgr,seg78,⟨rfl,hnd.sublist (List.eraseIdx_sublist _ _),fun v hv=>hlv v ((List.eraseIdx_sublist _ _).subset hv),by omega,by rw[List.length_append];simp only[List.length_cons,List.length_nil];omega,by rw[hfe,hre,List.append_assoc];rfl,ht2,hsr,by rw[List.map_append];exact hs78⟩,rfl,rfl⟩
 try simp only[aD] at c18
 have hl0:left=[]:=List.eq_nil_of_length_eq_zero (by omega)
 have hrest:=topo_none ht (fun u hu=>by rw[hl0] at hu;cases hu)
 rw[hrest,List.append_nil] at hfe;exact PW.exit (hK1 _ _ (PW.k1 5 rfl (PW.s2 rfl rfl (PW.k1 2 rfl (PW.ret (zR rfl ⟨_,Sub.cons (Sub.drop (Sub.drop (Sub.refl _))),sgo,rfl,by unfold bC;rw[hfe];exact hso⟩))))))
theorem rAlive_fc {w0:World}{S:SS}{A:Option Addr}{c:Nat}{l:List aN}(h:du w0 S A l) (hsq:Sq (bW l).reverse) (hb:(bC (bW l).reverse).length<=1000000) :
  FC prog w0 73 [.slice A l.length c] S (fun v S'=>∃seg,S'=seg::S/\aV 145 35 v (live (bC (bW l).reverse)).length (lines (live (bC (bW l).reverse))) seg):=by
 obtain⟨LL,hLL⟩:∃z,z=bC (bW l).reverse:=⟨_,rfl⟩;rw[<- hLL] at hb ⊢;refine FC.ofD known73 (by simp) ?_
 unfold pc73;simp only[bo];refine PW.s1 rfl (PW.k1 0 rfl (PW.ae (OL.dp rfl (OL.l rfl (rLines_fc h hsq) ?_))));rintro _ _ ⟨sgl,rfl,hsl⟩;rw[<- hLL] at hsl;obtain⟨Al,cl,rfl,hnl,hcl,hrl⟩:=aF (w0:=w0) hsl;refine OL.n1 rfl (PW.k1 3 rfl (PW.ae (OL.bZ (S':=[]::sgl::S) (Sub.cL (Sub.refl _)) (OL.n1 rfl (PW.k2 3 4 rfl (PW.seq fun K1 hK1=>PW.s1 rfl ?_))))))
 refine PW.k3 3 4 5 rfl (PW.block (PW.k3 3 4 5 rfl ?_));refine PW.aR (I:=fun mm T S'=>∃(k:Nat) (vo:Value) (sgo:bD),(k<=LL.length/\mm=LL.length-k/\aV 145 35 vo (live (LL.take k)).length (lines (live (LL.take k))) sgo)/\T=([(3,.slice Al LL.length cl),(4,vo),(5,.int .i64 k)]:TT)/\S'=sgo::sgl::S) (m:=LL.length) ⟨0,_,[],⟨by omega,by omega,aV.nil 145 35⟩,rfl,rfl⟩ ?_
 rintro mm _ _ ⟨k,vo,sgo,⟨hk,hmm,hso⟩,rfl,rfl⟩;refine PW.seq fun K2 hK2=>PW.s4 rfl rfl rfl rfl (PW.k4 3 4 5 11 rfl ?_)
 refine PW.cond rfl (fun c11=>?_) (fun c11=>?_)
 ·try simp only[aD] at c11
  have hkl:k<LL.length:=by omega
  obtain⟨a0,rfl⟩:=bR (hrl []) (by omega)
  have hrl2:Rd w0 (sgo::sgl::S) (some a0) (lines LL):=(hrl _).cons
  have hlv:=live_snoc hkl
  have hlvl:=live_len (LL.take k)
  rw[List.length_take] at hlvl;refine PW.skip (hK2 _ _ (PW.k3 3 4 5 rfl (PW.seq fun K3 hK3=>PW.block (PW.ae (OL.p2 rfl rfl (OL.x (Yields.bO rfl rfl rfl hkl) (OL.dp rfl (OL.x (Yields.ld rfl (dA hrl2 hkl _ _ (lineC_text _).2)) (OL.nil ?_)))))))))
  refine PW.k4 3 4 5 18 rfl ?_;refine PW.cond rfl (fun c18=>?_) (fun c18=>?_)
  ·skip;refine PW.ops (OL.p3 rfl rfl rfl (OL.x (Yields.bO rfl rfl rfl hkl) (OL.x (Yields.aT rfl (aJ _) (dA hrl2 hkl)) ?_)));apply OL.bV (k:=0)
   ·rfl
   ·rfl
   ·exact(List.size_toArray).trans (aJ _)
   ·rfl
   ·rfl
   ·rfl
   ·exact hso
   ·exact eW _
   ·omega
   ·unfold maxLen;omega
   intro v25 seg25 hs25;refine OL.n1 rfl (hK3 _ _ (PW.k3 3 4 5 rfl (PW.ops (OL.dp rfl (OL.x (Yields.ao rfl rfl (by omega) (by omega)) (OL.n1 rfl ?_))))))
   refine af.mk (T'':=[(3,_),(4,_),(5,_)]) (wi rfl) ?_;exact⟨LL.length-(k+1),by omega,k+1,_,seg25,⟨by omega,rfl,by rw[hlv,if_pos c18];exact line_snocE hs25⟩,rfl,rfl⟩
  skip;refine PW.skip (hK3 _ _ (PW.k3 3 4 5 rfl (PW.ops (OL.dp rfl (OL.x (Yields.ao rfl rfl (by omega) (by omega)) (OL.n1 rfl ?_))))))
  refine af.mk (T'':=[(3,_),(4,_),(5,_)]) (wi rfl) ?_;exact⟨LL.length-(k+1),by omega,k+1,_,sgo,⟨by omega,rfl,by rw[hlv,if_neg (by rw[c18];simp)];exact hso⟩,rfl,rfl⟩
 try simp only[aD] at c11
 refine PW.exit (hK1 _ _ (PW.k1 4 rfl (PW.s2 rfl rfl (PW.k1 2 rfl ?_))));refine PW.ret (zR rfl ?_);have hke:k=LL.length:=by omega
 rw[hke,List.take_length] at hso;exact⟨_,Sub.cons (Sub.drop (Sub.refl _)),sgo,rfl,hso⟩
end Go.Proofs.Gr

namespace Go.Proofs.Gr
open Go.SL Go.RowKit Go.Proofs Go.GP
section
variable {ps:List ar}{L:List aG}
noncomputable def docI (ps:List ar) (L:List aG) (k:Nat):List aB:=(foldI ps L k).1++shut ps (foldI ps L k).2
theorem docI_solid {k:Nat}(hk:k<L.length) (h:cR ps L L[k] = true):docI ps L (k+1)=docI ps L k++[⟨[L[k]],false,[]⟩]/\(foldI ps L (k+1)).2=[]:=by
 unfold docI;rw[fy hk];unfold stepI;rw[if_pos h];exact⟨by unfold shut;simp,rfl⟩
theorem docI_new {k:Nat}(hk:k<L.length) (h:cR ps L L[k] = false) (ho:(foldI ps L k).2=[]):docI ps L (k+1)=docI ps L k++[⟨[L[k]],true,[]⟩]/\(foldI ps L (k+1)).2=[L[k]]:=by
 unfold docI;rw[fy hk];unfold stepI;rw[if_neg (by rw[h];simp),ho]
 refine⟨?_,rfl⟩
 show(foldI ps L k).1++shut ps [L[k]] = _
 unfold shut blockP cP;simp
theorem docI_more {k:Nat}(hk:k<L.length) (h:cR ps L L[k] = false) (ho:(foldI ps L k).2≠[]) :
  docI ps L k=(foldI ps L k).1++[blockP ps (foldI ps L k).2]/\docI ps L (k+1)=(foldI ps L k).1++[blockP ps ((foldI ps L k).2++[L[k]])]/\(foldI ps L (k+1)).2=(foldI ps L k).2++[L[k]]/\(foldI ps L (k+1)).1=(foldI ps L k).1:=by
 unfold docI;rw[fy hk];unfold stepI;rw[if_neg (by rw[h];simp)]
 refine⟨by unfold shut;rw[if_neg ho],?_,rfl,rfl⟩
 show(foldI ps L k).1++shut ps ((foldI ps L k).2++[L[k]])=_
 unfold shut;rw[if_neg (by simp)]
theorem foldI_last (hs:Sq ps) (hr:Row ps L) {k:Nat}(hk:k<L.length) (ho:(foldI ps L k).2≠[]):∃p,∃hp:p<L.length,p+1=k/\(foldI ps L k).2.getLast? = some L[p]:=by
 have h:=(St.fold hs hr k (by omega)).all
 have hl:0<(foldI ps L k).2.length:=List.length_pos_iff.2 ho
 have hlen:=congrArg List.length h
 rw[List.length_append,List.length_take] at hlen;refine⟨k-1,by omega,by omega,?_⟩
 have e:(L.take k).getLast? = some L[k-1]:=by
  rw[List.getLast?_eq_getElem?,List.length_take,Nat.min_eq_left (by omega),List.getElem?_take_of_lt (by omega),List.getElem?_eq_getElem (by omega)]
 rw[<- h,List.getLast?_append] at e;cases e2:(foldI ps L k).2.getLast? with
 |none=>rw[List.getLast?_eq_none_iff] at e2;exact absurd e2 ho
 |some x=>rw[e2] at e;simpa using e
theorem mids_more (op:List aG) (x y:aG) (hop:op.getLast? = some y):cP ps (op++[x]) (op++[x]).length=if ordP ps y.v x.v=true then cP ps op op.length else cP ps op op.length++[(op.length:Int)]:=by
 have hne:op≠[]:=fun e=>by rw[e] at hop;cases hop
 have hl:0<op.length:=List.length_pos_iff.2 hne
 have e1:∀k,k<=op.length->cP ps (op++[x]) k=cP ps op k:=by
  intro k
  induction k with
  |zero=>intro _;rfl
  |succ k ih=>
   intro hk;rw[midsK_succ,midsK_succ,ih (by omega)]
   have g:∀j,j<op.length->(op++[x])[j]! = op[j]!:=fun j hj=>by
    rw[getElem!_pos (op++[x]) j (by simp;omega),getElem!_pos op j hj,List.getElem_append_left hj]
   rw[g k (by omega),g (k-1) (by omega)]
 have e2:(op++[x])[op.length-1]! = y:=by
  rw[getElem!_pos (op++[x]) _ (by simp;omega),List.getElem_append_left (by omega)]
  rw[List.getLast?_eq_getElem?,List.getElem?_eq_getElem (by omega)] at hop
  exact Option.some.inj hop
 have e3:(op++[x])[op.length]! = x:=by
  rw[getElem!_pos (op++[x]) _ (by simp),List.getElem_append_right (Nat.le_refl _)]
  simp
 rw[List.length_append]
 show cP ps (op++[x]) (op.length+1)=_
 rw[midsK_succ,e1 _ (Nat.le_refl _),e2,e3,decide_eq_true hl,Bool.true_and];cases ordP ps y.v x.v<;>simp
end
end Go.Proofs.Gr

namespace Go.Proofs.Gr
open Go.SL Go.RowKit Go.Proofs Go.GP
set_option maxHeartbeats 1000000
theorem item_last {w0:World}{S:SS}{a:Addr}{I:List bg}{x:bg}(h:Rd w0 S (some a) (bl (I++[x]))):∀(j:Nat) (v:Value),(bA x)[j]? = some v->Cell w0 S ((a.add (I.length*3)).add j) v:=by
 intro j v hj;have:=bz h (k:=I.length) (by simp) j v (by simpa using hj)
 exact this
theorem set_item {I:List bg}{x y:bg}{a b d:List Value}{k:Nat}{e:List Value}(hx:bA x=a++(b++d)) (hy:bA y=a++(e++d)) (hb:b.length=e.length) (hk:k=I.length*3+a.length) :
  setAt (bl (I++[x])) k e=bl (I++[y]):=by
 have hl:=eR I
 have e1:bl [x] = bA x:=by simp[bl]
 have e2:bl [y] = bA y:=by simp[bl]
 rw[itemS_app,itemS_app,e1,e2,hx,hy];have:=fI (a:=bl I++a) (b:=b) (d:=d) (e:=e) (c:=bl I++(a++(b++d))) (n:=k) (by simp only[List.append_assoc]) (by rw[List.length_append];omega) hb
 rw[this,List.append_assoc]
theorem appI {P:Program}{w0:World}{n:Nat}{T:TT}{S:SS}{k m q c:Nat}{z v:Value}{s x:PV}{A:Option Addr}{xs l:List Int}{seg:bD}(hs':s.val T=some v) (hk:S[k]? = some seg) (hv:aV 3 1 v m (ints xs) seg)
  (hx:x.val T=some (.slice A q c)) (hm:xs.length=m) (hq:l.length=q) (hrd:Rd w0 S A (ints l)) (hc:A=none->c=0) (hb:m+q<=1000000) :
  OW P w0 n (.app 73 3 1 8 z s x) T S (fun v' S'=>∃seg',S'=S.set k seg'/\aV 3 1 v' (xs++l).length (ints (xs++l)) seg'):=by
 have h:=OW.appL (P:=P) (w0:=w0) (n:=n) (t:=73) (z:=z) (bytes:=8) hs' hk hv hx (by simp[ints,hq]) hrd (by decide) hc (by unfold ints;rw[List.all_map];exact List.all_eq_true.2 fun _ _=>rfl) (by omega) (by unfold maxLen;omega)
 rw[show ints xs++ints l=ints (xs++l) by simp[ints]] at h
 rw[List.length_append,hm,hq];exact h
theorem appN {P:Program}{w0:World}{n:Nat}{T:TT}{S:SS}{k m q c:Nat}{z v:Value}{s x:PV}{A:Option Addr}{xs l:List aG}{seg:bD}(hs':s.val T=some v) (hk:S[k]? = some seg) (hv:aV 145 35 v m (lines xs) seg)
  (hx:x.val T=some (.slice A q c)) (hm:xs.length=m) (hq:l.length=q) (hrd:Rd w0 S A (lines l)) (hc:A=none->c=0) (hb:m+q<=1000000) :
  OW P w0 n (.app 142 145 35 64 z s x) T S (fun v' S'=>∃seg',S'=S.set k seg'/\aV 145 35 v' (xs++l).length (lines (xs++l)) seg'):=by
 have h:=OW.appL (P:=P) (w0:=w0) (n:=n) (t:=142) (z:=z) (bytes:=64) hs' hk hv hx (by rw[eT,hq]) hrd (by decide) hc (lines_one l) (by omega) (by unfold maxLen;omega)
 rw[<- lines_app] at h;rw[List.length_append,hm,hq];exact h
theorem ov_mid {a b c d e:bD}{S:SS}:Over (a::b::d::e::S) (a::b::c::d::e::S):=fun p hp=>by
 simp only[List.flatten_cons,List.mem_append] at hp ⊢;rcases hp with h|h|h|h|h<;>simp[h]
theorem ov_mid2 {a b c d e:bD}{S:SS}:Over (a::c::d::e::S) (a::b::c::d::e::S):=fun p hp=>by
 simp only[List.flatten_cons,List.mem_append] at hp ⊢;rcases hp with h|h|h|h|h<;>simp[h]
structure DocM (w0:World) (ps:List ar) (L:List aG) (k:Nat) (aC:List bg) (Ao:Option Addr) (co:Nat) (sgo sgL sgM aH:bD):Prop where
 map:aC.map bg.pl=docI ps L k
 out:aV 147 3 (.slice Ao aC.length co) aC.length (bl aC) sgo
 len:aC.length<=k
 shut:(foldI ps L k).2=[]->∀x∈aC,dP w0 aH x
 open_ : (foldI ps L k).2 ≠ [] -> ∃ (I : List bg) (x : bg), aC = I ++ [x] /\ (∀ y ∈ I, dP w0 aH y) /\ aV 145 35 (.slice x.LA x.lines.length x.lc) x.lines.length (lines x.lines) sgL /\ aV 3 1 (.slice x.MA x.cY.length x.mc) x.cY.length (ints x.cY) sgM
section
variable {w0:World}{ps:List ar}{L:List aG}{k:Nat}{aC:List bg}{Ao:Option Addr}{co:Nat}{sgo sgL sgM aH:bD}
theorem slv_eq {E sz m:Nat}{A:Option Addr}{c:Nat}{xs:List Value}{seg:bD}(h:aV E sz (.slice A m c) m xs seg):Rd w0 (seg::[]) A xs/\(A=none->c=0):=by
 obtain⟨A1,c1,e1,h2,_,r1⟩:=aF (w0:=w0) h;cases e1;exact⟨r1 [],h2⟩
theorem DocM.openIx (h:DocM w0 ps L k aC Ao co sgo sgL sgM aH) (ho:(foldI ps L k).2≠[]):∃(I:List bg) (x:bg),aC=I++[x]/\(∀y∈I,dP w0 aH y)/\aV 145 35 (.slice x.LA x.lines.length x.lc) x.lines.length (lines x.lines) sgL/\aV 3 1 (.slice x.MA x.cY.length x.mc) x.cY.length (ints x.cY) sgM/\I.map bg.pl=(foldI ps L k).1/\x.pl=blockP ps (foldI ps L k).2:=by
 obtain⟨I,x,hi,h1,h2,h3⟩:=h.open_ ho;refine⟨I,x,hi,h1,h2,h3,?_⟩;have e:=h.map
 unfold docI Gr.shut at e;rw[if_neg ho,hi,List.map_append] at e;have:=List.append_inj e (by
  have:=congrArg List.length e
  simp only[List.length_append,List.length_map,List.length_cons,List.length_nil] at this;rw[List.length_map];omega)
 exact⟨this.1,by simpa using this.2⟩
theorem DocM.allOk (h:DocM w0 ps L k aC Ao co sgo sgL sgM aH) (hk:k<=L.length) (hb:(foldI ps L k).2.length<=60000):∀x∈aC,dP w0 (sgL++(sgM++aH)) x:=by
 by_cases ho:(foldI ps L k).2=[]
 ·exact fun x hx=>(h.shut ho x hx).more fun q hq=>by simp[hq]
 obtain⟨I,x,rfl,h1,h2,h3,h4,h5⟩:=h.openIx ho;intro y hy;rcases List.mem_append.1 hy with hy|hy
 ·exact(h1 y hy).more fun q hq=>by simp[hq]
 rw[List.mem_singleton.1 hy];have hxl:x.lines.length=(foldI ps L k).2.length:=congrArg (fun z:aB=>z.lines.length) h5
 have hxm:x.cY.length<=(foldI ps L k).2.length:=by
  have:x.cY=cP ps (foldI ps L k).2 (foldI ps L k).2.length:=congrArg aB.cY h5
  rw[this];exact midsK_len _ _ _
 exact⟨(slv_eq h2).1.mono fun q hq=>by simp at hq ⊢;exact .inl hq,(slv_eq h3).1.mono fun q hq=>by simp at hq ⊢;exact .inr (.inl hq),by omega,by omega⟩
end
end Go.Proofs.Gr

namespace Go.Proofs.Gr
open Go.SL Go.RowKit Go.Proofs Go.GP Go.Proofs.Tryz
set_option maxHeartbeats 1000000
theorem rHasI_fc {w0:World}{S:SS}{A:Option Addr}{c:Nat}{l:List Int}{z:Int}(hx:Rd w0 S A (ints l)) (hb:l.length<=1000000000000) :
  FC prog w0 106 [.slice A l.length c,.int .i64 z] S (fun u S'=>u=.bool (l.contains z)/\S'=S):=by
 refine FC.of known106 (by simp) ?_
 unfold pc106;simp only[bo];refine PW.s1 rfl (PW.k2 0 1 rfl (PW.seq fun K1 hK1=>PW.s1 rfl (PW.k3 0 1 5 rfl (PW.block (PW.k3 0 1 5 rfl ?_)))))
 refine PW.aR (I:=fun mm T S'=>∃(k:Nat),(k<=l.length/\mm=l.length-k/\z∉l.take k)/\T=([(0,.slice A l.length c),(1,.int .i64 z),(5,.int .i64 k)]:TT)/\S'=S) (m:=l.length) ⟨0,⟨by omega,by omega,by simp⟩,rfl,rfl⟩ ?_
 rintro mm _ _ ⟨k,⟨hk,hmm,hall⟩,rfl,rfl⟩;refine PW.seq fun K2 hK2=>PW.s4 rfl rfl rfl rfl (PW.k4 0 1 5 9 rfl ?_)
 refine PW.cond rfl (fun c9=>?_) (fun c9=>?_)
 ·try simp only[aD] at c9
  have hkl:k<l.length:=by omega
  obtain⟨a0,rfl⟩:=ints_some hx (by omega)
  refine PW.skip (hK2 _ _ (PW.k3 0 1 5 rfl (PW.seq fun K3 hK3=>PW.block (PW.ae (OL.p2 rfl rfl (OL.x (Yields.dY rfl rfl rfl (by omega)) (OL.x (Yields.ld rfl (ints_at hx hkl)) (OL.p2 rfl rfl ?_))))))))
  refine OL.nil (PW.k4 0 1 5 17 rfl ?_);refine PW.cond rfl (fun c17=>?_) (fun c17=>?_)
  ·try simp only[aD] at c17
   exact PW.s1 rfl (PW.k1 4 rfl (PW.ret (zR rfl ⟨congrArg Value.bool (Eq.symm (List.contains_iff_mem.2 (by rw[<- c17];exact List.getElem_mem _))),rfl⟩)))
  try simp only[aD] at c17
  refine PW.skip (hK3 _ _ (PW.k3 0 1 5 rfl (PW.ops (OL.dp rfl (OL.x (Yields.ao rfl rfl (by omega) (by omega)) (OL.n1 rfl ?_))))))
  refine af.mk (T'':=[(0,_),(1,_),(5,_)]) (wi rfl) ?_;refine⟨l.length-(k+1),by omega,k+1,⟨by omega,rfl,fun hm=>?_⟩,rfl,rfl⟩
  rw[aA hkl] at hm;rcases List.mem_append.1 hm with h|h
  ·exact hall h
  rw[List.mem_singleton] at h;exact c17 h.symm
 try simp only[aD] at c9
 refine PW.exit (hK1 _ _ (PW.cD (T':=[]) trivial (PW.s1 rfl (PW.k1 4 rfl ?_))));refine PW.ret (zR rfl ?_);refine⟨congrArg Value.bool (Eq.symm ?_),rfl⟩;have:k=l.length:=by omega
 rw[this,List.take_length] at hall;simpa using hall
theorem rTextI_fc {w0:World}{S:SS}{A:Option Addr}{c:Nat}{l:List bg}(hx:Rd w0 S A (bl l)) (hr:∀x∈l,ItemRd w0 S x) (hb:l.length<=1000000) :
  FC prog w0 77 [.slice A l.length c] S (fun u S'=>∃seg,S'=seg::S/\aV 9 1 u (cJ (b8 l)).length (strs (cJ (b8 l))) seg/\(cJ (b8 l)).length<=120003000000):=by
 have hpl0:(b8 l).length=l.length:=List.length_map _
 have hNL:∀x∈b8 l,x.lines.length<=60000:=fun x hx=>by
  obtain⟨y,hy,rfl⟩:=List.mem_map.1 hx;exact(hr y hy).nL
 refine FC.of known77 (by simp) ?_
 unfold pc77;simp only[bo];refine PW.s1 rfl (PW.k1 0 rfl (PW.s1 rfl (PW.k2 0 3 rfl (PW.seq fun K1 hK1=>PW.ae (OL.bZ (S':=[]::S) (Sub.cL (Sub.refl _)) (OL.dp rfl ?_))))))
 refine OL.nil (PW.k3 0 3 4 rfl (PW.block (PW.k3 0 3 4 rfl ?_)));refine PW.aR (I:=fun mm T S'=>∃(k:Nat) (vo:Value) (sgo:bD),(k<=l.length/\mm=l.length-k/\aV 9 1 vo (cJ ((b8 l).take k)).length (strs (cJ ((b8 l).take k))) sgo)/\T=([(0,.slice A l.length c),(3,vo),(4,.int .i64 k)]:TT)/\S'=sgo::S) (m:=l.length) ⟨0,_,[],⟨by omega,by omega,by simp[cJ];exact aV.nil 9 1⟩,rfl,rfl⟩ ?_
 rintro mm _ _ ⟨k,vo,sgo,⟨hk,hmm,hso⟩,rfl,rfl⟩;refine PW.seq fun K2 hK2=>PW.s4 rfl rfl rfl rfl (PW.k4 0 3 4 9 rfl ?_)
 refine PW.cond rfl (fun c9=>?_) (fun c9=>?_)
 ·try simp only[aD] at c9
  have hkl:k<l.length:=by omega
  obtain⟨a0,rfl⟩:=cA hx (by omega)
  have hx2:=hx
  have hrk:=hr _ (List.getElem_mem hkl)
  have hnL:=hrk.nL
  have hnM:=hrk.nM
  have htl:=eQ hNL k (by omega)
  refine PW.skip (hK2 _ _ (PW.k3 0 3 4 rfl (PW.seq fun K3 hK3=>PW.block (PW.seq fun K4 hK4=>PW.ae (OL.p2 rfl rfl (OL.x (Yields.bO rfl rfl rfl hkl) (OL.dp rfl (OL.x (Yields.ld rfl (bz hx2.cons hkl 1 _ rfl)) ?_))))))))
  refine OL.nil (PW.k4 0 3 4 16 rfl ?_);refine PW.cond rfl (fun c16=>?_) (fun c16=>?_)
  ·skip;refine PW.ops (OL.dp rfl ?_);apply OL.bV (k:=0)
   ·rfl
   ·rfl
   ·rfl
   ·rfl
   ·rfl
   ·rfl
   ·exact hso
   ·rfl
   ·omega
   ·unfold maxLen;omega
   intro v19 seg19 hsl19;obtain⟨pre,hpre⟩:∃z,z=cJ ((b8 l).take k)++(if l[k].block then [beginB] else []):=⟨_,rfl⟩;have hp:aV 9 1 v19 pre.length (strs pre) seg19:=by
    rw[hpre,if_pos c16];exact bt (z:=beginB) hsl19
   have hpl:pre.length<=120003*k+1:=by rw[hpre,List.length_append];have:=eQ hNL k (by rw[hpl0];omega);split<;>simp<;>omega
   refine OL.n1 rfl (hK4 _ _ (PW.k3 0 3 4 rfl (PW.seq fun K5 hK5=>PW.s1 rfl (PW.k4 0 3 4 5 rfl (PW.block (PW.k4 0 3 4 5 rfl ?_))))))
   refine PW.aR (I:=fun mi T S'=>∃(i:Nat) (vi:Value) (sgi:bD),(i<=l[k].lines.length/\mi=l[k].lines.length-i/\aV 9 1 vi (pre++bp l[k].pl i).length (strs (pre++bp l[k].pl i)) sgi)/\T=([(0,.slice (some a0) l.length c),(3,vi),(4,.int .i64 k),(5,.int .i64 i)]:TT)/\S'=sgi::S) (m:=l[k].lines.length) ⟨0,_,_,⟨by omega,by omega,by simpa[bp] using hp⟩,rfl,rfl⟩ ?_
   rintro mi _ _ ⟨i,vi,sgi,⟨hi,hmi,hsi⟩,rfl,rfl⟩;refine PW.seq fun K6 hK6=>PW.ae (OL.p3 rfl rfl rfl (OL.x (Yields.bO rfl rfl rfl hkl) (OL.dp rfl (OL.x (Yields.ld rfl (bz hx2.cons hkl 0 _ rfl)) (OL.n2 rfl rfl (PW.k5 0 3 4 5 27 rfl ?_))))))
   refine PW.cond rfl (fun c27=>?_) (fun c27=>?_)
   ·try simp only[aD] at c27
    have hil:i<l[k].lines.length:=by omega
    obtain⟨b0,hb0⟩:=bR hrk.rdL (by omega)
    have hrl2:=hrk.rdL
    rw[hb0] at hrl2;have hrs:=rowsT_succ l[k].pl i
    have hge:l[k].pl.lines[i]! = l[k].lines[i]:=getElem!_pos l[k].lines i hil
    have hrl:=eu l[k].pl i
    have hpa:(pre++bp l[k].pl i).length=pre.length+(bp l[k].pl i).length:=List.length_append
    refine PW.skip (hK6 _ _ (PW.k4 0 3 4 5 rfl (PW.seq fun K7 hK7=>PW.block (PW.seq fun K8 hK8=>PW.ae (OL.p2 rfl rfl (OL.x (Yields.bO rfl rfl rfl hkl) (OL.dp rfl (OL.x (Yields.ld rfl (bz hx2.cons hkl 1 _ rfl)) ?_))))))))
    refine OL.bool trivial (Yields.pure rfl) (fun g35=>?_) (fun g35=>?_)
    ·try simp only[aD] at g35
     refine OL.ak rfl (.pure rfl) (OL.ak rfl (.pure rfl) (OL.ak rfl (.bO rfl rfl rfl hkl) (OL.ak rfl (.pure rfl) (OL.ak rfl (.ld rfl (bz hx2.cons hkl 2 _ rfl)) (OL.ak rfl (.pure rfl) (OL.call rfl rfl (rHasI_fc (hrk.rdM.cons) (by omega)) ?_))))))
     rintro _ Sx ⟨rfl,hSx⟩;rw[hSx];clear hSx;refine OL.n1 rfl (PW.k5 0 3 4 5 43 rfl ?_);refine PW.cond rfl (fun c43=>?_) (fun c43=>?_)
     ·skip;refine PW.ops (OL.dp rfl ?_);apply OL.bV (k:=0)
      ·rfl
      ·rfl
      ·rfl
      ·rfl
      ·rfl
      ·rfl
      ·exact hsi
      ·rfl
      ·omega
      ·unfold maxLen;omega
      intro v46 seg46 hsl46;have hsi2:=bt (l:=pre++bp l[k].pl i) (z:=middleB) hsl46
      refine OL.n1 rfl (hK8 _ _ (PW.k4 0 3 4 5 rfl (PW.ops (OL.p3 rfl rfl rfl (OL.x (Yields.bO rfl rfl rfl hkl) (OL.dp rfl (OL.x (Yields.ld rfl (bz hx2.cons hkl 0 _ rfl)) ?_)))))));rw[hb0];refine OL.dp rfl (OL.x (Yields.bO rfl rfl rfl hil) (OL.dp rfl (OL.x (Yields.ld rfl (fA hrl2.cons hil)) ?_)));apply OL.bV (k:=0)
      ·rfl
      ·rfl
      ·rfl
      ·rfl
      ·rfl
      ·rfl
      ·exact(by first|exact hsi2|exact hsi)
      ·rfl
      ·(first|omega|(simp only[List.length_append,List.length_cons,List.length_nil] at *;omega))
      ·unfold maxLen;(first|omega|(simp only[List.length_append,List.length_cons,List.length_nil] at *;omega))
      intro v58 seg58 hsl58;refine OL.n1 rfl (hK7 _ _ (PW.k4 0 3 4 5 rfl (PW.ops (OL.dp rfl (OL.x (Yields.ao rfl rfl (by omega) (by omega)) (OL.n1 rfl ?_))))))
      refine af.mk (T'':=[(0,_),(3,_),(4,_),(5,_)]) (wi rfl) ?_;have he:pre++bp l[k].pl (i+1)=pre++bp l[k].pl i++[middleB]++[l[k].lines[i].text]:=by
       rw[hrs,hge,if_pos (by show(l[k].block && l[k].cY.contains (i:Int))=true;rw[g35,c43];rfl)]
       simp only[List.nil_append,List.append_assoc]
      have:=bt (z:=l[k].lines[i].text) hsl58
      exact⟨l[k].lines.length-(i+1),by omega,i+1,_,seg58,⟨by omega,rfl,by rw[he];exact this⟩,rfl,rfl⟩
     skip;refine PW.skip (hK8 _ _ (PW.k4 0 3 4 5 rfl (PW.ops (OL.p3 rfl rfl rfl (OL.x (Yields.bO rfl rfl rfl hkl) (OL.dp rfl (OL.x (Yields.ld rfl (bz hx2.cons hkl 0 _ rfl)) ?_)))))));rw[hb0];refine OL.dp rfl (OL.x (Yields.bO rfl rfl rfl hil) (OL.dp rfl (OL.x (Yields.ld rfl (fA hrl2.cons hil)) ?_)));apply OL.bV (k:=0)
     ·rfl
     ·rfl
     ·rfl
     ·rfl
     ·rfl
     ·rfl
     ·exact(by first|exact hsi2|exact hsi)
     ·rfl
     ·(first|omega|(simp only[List.length_append,List.length_cons,List.length_nil] at *;omega))
     ·unfold maxLen;(first|omega|(simp only[List.length_append,List.length_cons,List.length_nil] at *;omega))
     intro v58 seg58 hsl58;refine OL.n1 rfl (hK7 _ _ (PW.k4 0 3 4 5 rfl (PW.ops (OL.dp rfl (OL.x (Yields.ao rfl rfl (by omega) (by omega)) (OL.n1 rfl ?_))))))
     refine af.mk (T'':=[(0,_),(3,_),(4,_),(5,_)]) (wi rfl) ?_;have he:pre++bp l[k].pl (i+1)=pre++bp l[k].pl i++[l[k].lines[i].text]:=by
      rw[hrs,hge,if_neg (by show ¬(l[k].block && l[k].cY.contains (i:Int))=true;rw[g35,c43];simp)]
      simp only[List.nil_append,List.append_assoc]
     have:=bt (z:=l[k].lines[i].text) hsl58
     exact⟨l[k].lines.length-(i+1),by omega,i+1,_,seg58,⟨by omega,rfl,by rw[he];exact this⟩,rfl,rfl⟩
    try simp only[aD] at g35
    refine OL.off rfl rfl (OL.off rfl rfl (OL.off rfl rfl (OL.off rfl rfl (OL.off rfl rfl (OL.off rfl rfl (OL.off rfl rfl (OL.n1 rfl (PW.k5 0 3 4 5 43 rfl (PW.ite (b:=false) rfl ?_)))))))));rw[if_neg Bool.false_ne_true];refine PW.skip (hK8 _ _ (PW.k4 0 3 4 5 rfl (PW.ops (OL.p3 rfl rfl rfl (OL.x (Yields.bO rfl rfl rfl hkl) (OL.dp rfl (OL.x (Yields.ld rfl (bz hx2.cons hkl 0 _ rfl)) ?_)))))));rw[hb0];refine OL.dp rfl (OL.x (Yields.bO rfl rfl rfl hil) (OL.dp rfl (OL.x (Yields.ld rfl (fA hrl2.cons hil)) ?_)));apply OL.bV (k:=0)
    ·rfl
    ·rfl
    ·rfl
    ·rfl
    ·rfl
    ·rfl
    ·exact(by first|exact hsi2|exact hsi)
    ·rfl
    ·(first|omega|(simp only[List.length_append,List.length_cons,List.length_nil] at *;omega))
    ·unfold maxLen;(first|omega|(simp only[List.length_append,List.length_cons,List.length_nil] at *;omega))
    intro v58 seg58 hsl58;refine OL.n1 rfl (hK7 _ _ (PW.k4 0 3 4 5 rfl (PW.ops (OL.dp rfl (OL.x (Yields.ao rfl rfl (by omega) (by omega)) (OL.n1 rfl ?_))))))
    refine af.mk (T'':=[(0,_),(3,_),(4,_),(5,_)]) (wi rfl) ?_;have he:pre++bp l[k].pl (i+1)=pre++bp l[k].pl i++[l[k].lines[i].text]:=by
     rw[hrs,hge,if_neg (by show ¬(l[k].block && l[k].cY.contains (i:Int))=true;rw[g35];simp)]
     simp only[List.nil_append,List.append_assoc]
    have:=bt (z:=l[k].lines[i].text) hsl58
    exact⟨l[k].lines.length-(i+1),by omega,i+1,_,seg58,⟨by omega,rfl,by rw[he];exact this⟩,rfl,rfl⟩
   try simp only[aD] at c27
   have hie:i=l[k].lines.length:=by omega
   have hpg:=pli_get hkl
   have hts:=textI_snoc (l:=b8 l) (k:=k) (by omega)
   rw[hpg] at hts;unfold dT at hts;have hts:cJ ((b8 l).take (k+1))=cJ ((b8 l).take k)++((if l[k].block=true then [beginB] else [])++bp l[k].pl l[k].lines.length++(if l[k].block=true then [closeB] else [])):=hts
   have hrl:=eu l[k].pl i
   have hpa:(pre++bp l[k].pl i).length=pre.length+(bp l[k].pl i).length:=List.length_append
   refine PW.exit (hK5 _ _ (PW.k3 0 3 4 rfl (PW.ae (OL.p2 rfl rfl (OL.x (Yields.bO rfl rfl rfl hkl) (OL.dp rfl (OL.x (Yields.ld rfl (bz hx2.cons hkl 1 _ rfl)) (OL.nil (PW.k4 0 3 4 63 rfl ?_)))))))));refine PW.cond rfl (fun c63=>?_) (fun c63=>?_)
   ·skip;refine PW.ops (OL.dp rfl ?_);apply OL.bV (k:=0)
    ·rfl
    ·rfl
    ·rfl
    ·rfl
    ·rfl
    ·rfl
    ·exact hsi
    ·rfl
    ·omega
    ·unfold maxLen;omega
    intro v66 seg66 hsl66;refine OL.n1 rfl (hK3 _ _ (PW.k3 0 3 4 rfl (PW.ops (OL.dp rfl (OL.x (Yields.ao rfl rfl (by omega) (by omega)) (OL.n1 rfl ?_))))))
    refine af.mk (T'':=[(0,_),(3,_),(4,_)]) (wi rfl) ?_;have he:cJ ((b8 l).take (k+1))=pre++bp l[k].pl i++[closeB]:=by
     rw[hts,hpre,hie];simp only[c63,if_true,List.append_assoc]
    have:=bt (z:=closeB) hsl66
    exact⟨l.length-(k+1),by omega,k+1,_,seg66,⟨by omega,rfl,by rw[he];exact this⟩,rfl,rfl⟩
   skip;refine PW.skip (hK3 _ _ (PW.k3 0 3 4 rfl (PW.ops (OL.dp rfl (OL.x (Yields.ao rfl rfl (by omega) (by omega)) (OL.n1 rfl ?_))))))
   refine af.mk (T'':=[(0,_),(3,_),(4,_)]) (wi rfl) ?_;have he:cJ ((b8 l).take (k+1))=pre++bp l[k].pl i:=by
    rw[hts,hpre,hie];simp only[c63,Bool.false_eq_true,if_false,List.append_nil,List.nil_append,List.append_assoc]
   exact⟨l.length-(k+1),by omega,k+1,vi,sgi,⟨by omega,rfl,by rw[he];exact hsi⟩,rfl,rfl⟩
  skip;obtain⟨pre,hpre⟩:∃z,z=cJ ((b8 l).take k)++(if l[k].block then [beginB] else []):=⟨_,rfl⟩;have hp:aV 9 1 vo pre.length (strs pre) sgo:=by
   rw[hpre,if_neg (by rw[c16];simp),List.append_nil]
   exact hso
  have hpl:pre.length<=120003*k+1:=by rw[hpre,List.length_append];have:=eQ hNL k (by rw[hpl0];omega);split<;>simp<;>omega
  refine PW.skip (hK4 _ _ (PW.k3 0 3 4 rfl (PW.seq fun K9 hK9=>PW.s1 rfl (PW.k4 0 3 4 5 rfl (PW.block (PW.k4 0 3 4 5 rfl ?_))))))
  refine PW.aR (I:=fun mi T S'=>∃(i:Nat) (vi:Value) (sgi:bD),(i<=l[k].lines.length/\mi=l[k].lines.length-i/\aV 9 1 vi (pre++bp l[k].pl i).length (strs (pre++bp l[k].pl i)) sgi)/\T=([(0,.slice (some a0) l.length c),(3,vi),(4,.int .i64 k),(5,.int .i64 i)]:TT)/\S'=sgi::S) (m:=l[k].lines.length) ⟨0,_,_,⟨by omega,by omega,by simpa[bp] using hp⟩,rfl,rfl⟩ ?_
  rintro mi _ _ ⟨i,vi,sgi,⟨hi,hmi,hsi⟩,rfl,rfl⟩;refine PW.seq fun K10 hK10=>PW.ae (OL.p3 rfl rfl rfl (OL.x (Yields.bO rfl rfl rfl hkl) (OL.dp rfl (OL.x (Yields.ld rfl (bz hx2.cons hkl 0 _ rfl)) (OL.n2 rfl rfl (PW.k5 0 3 4 5 27 rfl ?_))))))
  refine PW.cond rfl (fun c27=>?_) (fun c27=>?_)
  ·try simp only[aD] at c27
   have hil:i<l[k].lines.length:=by omega
   obtain⟨b0,hb0⟩:=bR hrk.rdL (by omega)
   have hrl2:=hrk.rdL
   rw[hb0] at hrl2;have hrs:=rowsT_succ l[k].pl i
   have hge:l[k].pl.lines[i]! = l[k].lines[i]:=getElem!_pos l[k].lines i hil
   have hrl:=eu l[k].pl i
   have hpa:(pre++bp l[k].pl i).length=pre.length+(bp l[k].pl i).length:=List.length_append
   refine PW.skip (hK10 _ _ (PW.k4 0 3 4 5 rfl (PW.seq fun K11 hK11=>PW.block (PW.seq fun K12 hK12=>PW.ae (OL.p2 rfl rfl (OL.x (Yields.bO rfl rfl rfl hkl) (OL.dp rfl (OL.x (Yields.ld rfl (bz hx2.cons hkl 1 _ rfl)) ?_))))))))
   refine OL.bool trivial (Yields.pure rfl) (fun g35=>?_) (fun g35=>?_)
   ·try simp only[aD] at g35
    refine OL.ak rfl (.pure rfl) (OL.ak rfl (.pure rfl) (OL.ak rfl (.bO rfl rfl rfl hkl) (OL.ak rfl (.pure rfl) (OL.ak rfl (.ld rfl (bz hx2.cons hkl 2 _ rfl)) (OL.ak rfl (.pure rfl) (OL.call rfl rfl (rHasI_fc (hrk.rdM.cons) (by omega)) ?_))))))
    rintro _ Sx ⟨rfl,hSx⟩;rw[hSx];clear hSx;refine OL.n1 rfl (PW.k5 0 3 4 5 43 rfl ?_);refine PW.cond rfl (fun c43=>?_) (fun c43=>?_)
    ·skip;refine PW.ops (OL.dp rfl ?_);apply OL.bV (k:=0)
     ·rfl
     ·rfl
     ·rfl
     ·rfl
     ·rfl
     ·rfl
     ·exact hsi
     ·rfl
     ·omega
     ·unfold maxLen;omega
     intro v46 seg46 hsl46;have hsi2:=bt (l:=pre++bp l[k].pl i) (z:=middleB) hsl46
     refine OL.n1 rfl (hK12 _ _ (PW.k4 0 3 4 5 rfl (PW.ops (OL.p3 rfl rfl rfl (OL.x (Yields.bO rfl rfl rfl hkl) (OL.dp rfl (OL.x (Yields.ld rfl (bz hx2.cons hkl 0 _ rfl)) ?_)))))));rw[hb0];refine OL.dp rfl (OL.x (Yields.bO rfl rfl rfl hil) (OL.dp rfl (OL.x (Yields.ld rfl (fA hrl2.cons hil)) ?_)));apply OL.bV (k:=0)
     ·rfl
     ·rfl
     ·rfl
     ·rfl
     ·rfl
     ·rfl
     ·exact(by first|exact hsi2|exact hsi)
     ·rfl
     ·(first|omega|(simp only[List.length_append,List.length_cons,List.length_nil] at *;omega))
     ·unfold maxLen;(first|omega|(simp only[List.length_append,List.length_cons,List.length_nil] at *;omega))
     intro v58 seg58 hsl58;refine OL.n1 rfl (hK11 _ _ (PW.k4 0 3 4 5 rfl (PW.ops (OL.dp rfl (OL.x (Yields.ao rfl rfl (by omega) (by omega)) (OL.n1 rfl ?_))))))
     refine af.mk (T'':=[(0,_),(3,_),(4,_),(5,_)]) (wi rfl) ?_;have he:pre++bp l[k].pl (i+1)=pre++bp l[k].pl i++[middleB]++[l[k].lines[i].text]:=by
      rw[hrs,hge,if_pos (by show(l[k].block && l[k].cY.contains (i:Int))=true;rw[g35,c43];rfl)]
      simp only[List.nil_append,List.append_assoc]
     have:=bt (z:=l[k].lines[i].text) hsl58
     exact⟨l[k].lines.length-(i+1),by omega,i+1,_,seg58,⟨by omega,rfl,by rw[he];exact this⟩,rfl,rfl⟩
    skip;refine PW.skip (hK12 _ _ (PW.k4 0 3 4 5 rfl (PW.ops (OL.p3 rfl rfl rfl (OL.x (Yields.bO rfl rfl rfl hkl) (OL.dp rfl (OL.x (Yields.ld rfl (bz hx2.cons hkl 0 _ rfl)) ?_)))))));rw[hb0];refine OL.dp rfl (OL.x (Yields.bO rfl rfl rfl hil) (OL.dp rfl (OL.x (Yields.ld rfl (fA hrl2.cons hil)) ?_)));apply OL.bV (k:=0)
    ·rfl
    ·rfl
    ·rfl
    ·rfl
    ·rfl
    ·rfl
    ·exact(by first|exact hsi2|exact hsi)
    ·rfl
    ·(first|omega|(simp only[List.length_append,List.length_cons,List.length_nil] at *;omega))
    ·unfold maxLen;(first|omega|(simp only[List.length_append,List.length_cons,List.length_nil] at *;omega))
    intro v58 seg58 hsl58;refine OL.n1 rfl (hK11 _ _ (PW.k4 0 3 4 5 rfl (PW.ops (OL.dp rfl (OL.x (Yields.ao rfl rfl (by omega) (by omega)) (OL.n1 rfl ?_))))))
    refine af.mk (T'':=[(0,_),(3,_),(4,_),(5,_)]) (wi rfl) ?_;have he:pre++bp l[k].pl (i+1)=pre++bp l[k].pl i++[l[k].lines[i].text]:=by
     rw[hrs,hge,if_neg (by show ¬(l[k].block && l[k].cY.contains (i:Int))=true;rw[g35,c43];simp)]
     simp only[List.nil_append,List.append_assoc]
    have:=bt (z:=l[k].lines[i].text) hsl58
    exact⟨l[k].lines.length-(i+1),by omega,i+1,_,seg58,⟨by omega,rfl,by rw[he];exact this⟩,rfl,rfl⟩
   try simp only[aD] at g35
   refine OL.off rfl rfl (OL.off rfl rfl (OL.off rfl rfl (OL.off rfl rfl (OL.off rfl rfl (OL.off rfl rfl (OL.off rfl rfl (OL.n1 rfl (PW.k5 0 3 4 5 43 rfl (PW.ite (b:=false) rfl ?_)))))))));rw[if_neg Bool.false_ne_true];refine PW.skip (hK12 _ _ (PW.k4 0 3 4 5 rfl (PW.ops (OL.p3 rfl rfl rfl (OL.x (Yields.bO rfl rfl rfl hkl) (OL.dp rfl (OL.x (Yields.ld rfl (bz hx2.cons hkl 0 _ rfl)) ?_)))))));rw[hb0];refine OL.dp rfl (OL.x (Yields.bO rfl rfl rfl hil) (OL.dp rfl (OL.x (Yields.ld rfl (fA hrl2.cons hil)) ?_)));apply OL.bV (k:=0)
   ·rfl
   ·rfl
   ·rfl
   ·rfl
   ·rfl
   ·rfl
   ·exact(by first|exact hsi2|exact hsi)
   ·rfl
   ·(first|omega|(simp only[List.length_append,List.length_cons,List.length_nil] at *;omega))
   ·unfold maxLen;(first|omega|(simp only[List.length_append,List.length_cons,List.length_nil] at *;omega))
   intro v58 seg58 hsl58;refine OL.n1 rfl (hK11 _ _ (PW.k4 0 3 4 5 rfl (PW.ops (OL.dp rfl (OL.x (Yields.ao rfl rfl (by omega) (by omega)) (OL.n1 rfl ?_))))))
   refine af.mk (T'':=[(0,_),(3,_),(4,_),(5,_)]) (wi rfl) ?_;have he:pre++bp l[k].pl (i+1)=pre++bp l[k].pl i++[l[k].lines[i].text]:=by
    rw[hrs,hge,if_neg (by show ¬(l[k].block && l[k].cY.contains (i:Int))=true;rw[g35];simp)]
    simp only[List.nil_append,List.append_assoc]
   have:=bt (z:=l[k].lines[i].text) hsl58
   exact⟨l[k].lines.length-(i+1),by omega,i+1,_,seg58,⟨by omega,rfl,by rw[he];exact this⟩,rfl,rfl⟩
  try simp only[aD] at c27
  have hie:i=l[k].lines.length:=by omega
  have hpg:=pli_get hkl
  have hts:=textI_snoc (l:=b8 l) (k:=k) (by omega)
  rw[hpg] at hts;unfold dT at hts;have hts:cJ ((b8 l).take (k+1))=cJ ((b8 l).take k)++((if l[k].block=true then [beginB] else [])++bp l[k].pl l[k].lines.length++(if l[k].block=true then [closeB] else [])):=hts
  have hrl:=eu l[k].pl i
  have hpa:(pre++bp l[k].pl i).length=pre.length+(bp l[k].pl i).length:=List.length_append
  refine PW.exit (hK9 _ _ (PW.k3 0 3 4 rfl (PW.ae (OL.p2 rfl rfl (OL.x (Yields.bO rfl rfl rfl hkl) (OL.dp rfl (OL.x (Yields.ld rfl (bz hx2.cons hkl 1 _ rfl)) (OL.nil (PW.k4 0 3 4 63 rfl ?_)))))))));refine PW.cond rfl (fun c63=>?_) (fun c63=>?_)
  ·skip;refine PW.ops (OL.dp rfl ?_);apply OL.bV (k:=0)
   ·rfl
   ·rfl
   ·rfl
   ·rfl
   ·rfl
   ·rfl
   ·exact hsi
   ·rfl
   ·omega
   ·unfold maxLen;omega
   intro v66 seg66 hsl66;refine OL.n1 rfl (hK3 _ _ (PW.k3 0 3 4 rfl (PW.ops (OL.dp rfl (OL.x (Yields.ao rfl rfl (by omega) (by omega)) (OL.n1 rfl ?_))))))
   refine af.mk (T'':=[(0,_),(3,_),(4,_)]) (wi rfl) ?_;have he:cJ ((b8 l).take (k+1))=pre++bp l[k].pl i++[closeB]:=by
    rw[hts,hpre,hie];simp only[c63,if_true,List.append_assoc]
   have:=bt (z:=closeB) hsl66
   exact⟨l.length-(k+1),by omega,k+1,_,seg66,⟨by omega,rfl,by rw[he];exact this⟩,rfl,rfl⟩
  skip;refine PW.skip (hK3 _ _ (PW.k3 0 3 4 rfl (PW.ops (OL.dp rfl (OL.x (Yields.ao rfl rfl (by omega) (by omega)) (OL.n1 rfl ?_))))))
  refine af.mk (T'':=[(0,_),(3,_),(4,_)]) (wi rfl) ?_;have he:cJ ((b8 l).take (k+1))=pre++bp l[k].pl i:=by
   rw[hts,hpre,hie];simp only[c63,Bool.false_eq_true,if_false,List.append_nil,List.nil_append,List.append_assoc]
  exact⟨l.length-(k+1),by omega,k+1,vi,sgi,⟨by omega,rfl,by rw[he];exact hsi⟩,rfl,rfl⟩
 try simp only[aD] at c9
 refine PW.exit (hK1 _ _ (PW.k1 3 rfl (PW.s2 rfl rfl (PW.k1 2 rfl ?_))));refine PW.ret (zR rfl ?_);have hke:k=(b8 l).length:=by omega
 rw[hke,List.take_length] at hso;have:=eQ hNL (b8 l).length (Nat.le_refl _)
 rw[List.take_length] at this;exact⟨sgo,rfl,hso,by omega⟩
end Go.Proofs.Gr

namespace Go.Proofs.Gr
open Go.SL Go.RowKit Go.Proofs Go.GP
set_option maxHeartbeats 1000000
theorem item_stE {w0:World}{S:SS}{P:Program}{n r E:Nat}{T:TT}{x v:PV}{u:bg}{z:List Value}(hx:x.val T=some (.pointer (some ⟨r,0,none⟩))) (hv:v.val T=some (itemV u)) (hz:z.length=3) :
  OW P w0 n (.st 3 x v) T ([(r,.cells z E 3)]::S) (fun _ S'=>S'=[(r,.cells (bA u) E 3)]::S):=by
 refine(OW.st (k:=0) (c:=z) (u:=itemV u) hx hv rfl (show(itemV u).cells.size=3 from rfl) (by omega) rfl).mono ?_
 rintro _ _ rfl;rw[item_box,eP (by rw[cU,hz])]
 rfl
theorem item_snocE {E:Nat}{v:Value}{l:List bg}{x:bg}{seg:bD}(h:aV E 3 v (l.length+1) (bl l++bA x) seg):aV E 3 v (l++[x]).length (bl (l++[x])) seg:=by
 rw[List.length_append,itemS_app];have:bl [x] = bA x:=by simp[bl]
 rw[this];exact h
theorem sub_a {a b c d j:bD}{S:SS}:Sub (b::[]::[]::(a++(c++(d++j)))::S) (a::b::c::d::j::S):=
 ⟨fun p hp=>by
  simp only[List.flatten_cons,List.mem_append,List.nil_append] at hp ⊢;rcases hp with h|(h|h|h|h)|h<;>simp[h],fun hn=>by
  have hperm:(b++((a++(c++(d++j)))++S.flatten)).Perm (a++(b++(c++(d++(j++S.flatten))))):=by
   have h1:(b++((a++(c++(d++j)))++S.flatten))=(b++a)++(c++(d++(j++S.flatten))):=by simp only[List.append_assoc]
   have h2:(a++(b++(c++(d++(j++S.flatten)))))=(a++b)++(c++(d++(j++S.flatten))):=by simp only[List.append_assoc]
   rw[h1,h2];exact(List.perm_append_comm).append_right _
  have h3:=(hperm.map Prod.fst).nodup_iff.2 (by simpa only[List.flatten_cons] using hn)
  simpa only[List.flatten_cons,List.nil_append] using h3⟩
theorem sub_c {a b c d j:bD}{S:SS}:Sub (b::a::[]::j::S) (a::b::c::d::j::S):=
 (Sub.cons (Sub.cons (Sub.cL (Sub.refl _)))).trans (Sub.ec [1,0,4] 5 (by decide) (a::b::c::d::j::S))
theorem doc_solid {w0:World}{ps:List ar}{L:List aG}{k:Nat}{aC:List bg}{Ao A2:Option Addr}{co c2 r:Nat}{sgo sgL sgM aH sg2:bD}(h:DocM w0 ps L k aC Ao co sgo sgL sgM aH) (hk:k<L.length) (hl:L.length<=60000) (hfl:(foldI ps L k).2.length<=L.length) (hs:cR ps L L[k] = true)
  (ho:aV 147 3 (.slice A2 (aC.length+1) c2) (aC.length+1) (bl aC++bA ⟨some ⟨r,0,none⟩,1,[L[k]],false,none,0,[]⟩) sg2) :
  DocM w0 ps L (k+1) (aC++[⟨some ⟨r,0,none⟩,1,[L[k]],false,none,0,[]⟩]) A2 c2 sg2 [] [] ([(r,AO.cells (bq L[k]) 145 35)]++(sgL++(sgM++aH))):=by
 obtain⟨d1,d2⟩:=docI_solid hk hs;refine⟨by rw[List.map_append,h.map,d1];rfl,?_,by rw[List.length_append];have:=h.len;simp only[List.length_cons,List.length_nil];omega,fun _ y hy=>?_,fun hn=>absurd d2 hn⟩
 ·have:=item_snocE ho
  rw[List.length_append] at this ⊢;exact this
 rcases List.mem_append.1 hy with hy|hy
 ·exact(h.allOk (by omega) (by omega) y hy).more fun q hq=>List.mem_append_right _ hq
 rw[List.mem_singleton.1 hy];exact⟨(Rd.own (E:=145) (tot:=35) (by simp[lines])).mono (fun q hq=>hq),Rd.nil,Nat.succ_le_succ (Nat.zero_le _),Nat.zero_le _⟩
theorem doc_new {w0:World}{ps:List ar}{L:List aG}{k:Nat}{aC:List bg}{Ao A2:Option Addr}{co c2 r:Nat}{sgo sgL sgM aH sg2:bD}(h:DocM w0 ps L k aC Ao co sgo sgL sgM aH) (hk:k<L.length) (hs:cR ps L L[k] = false) (hop:(foldI ps L k).2=[])
  (ho:aV 147 3 (.slice A2 (aC.length+1) c2) (aC.length+1) (bl aC++bA ⟨some ⟨r,0,none⟩,1,[L[k]],true,none,0,[]⟩) sg2) :
  DocM w0 ps L (k+1) (aC++[⟨some ⟨r,0,none⟩,1,[L[k]],true,none,0,[]⟩]) A2 c2 sg2 [(r,AO.cells (bq L[k]) 145 35)] [] aH:=by
 obtain⟨d1,d2⟩:=docI_new hk hs hop;refine⟨by rw[List.map_append,h.map,d1];rfl,?_,by rw[List.length_append];have:=h.len;simp only[List.length_cons,List.length_nil];omega,fun hn=>absurd (d2.symm.trans hn) (by simp),fun _=>⟨aC,_,rfl,h.shut hop,?_,aV.nil 3 1⟩⟩
 ·have:=item_snocE ho
  rw[List.length_append] at this ⊢;exact this
 have:=aV.mk' (E:=145) (sz:=35) (m:=1) (cap:=1) (r:=r) (xs:=bq L[k]) (by rw[aJ]) (Nat.le_refl _) (by decide)
 simpa[lines] using this
theorem doc_more {w0:World}{ps:List ar}{L:List aG}{k:Nat}{I:List bg}{x y:bg}{Ao A2:Option Addr}{co c2:Nat}{sgo sgL sgM aH sg2 sgL2 sgM2:bD}(h:DocM w0 ps L k (I++[x]) Ao co sgo sgL sgM aH) (hk:k<L.length) (hs:cR ps L L[k] = false) (hop:(foldI ps L k).2≠[])
  (hI:I.map bg.pl=(foldI ps L k).1) (hok:∀y∈I,dP w0 aH y) (hy:y.pl=blockP ps ((foldI ps L k).2++[L[k]]))
  (ho:aV 147 3 (.slice A2 (I++[y]).length c2) (I++[y]).length (bl (I++[y])) sg2) (hL:aV 145 35 (.slice y.LA y.lines.length y.lc) y.lines.length (lines y.lines) sgL2) (hM:aV 3 1 (.slice y.MA y.cY.length y.mc) y.cY.length (ints y.cY) sgM2) :
  DocM w0 ps L (k+1) (I++[y]) A2 c2 sg2 sgL2 sgM2 aH:=by
 obtain⟨d0,d1,d2,d3⟩:=docI_more hk hs hop;have hlen:=h.len
 rw[List.length_append] at hlen;refine⟨by rw[List.map_append,hI,d1,<- hy];rfl,ho,by rw[List.length_append];simp only[List.length_cons,List.length_nil] at hlen ⊢;omega,fun hn=>absurd (d2.symm.trans hn) (by simp),fun _=>⟨I,y,rfl,hok,hL,hM⟩⟩
end Go.Proofs.Gr

namespace Go.Proofs.Gr
open Go.SL Go.RowKit Go.Proofs Go.GP Go.Proofs.Tryz
set_option maxHeartbeats 1000000
theorem item_stf {P:Program}{w0:World}{n:Nat}{T:TT}{S:SS}{k ro i f tot E:Nat}{x v:PV}{c:List Value}{u:Value}(hk:S[k]? = some [(ro,.cells c E tot)]) (hx:x.val T=some (.pointer (some (((⟨ro,0,none⟩:Addr).add (i*3)).add f)))) (hv:v.val T=some u) (hu:u.cells.size=1) (hb:i*3+f+1<=c.length) (ho:u.cells.toList.all (·.oneCell')=true) :
  OW P w0 n (.st 1 x v) T S (fun _ S'=>S'=S.set k [(ro,.cells (setAt c (i*3+f) u.cells.toList) E tot)]):=by
 rw[aZ,add_own] at hx;exact OW.st (k:=k) (c:=c) (u:=u) hx hv hk hu hb ho
theorem sub_fin {a b c j t:bD}{S:SS}:Sub (a::(b++(c++j))::S) (a::b::c::j::t::S):=
 (Sub.cons Sub.join).trans ((Sub.cons (Sub.cons Sub.join)).trans (Sub.cons (Sub.cons (Sub.cons (Sub.cons (Sub.drop (Sub.refl _)))))))
theorem rItems_fc {w0:World}{S:SS}{A:Option Addr}{c:Nat}{l:List aN}(h:du w0 S A l) (hsq2:Sq (bW l).reverse) (hb:(bC (bW l).reverse).length<=60000) :
  FC prog w0 31 [.slice A l.length c] S (fun v S'=>∃aC seg aH,S'=seg::aH::S/\aC.map bg.pl=b7 (bW l).reverse/\aV 147 3 v aC.length (bl aC) seg/\(∀x∈aC,dP w0 aH x)/\aC.length<=60000):=by
 obtain⟨ps,hps⟩:∃z,z=(bW l).reverse:=⟨_,rfl⟩;have hsq:Sq ps:=by rw[hps];exact hsq2
 rw[<- hps] at hb ⊢;obtain⟨L,hL⟩:∃z,z=live (bC ps):=⟨_,rfl⟩;have hrow:Row ps L:=by rw[hL];exact linesP_row hsq
 have hlb:L.length<=60000:=by rw[hL];exact Nat.le_trans (live_len _) hb
 have hv:∀x∈L,x.v∈bh (bW l):=fun x hx=>by
  rw[hL] at hx;obtain⟨k,hk,rfl⟩:=List.getElem_of_mem (List.mem_filter.1 hx).1;obtain⟨q,hq,hv⟩:=bN.1 (linesP_v hk);rw[hps] at hq;exact bN.2 ⟨q,List.mem_reverse.1 hq,hv⟩
 refine FC.ofD known31 (by simp) ?_
 unfold pc31;simp only[bo];refine PW.s1 rfl (PW.k1 0 rfl (PW.ae (OL.dp rfl ?_)));refine OL.l rfl (rAlive_fc h hsq2 (by rw[<- hps];omega)) ?_
 rintro _ _ ⟨sgl,rfl,hsl⟩;rw[<- hps,<- hL] at hsl;obtain⟨Bl,bc,rfl,hnl,hcl,hrl⟩:=aF (w0:=w0) hsl;refine OL.n1 rfl (PW.k2 0 3 rfl (PW.ae (OL.bZ (S':=[]::[]::[]::[]::sgl::S) (Sub.cL (Sub.cL (Sub.cL (Sub.cL (Sub.refl _))))) (OL.n1 rfl (PW.k3 0 3 4 rfl (PW.seq fun K1 hK1=>PW.s1 rfl ?_))))))
 refine PW.k4 0 3 4 5 rfl (PW.block (PW.k4 0 3 4 5 rfl ?_));refine PW.aR (I:=fun mm T S'=>∃(k:Nat) (aC:List bg) (Ao:Option Addr) (co:Nat) (sgo sgL sgM aH:bD),(k<=L.length/\mm=L.length-k/\DocM w0 ps L k aC Ao co sgo sgL sgM aH)/\T=([(0,.slice A l.length c),(3,.slice Bl L.length bc),(4,.slice Ao aC.length co),(5,.int .i64 k)]:TT)/\S'=sgo::sgL::sgM::aH::sgl::S) (m:=L.length) ⟨0,[],_,_,[],[],[],[],⟨by omega,by omega,⟨rfl,aV.nil 147 3,Nat.le_refl 0,(fun _ x hx=>by cases hx),fun hn=>absurd rfl hn⟩⟩,rfl,rfl⟩ ?_
 rintro mm _ _ ⟨k,aC,Ao,co,sgo,sgL,sgM,aH,⟨hk,hmm,hm⟩,rfl,rfl⟩;refine PW.seq fun K2 hK2=>PW.s4 rfl rfl rfl rfl (PW.k5 0 3 4 5 12 rfl ?_)
 refine PW.cond rfl (fun c12=>?_) (fun c12=>?_)
 ·try simp only[aD] at c12
  have hkl:k<L.length:=by omega
  obtain⟨b0,rfl⟩:=bR (hrl []) (by omega)
  have hLb:Rd w0 (sgo::sgL::sgM::aH::sgl::S) (some b0) (lines L):=br (hrl []) (by simp)
  have hfl:(foldI ps L k).2.length<=L.length:=Nat.le_trans ((St.fold hsq hrow k (by omega)).opLen (by omega)) (by omega)
  have hit:=hm.len
  refine PW.skip (hK2 _ _ (PW.k4 0 3 4 5 rfl (PW.seq fun K3 hK3=>PW.block (PW.seq fun K4 hK4=>PW.ae (OL.p3 rfl rfl rfl ?_)))))
  refine OL.q rfl (rSolid_fc (r:=cR ps L L[k]) h.cons.cons.cons.cons.cons hsq2 (br (hrl []) (by simp)) hv (fun j k hj hk hn=>hrow.ne hj hk hn) hkl (by omega) (by rw[<- hps];exact solid_ix hrow hkl)) ?_
  refine OL.nil (PW.k5 0 3 4 5 18 rfl ?_);refine PW.cond rfl (fun c18=>?_) (fun c18=>?_)
  ·skip;refine PW.ae (OL.p3 rfl rfl rfl (OL.x (Yields.bO rfl rfl rfl hkl) (OL.x (Yields.aT rfl (aJ _) (dA hLb hkl)) (OL.c (OW.fl (cs:=bq L[k]) (ft rfl rfl)) ?_))));rintro _ _ ⟨r24,rfl,rfl⟩;rw[aJ];refine OL.x (Yields.build (cs:=bA ⟨some ⟨r24,0,none⟩,1,[L[k]],false,none,0,[]⟩) rfl) ?_;apply OL.bV (k:=1)
   ·rfl
   ·rfl
   ·rfl
   ·rfl
   ·rfl
   ·rfl
   ·exact hm.out
   ·rfl
   ·omega
   ·unfold maxLen;omega
   intro v27 seg27 hs27;obtain⟨A27,c27,rfl,_,_,_⟩:=aF (w0:=w0) hs27;have hdm:=doc_solid hm hkl hlb hfl c18 hs27
   refine OL.n1 rfl (PW.k4 0 3 4 5 rfl (PW.exit (hK3 _ _ (PW.k4 0 3 4 5 rfl (PW.ops (OL.dp rfl (OL.x (Yields.ao rfl rfl (by omega) (by omega)) (OL.n1 rfl ?_))))))))
   refine af.dE (sub_a) (T'':=[(0,_),(3,_),(4,_),(5,_)]) (wi rfl) ?_;exact⟨L.length-(k+1),by omega,k+1,_,_,_,_,_,_,_,⟨by omega,rfl,hdm⟩,by simp only[List.length_append,List.length_cons,List.length_nil];rfl,rfl⟩
  skip;refine PW.skip (hK4 _ _ (PW.k4 0 3 4 5 rfl (PW.s3 rfl rfl rfl (PW.k5 0 3 4 5 6 rfl (PW.seq fun K5 hK5=>PW.ae (OL.dp rfl ?_))))))
  refine OL.dp rfl ?_;refine OL.bool trivial (Yields.pure rfl) (fun g32=>?_) (fun g32=>?_)
  ·try simp only[aD] at g32
   have hpos:0<aC.length:=by omega
   obtain⟨ro,capo,eo,rfl,hc1,hc2⟩:=slv_own hm.out hpos;simp only[Value.slice.injEq,true_and] at eo;obtain⟨rfl,rfl⟩:=eo;refine OL.ak rfl (.pure rfl) (OL.ak rfl (.pure rfl) (OL.ak rfl (.cH rfl rfl (by omega) (by omega)) (OL.ak rfl (.bO (j:=aC.length-1) rfl rfl (by omega) (by omega)) (OL.ak rfl (.pure rfl) (OL.ak rfl (.ld rfl (bz (k:=aC.length-1) (br (slv_eq hm.out).1 (by simp)) (by omega) 1 _ rfl)) (OL.n1 rfl (PW.k6 0 3 4 5 6 39 rfl ?_)))))))
   refine PW.cond rfl (fun c39=>?_) (fun c39=>?_)
   ·skip;have hnb:¬aC[aC.length-1].pl.block=false:=fun e=>by rw[show aC[aC.length-1].block=false from e] at c39;cases c39
    have hop:(foldI ps L k).2≠[]:=fun e=>hnb (by
     have hst:=(St.fold hsq hrow k (by omega)).last
     have hd:docI ps L k=(foldI ps L k).1:=by unfold docI Gr.shut;rw[if_pos e,List.append_nil]
     refine hst aC[aC.length-1].pl ?_;rw[<- hd,<- hm.map,List.getLast?_map,List.getLast?_eq_getElem?,List.getElem?_eq_getElem (by omega)]
     rfl)
    obtain⟨I,xb,rfl,hIok,hbl,hbm,hI,hxb⟩:=hm.openIx hop;have hil:(I++[xb]).length=I.length+1:=by simp
    obtain⟨p,hp,hpk,hpl⟩:=foldI_last hsq hrow hkl hop;subst hpk;have hxl:xb.lines=(foldI ps L (p+1)).2:=congrArg aB.lines hxb
    have hxm:xb.cY=cP ps (foldI ps L (p+1)).2 (foldI ps L (p+1)).2.length:=congrArg aB.cY hxb
    have hxk:xb.block=true:=congrArg aB.block hxb
    have hml:=midsK_len ps (foldI ps L (p+1)).2 (foldI ps L (p+1)).2.length
    have hol:(foldI ps L (p+1)).2.length<=p+1:=(St.fold hsq hrow (p+1) (by omega)).opLen (by omega)
    have hxll:xb.lines.length<=p+1:=by rw[hxl];exact hol
    have hxml:xb.cY.length<=p+1:=by rw[hxm];omega
    have hmore:=mids_more (ps:=ps) (foldI ps L (p+1)).2 L[p+1] L[p] hpl
    have hLa:=hbl
    have hMa:=hbm
    have hro:∀T:SS,Rd w0 ([(ro,.cells (bl (I++[xb])) 147 (co*3))]::T) (some ⟨ro,0,none⟩) (bl (I++[xb])):=fun T=>Rd.own (E:=147) (tot:=co*3) (by simp)
    have hLb:Rd w0 ([(ro,.cells (bl (I++[xb])) 147 (co*3))]::sgL::sgM::aH::sgl::S) (some b0) (lines L):=br (hrl []) (by simp)
    refine PW.seq fun K6 hK6=>PW.seq fun K7 hK7=>PW.aQ mixed (QK.p3 rfl rfl rfl (QK.x (Yields.cH rfl rfl (by omega) (by omega)) (QK.x (Yields.bO (j:=p) rfl rfl (by omega) hp) (QK.dp rfl (QK.x (Yields.aT rfl (aa _) (fJ hLb hp)) (QK.p2 rfl rfl ?_))))))
    refine QK.x (Yields.bO (j:=p+1) rfl rfl rfl hkl) (QK.dp rfl (QK.x (Yields.aT rfl (aa _) (fJ hLb hkl)) (QK.nil ?_)));change OL _ _ _ [_,_] _ _ _;refine OL.q rfl (rOrd_fc h.cons.cons.cons.cons.cons hsq2 (hv _ (List.getElem_mem hp)) (hv _ (List.getElem_mem hkl)) (hrow.ne hp hkl (by omega))) ?_
    rw[<- hps];refine OL.n1 rfl (hK7 _ _ (PW.k6 0 3 4 5 6 53 rfl ?_));refine PW.cond rfl (fun c53=>?_) (fun c53=>?_)
    ·try simp only[aD] at c53
     refine PW.dy (Ss:=Over ([(ro,.cells (bl (I++[xb])) 147 (co*3))]::sgL::aH::sgl::S)) (fr:=false) [(0,0),(1,0),(2,0),(3,0),(4,0),(5,0),(6,0),(7,0),(8,0),(9,0),(10,0),(11,0),(12,0),(13,0),(14,0),(15,0),(16,2),(17,2)] mixed (by decide +kernel) ov_mid (fun h=>by cases h) ?_
     refine GL.dp rfl ?_;refine GL.dp rfl ?_;refine GL.ak trivial (fun Sx hSx=>Yields.cH rfl rfl (by omega) (by omega)) ?_
     refine GL.dp rfl ?_;refine GL.dp rfl ?_;refine GL.ak trivial (fun Sx hSx=>Yields.cH rfl rfl (by omega) (by omega)) ?_
     refine GL.ak trivial (fun Sx hSx=>Yields.bO (j:=I.length) rfl rfl (by omega) (by omega)) ?_
     refine GL.dp rfl ?_;refine GL.ak trivial (fun Sx hSx=>Yields.ld rfl (item_last ((hro _).mono hSx) 2 _ rfl)) ?_
     refine GL.dp rfl ?_;refine GL.dp rfl ?_;refine GL.ak trivial (fun Sx hSx=>Yields.cH rfl rfl (by omega) (by omega)) ?_
     refine GL.ak trivial (fun Sx hSx=>Yields.bO (j:=I.length) rfl rfl (by omega) (by omega)) ?_
     refine GL.dp rfl ?_;refine GL.ak trivial (fun Sx hSx=>Yields.ld rfl (item_last ((hro _).mono hSx) 0 _ rfl)) ?_
     refine GL.dp rfl ?_;refine GL.lo trivial (OW.mono (OW.fl (cs:=ints [(xb.lines.length:Int)]) rfl) ?_);rintro _ _ ⟨r70,rfl,rfl⟩;refine⟨ov_mid.cons,?_⟩;refine GL.lo trivial (OW.mono (appI (k:=3) (xs:=xb.cY) (l:=[(xb.lines.length:Int)]) rfl rfl hMa rfl rfl rfl (Rd.own (E:=3) bF) (fun h=>by cases h) (by omega)) ?_)
     rintro v71 _ ⟨sg71,rfl,hs71⟩;obtain⟨A71,c71,rfl,hn71,hc71,hr71⟩:=aF (w0:=w0) hs71;refine⟨ov_mid.cons,?_⟩;change OL _ _ _ [_,_,_] _ _ _;refine OL.x (Yields.bO (j:=I.length) rfl rfl (by omega) (by omega)) (OL.dp rfl ?_)
     refine OL.c (item_stf (k:=1) (ro:=ro) (i:=I.length) (f:=2) (c:=bl (I++[xb])) (u:=.slice A71 (xb.cY++[(xb.lines.length:Int)]).length c71) rfl rfl rfl rfl (by rw[eR];omega) rfl) ?_
     rintro _ _ rfl;change OL _ _ _ _ _ ([(r70,.cells (ints [(xb.lines.length:Int)]) 3 1)]::[(ro,.cells (setAt (bl (I++[xb])) (I.length*3+2) [.slice A71 (xb.cY++[(xb.lines.length:Int)]).length c71]) 147 (co*3))]::sgL::sg71::aH::sgl::S) _;obtain⟨x1,hx1⟩:∃z:bg,z=⟨xb.LA,xb.lc,xb.lines,xb.block,A71,c71,xb.cY++[(xb.lines.length:Int)]⟩:=⟨_,rfl⟩;obtain⟨sgM1,hsg⟩:∃z,z=sg71:=⟨_,rfl⟩;rw[set_item (x:=xb) (y:=x1) (a:=[.slice xb.LA xb.lines.length xb.lc,.bool xb.block]) (b:=[.slice xb.MA xb.cY.length xb.mc]) (d:=[]) (e:=[.slice A71 (xb.cY++[(xb.lines.length:Int)]).length c71]) (k:=I.length*3+2) rfl (by rw[hx1];rfl) rfl (by simp),<- hsg]
     refine OL.bZ (Sub.drop (Sub.refl _)) ?_;have hM1:aV 3 1 (.slice x1.MA x1.cY.length x1.mc) x1.cY.length (ints x1.cY) sgM1:=by rw[hx1,hsg];exact hs71
     have hm1:x1.cY=cP ps ((foldI ps L (p+1)).2++[L[p+1]]) ((foldI ps L (p+1)).2++[L[p+1]]).length:=by rw[hmore,if_neg (by rw[c53];simp),hx1,<- hxm,<- hxl]
     have hl1:x1.lines=xb.lines:=by rw[hx1]
     have hk1:x1.block=true:=by rw[hx1];exact hxk
     have hLa:aV 145 35 (.slice x1.LA x1.lines.length x1.lc) x1.lines.length (lines x1.lines) sgL:=by rw[hx1];exact hbl
     have hxll1:x1.lines.length<=p+1:=by rw[hl1];exact hxll
     have hro1:∀T:SS,Rd w0 ([(ro,.cells (bl (I++[x1])) 147 (co*3))]::T) (some ⟨ro,0,none⟩) (bl (I++[x1])):=fun T=>Rd.own (E:=147) (tot:=co*3) (by simp)
     have hLb2:Rd w0 ([(ro,.cells (bl (I++[x1])) 147 (co*3))]::sgM1::aH::sgl::S) (some b0) (lines L):=br (hrl []) (by simp)
     have hil1:(I++[x1]).length=I.length+1:=by simp
     refine OL.nil (hK6 _ _ (PW.k5 0 3 4 5 6 rfl (PW.seq fun K8 hK8=>?_)))
     refine PW.dy (Ss:=Over ([(ro,.cells (bl (I++[x1])) 147 (co*3))]::sgM1::aH::sgl::S)) (fr:=false) [(0,0),(1,0),(2,0),(3,0),(4,0),(5,0),(6,0),(7,0),(8,0),(9,0),(10,0),(11,0),(12,0),(13,2),(14,2)] mixed (by decide +kernel) ov_mid2 (fun h=>by cases h) ?_
     refine GL.dp rfl ?_;refine GL.dp rfl ?_;refine GL.ak trivial (fun Sx hSx=>Yields.cH rfl rfl (by omega) (by omega)) ?_
     refine GL.dp rfl ?_;refine GL.dp rfl ?_;refine GL.ak trivial (fun Sx hSx=>Yields.cH rfl rfl (by omega) (by omega)) ?_
     refine GL.ak trivial (fun Sx hSx=>Yields.bO (j:=I.length) rfl rfl (by omega) (by omega)) ?_
     refine GL.dp rfl ?_;refine GL.ak trivial (fun Sx hSx=>Yields.ld rfl (item_last ((hro1 _).mono hSx) 0 _ rfl)) ?_
     refine GL.dp rfl ?_;refine GL.dp rfl ?_;refine GL.ak trivial (fun Sx hSx=>Yields.bO (j:=p+1) rfl rfl rfl hkl) ?_
     refine GL.ak trivial (fun Sx hSx=>Yields.aT rfl (aJ _) (dA (hLb2.mono hSx) hkl)) ?_
     refine GL.lo trivial (OW.mono (OW.fl (cs:=bq L[p+1]) (ft rfl rfl)) ?_);rintro _ _ ⟨r87,rfl,rfl⟩;rw[aJ];refine⟨ov_mid2.cons,?_⟩;refine GL.lo trivial (OW.mono (appN (k:=2) (xs:=x1.lines) (l:=[L[p+1]]) rfl rfl hLa rfl rfl rfl (Rd.own (E:=145) (tot:=35) (by simp[lines])) (fun h=>by cases h) (by omega)) ?_)
     rintro v88 _ ⟨sg88,rfl,hs88⟩;obtain⟨A88,c88,rfl,hn88,hc88,hr88⟩:=aF (w0:=w0) hs88;refine⟨ov_mid2.cons,?_⟩;change OL _ _ _ [_,_,_] _ _ _;refine OL.x (Yields.bO (j:=I.length) rfl rfl (by omega) (by omega)) (OL.dp rfl ?_)
     refine OL.c (item_stf (k:=1) (ro:=ro) (i:=I.length) (f:=0) (c:=bl (I++[x1])) (u:=.slice A88 (x1.lines++[L[p+1]]).length c88) rfl rfl rfl rfl (by rw[eR];omega) rfl) ?_
     rintro _ _ rfl;change OL _ _ _ _ _ ([(r87,.cells (bq L[p+1]) 145 35)]::[(ro,.cells (setAt (bl (I++[x1])) (I.length*3+0) [.slice A88 (x1.lines++[L[p+1]]).length c88]) 147 (co*3))]::sg88::sgM1::aH::sgl::S) _;obtain⟨y,hy⟩:∃z:bg,z=⟨A88,c88,x1.lines++[L[p+1]],x1.block,x1.MA,x1.mc,x1.cY⟩:=⟨_,rfl⟩;rw[set_item (x:=x1) (y:=y) (a:=[]) (b:=[.slice x1.LA x1.lines.length x1.lc]) (d:=[.bool x1.block,.slice x1.MA x1.cY.length x1.mc]) (e:=[.slice A88 (x1.lines++[L[p+1]]).length c88]) (k:=I.length*3+0) rfl (by rw[hy];rfl) rfl (by simp)]
     have hyp:y.pl=blockP ps ((foldI ps L (p+1)).2++[L[p+1]]):=by
      rw[hy];unfold bg.pl blockP;rw[<- hm1,hl1,hxl,hk1]
     have hdm:=doc_more (y:=y) hm hkl c18 hop hI hIok hyp (aV.mk' (r:=ro) (cap:=co) (by rw[eR]) (by rw[List.length_append];simp only[List.length_cons,List.length_nil];omega) hc2) (by rw[hy];exact hs88) (by rw[hy];exact hM1)
     refine OL.nil (hK8 _ _ (PW.k4 0 3 4 5 rfl (PW.exit (hK3 _ _ (PW.k4 0 3 4 5 rfl (PW.ops (OL.dp rfl (OL.x (Yields.ao rfl rfl (by omega) (by omega)) (OL.n1 rfl ?_)))))))))
     refine af.dE (Sub.drop (Sub.refl _)) (T'':=[(0,_),(3,_),(4,_),(5,_)]) (wi rfl) ?_;exact⟨L.length-(p+1+1),by omega,p+1+1,_,_,_,_,_,_,_,⟨by omega,rfl,hdm⟩,by simp only[List.length_append,List.length_cons,List.length_nil];rfl,rfl⟩
    try simp only[aD] at c53
    obtain⟨x1,hx1⟩:∃z:bg,z=xb:=⟨_,rfl⟩;obtain⟨sgM1,hsg⟩:∃z,z=sgM:=⟨_,rfl⟩;have hM1:aV 3 1 (.slice x1.MA x1.cY.length x1.mc) x1.cY.length (ints x1.cY) sgM1:=by rw[hx1,hsg];exact hbm
    have hm1:x1.cY=cP ps ((foldI ps L (p+1)).2++[L[p+1]]) ((foldI ps L (p+1)).2++[L[p+1]]).length:=by rw[hmore,if_pos c53,hx1,hxm]
    have hl1:x1.lines=xb.lines:=by rw[hx1]
    have hk1:x1.block=true:=by rw[hx1];exact hxk
    have hLa:aV 145 35 (.slice x1.LA x1.lines.length x1.lc) x1.lines.length (lines x1.lines) sgL:=by rw[hx1];exact hbl
    have hxll1:x1.lines.length<=p+1:=by rw[hl1];exact hxll
    have hro1:∀T:SS,Rd w0 ([(ro,.cells (bl (I++[x1])) 147 (co*3))]::T) (some ⟨ro,0,none⟩) (bl (I++[x1])):=fun T=>Rd.own (E:=147) (tot:=co*3) (by simp)
    have hLb2:Rd w0 ([(ro,.cells (bl (I++[x1])) 147 (co*3))]::sgM1::aH::sgl::S) (some b0) (lines L):=br (hrl []) (by simp)
    have hil1:(I++[x1]).length=I.length+1:=by simp
    change PW _ _ _ _ _ ([(ro,.cells (bl (I++[xb])) 147 (co*3))]::sgL::sgM::aH::sgl::S) _;rw[<- hx1,<- hsg];refine PW.skip (hK6 _ _ (PW.k5 0 3 4 5 6 rfl (PW.seq fun K9 hK9=>?_)))
    refine PW.dy (Ss:=Over ([(ro,.cells (bl (I++[x1])) 147 (co*3))]::sgM1::aH::sgl::S)) (fr:=false) [(0,0),(1,0),(2,0),(3,0),(4,0),(5,0),(6,0),(7,0),(8,0),(9,0),(10,0),(11,0),(12,0),(13,2),(14,2)] mixed (by decide +kernel) ov_mid2 (fun h=>by cases h) ?_
    refine GL.dp rfl ?_;refine GL.dp rfl ?_;refine GL.ak trivial (fun Sx hSx=>Yields.cH rfl rfl (by omega) (by omega)) ?_
    refine GL.dp rfl ?_;refine GL.dp rfl ?_;refine GL.ak trivial (fun Sx hSx=>Yields.cH rfl rfl (by omega) (by omega)) ?_
    refine GL.ak trivial (fun Sx hSx=>Yields.bO (j:=I.length) rfl rfl (by omega) (by omega)) ?_
    refine GL.dp rfl ?_;refine GL.ak trivial (fun Sx hSx=>Yields.ld rfl (item_last ((hro1 _).mono hSx) 0 _ rfl)) ?_
    refine GL.dp rfl ?_;refine GL.dp rfl ?_;refine GL.ak trivial (fun Sx hSx=>Yields.bO (j:=p+1) rfl rfl rfl hkl) ?_
    refine GL.ak trivial (fun Sx hSx=>Yields.aT rfl (aJ _) (dA (hLb2.mono hSx) hkl)) ?_
    refine GL.lo trivial (OW.mono (OW.fl (cs:=bq L[p+1]) (ft rfl rfl)) ?_);rintro _ _ ⟨r87,rfl,rfl⟩;rw[aJ];refine⟨ov_mid2.cons,?_⟩;refine GL.lo trivial (OW.mono (appN (k:=2) (xs:=x1.lines) (l:=[L[p+1]]) rfl rfl hLa rfl rfl rfl (Rd.own (E:=145) (tot:=35) (by simp[lines])) (fun h=>by cases h) (by omega)) ?_)
    rintro v88 _ ⟨sg88,rfl,hs88⟩;obtain⟨A88,c88,rfl,hn88,hc88,hr88⟩:=aF (w0:=w0) hs88;refine⟨ov_mid2.cons,?_⟩;change OL _ _ _ [_,_,_] _ _ _;refine OL.x (Yields.bO (j:=I.length) rfl rfl (by omega) (by omega)) (OL.dp rfl ?_)
    refine OL.c (item_stf (k:=1) (ro:=ro) (i:=I.length) (f:=0) (c:=bl (I++[x1])) (u:=.slice A88 (x1.lines++[L[p+1]]).length c88) rfl rfl rfl rfl (by rw[eR];omega) rfl) ?_
    rintro _ _ rfl;change OL _ _ _ _ _ ([(r87,.cells (bq L[p+1]) 145 35)]::[(ro,.cells (setAt (bl (I++[x1])) (I.length*3+0) [.slice A88 (x1.lines++[L[p+1]]).length c88]) 147 (co*3))]::sg88::sgM1::aH::sgl::S) _;obtain⟨y,hy⟩:∃z:bg,z=⟨A88,c88,x1.lines++[L[p+1]],x1.block,x1.MA,x1.mc,x1.cY⟩:=⟨_,rfl⟩;rw[set_item (x:=x1) (y:=y) (a:=[]) (b:=[.slice x1.LA x1.lines.length x1.lc]) (d:=[.bool x1.block,.slice x1.MA x1.cY.length x1.mc]) (e:=[.slice A88 (x1.lines++[L[p+1]]).length c88]) (k:=I.length*3+0) rfl (by rw[hy];rfl) rfl (by simp)]
    have hyp:y.pl=blockP ps ((foldI ps L (p+1)).2++[L[p+1]]):=by
     rw[hy];unfold bg.pl blockP;rw[<- hm1,hl1,hxl,hk1]
    have hdm:=doc_more (y:=y) hm hkl c18 hop hI hIok hyp (aV.mk' (r:=ro) (cap:=co) (by rw[eR]) (by rw[List.length_append];simp only[List.length_cons,List.length_nil];omega) hc2) (by rw[hy];exact hs88) (by rw[hy];exact hM1)
    refine OL.nil (hK9 _ _ (PW.k4 0 3 4 5 rfl (PW.exit (hK3 _ _ (PW.k4 0 3 4 5 rfl (PW.ops (OL.dp rfl (OL.x (Yields.ao rfl rfl (by omega) (by omega)) (OL.n1 rfl ?_)))))))))
    refine af.dE (Sub.drop (Sub.refl _)) (T'':=[(0,_),(3,_),(4,_),(5,_)]) (wi rfl) ?_;exact⟨L.length-(p+1+1),by omega,p+1+1,_,_,_,_,_,_,_,⟨by omega,rfl,hdm⟩,by simp only[List.length_append,List.length_cons,List.length_nil];rfl,rfl⟩
   skip;have hop:(foldI ps L k).2=[]:=by
    by_cases e:(foldI ps L k).2=[]
    ·exact e
    exfalso;obtain⟨I,x,rfl,_,_,_,_,hx⟩:=hm.openIx e;have hb2:x.block=true:=congrArg aB.block hx
    simp[hb2] at c39
   refine PW.skip (hK5 _ _ (PW.k4 0 3 4 5 rfl (PW.ops (OL.p3 rfl rfl rfl (OL.x (Yields.bO rfl rfl rfl hkl) (OL.x (Yields.aT rfl (aJ _) (dA hLb hkl)) (OL.c (OW.fl (cs:=bq L[k]) (ft rfl rfl)) ?_)))))));rintro _ _ ⟨r96,rfl,rfl⟩;rw[aJ];refine OL.x (Yields.build (cs:=bA ⟨some ⟨r96,0,none⟩,1,[L[k]],true,none,0,[]⟩) rfl) ?_;apply OL.bV (k:=1)
   ·rfl
   ·rfl
   ·rfl
   ·rfl
   ·rfl
   ·rfl
   ·exact hm.out
   ·rfl
   ·omega
   ·unfold maxLen;omega
   intro v99 seg99 hs99;obtain⟨A99,c99,rfl,_,_,_⟩:=aF (w0:=w0) hs99;have hdm:=doc_new hm hkl c18 hop hs99
   refine OL.n1 rfl (hK3 _ _ (PW.k4 0 3 4 5 rfl (PW.ops (OL.dp rfl (OL.x (Yields.ao rfl rfl (by omega) (by omega)) (OL.n1 rfl ?_))))))
   refine af.dE (sub_c) (T'':=[(0,_),(3,_),(4,_),(5,_)]) (wi rfl) ?_;exact⟨L.length-(k+1),by omega,k+1,_,_,_,_,_,_,_,⟨by omega,rfl,hdm⟩,by simp only[List.length_append,List.length_cons,List.length_nil];rfl,rfl⟩
  try simp only[aD] at g32
  have hop:(foldI ps L k).2=[]:=by
   by_cases e:(foldI ps L k).2=[]
   ·exact e
   exfalso;obtain⟨I,x,rfl,_⟩:=hm.openIx e;simp at g32
  refine OL.off rfl rfl (OL.off rfl rfl (OL.off rfl rfl (OL.off rfl rfl (OL.off rfl rfl (OL.off rfl rfl (OL.n1 rfl (PW.k6 0 3 4 5 6 39 rfl (PW.ite (b:=false) rfl ?_))))))));rw[if_neg Bool.false_ne_true];refine PW.skip (hK5 _ _ (PW.k4 0 3 4 5 rfl (PW.ops (OL.p3 rfl rfl rfl (OL.x (Yields.bO rfl rfl rfl hkl) (OL.x (Yields.aT rfl (aJ _) (dA hLb hkl)) (OL.c (OW.fl (cs:=bq L[k]) (ft rfl rfl)) ?_)))))));rintro _ _ ⟨r96,rfl,rfl⟩;rw[aJ];refine OL.x (Yields.build (cs:=bA ⟨some ⟨r96,0,none⟩,1,[L[k]],true,none,0,[]⟩) rfl) ?_;apply OL.bV (k:=1)
  ·rfl
  ·rfl
  ·rfl
  ·rfl
  ·rfl
  ·rfl
  ·exact hm.out
  ·rfl
  ·omega
  ·unfold maxLen;omega
  intro v99 seg99 hs99;obtain⟨A99,c99,rfl,_,_,_⟩:=aF (w0:=w0) hs99;have hdm:=doc_new hm hkl c18 hop hs99
  refine OL.n1 rfl (hK3 _ _ (PW.k4 0 3 4 5 rfl (PW.ops (OL.dp rfl (OL.x (Yields.ao rfl rfl (by omega) (by omega)) (OL.n1 rfl ?_))))))
  refine af.dE (sub_c) (T'':=[(0,_),(3,_),(4,_),(5,_)]) (wi rfl) ?_;exact⟨L.length-(k+1),by omega,k+1,_,_,_,_,_,_,_,⟨by omega,rfl,hdm⟩,by simp only[List.length_append,List.length_cons,List.length_nil];rfl,rfl⟩
 try simp only[aD] at c12
 refine PW.exit (hK1 _ _ (PW.k1 4 rfl (PW.s2 rfl rfl (PW.k1 2 rfl ?_))));refine PW.ret (zR rfl ?_);have hke:k=L.length:=by omega
 subst hke;exact⟨_,sub_fin,aC,sgo,sgL++(sgM++aH),rfl,(by rw[hm.map,hL];rfl),hm.out,hm.allOk (Nat.le_refl _) (Nat.le_trans ((St.fold hsq hrow L.length (Nat.le_refl _)).opLen (Nat.le_refl _)) hlb),by have:=hm.len;omega⟩
end Go.Proofs.Gr

namespace Go.SL
open Go.RowKit
theorem grow_of {w w':World}(h:Below w.heap.size w w') (hd:w.drawn<=w'.drawn):∃q os',w'=Go.Sort.grow (w.drewN q) os':=by
 refine⟨w'.drawn-w.drawn,w'.heap.extract w.heap.size w'.heap.size,?_⟩;have e:w'.heap=w.heap++w'.heap.extract w.heap.size w'.heap.size:=by
  apply Array.ext_getElem?;intro i;rw[Array.getElem?_append];split
  ·rename_i hi;exact h.block i hi
  rename_i hi;rw[Array.getElem?_extract];have:=h.size
  split
  ·congr 1;omega
  rw[Array.getElem?_eq_none (by omega)]
 obtain⟨heap,tape,drawn,os,output⟩:=w;obtain⟨heap',tape',drawn',os',output'⟩:=w';obtain⟨h1,h2,h3,h4,h5⟩:=h;simp only at *;subst h1 h2 h3;simp only[Go.Sort.grow,World.drewN,World.mk.injEq,true_and,and_true];exact⟨e,by omega⟩
section
variable {α:Type}[Inhabited α]
theorem fm {enc:α->List Value}{k:Nat}(hk:∀x,(enc x).length=k):∀(l:List α) (t:Nat),t<l.length*k->(l.flatMap enc)[t]? = (enc l[t / k]!)[t % k]?
 |[],t,h=>by simp at h
 |x::l,t,h=>by
  have h':t<l.length*k+k:=by simpa[Nat.add_mul] using h
  have k0:0<k:=by exact Nat.pos_of_ne_zero fun e=>by subst e;simp at h
  rw[List.flatMap_cons];rcases Nat.lt_or_ge t k with a|a
  ·rw[List.getElem?_append_left (by rw[hk];exact a),Nat.div_eq_of_lt a,Nat.mod_eq_of_lt a];simp
  obtain⟨u,rfl⟩:∃u,t=u+k:=⟨t-k,by omega⟩
  rw[List.getElem?_append_right (by rw[hk];omega),hk,Nat.add_sub_cancel,fm hk l u (by omega),Nat.add_div_right _ k0,Nat.add_mod_right]
  simp
theorem flatK_list {enc:α->List Value}{k:Nat}(hk:∀x,(enc x).length=k) (d:Array α):(Go.Sort.flatK enc k d).toList=d.toList.flatMap enc:=by
 apply List.ext_getElem?;intro t;by_cases ht:t<d.size*k
 ·have k0:0<k:=by exact Nat.pos_of_ne_zero fun e=>by subst e;simp at ht
  rw[fm hk _ _ (by simpa using ht)]
  have h1:=Go.Sort.get_flatK enc k d t ht
  have hs:t<(Go.Sort.flatK enc k d).size:=by simpa using ht
  have hm:t % k<(enc d[t / k]!).length:=by rw[hk];exact Nat.mod_lt _ k0
  rw[getElem!_pos (Go.Sort.flatK enc k d) t hs,getElem!_pos (enc d[t / k]!) (t % k) hm] at h1;have e2:d.toList[t / k]! = d[t / k]!:=by
   have:t / k<d.size:=Nat.div_lt_of_lt_mul (by rwa [Nat.mul_comm] at ht)
   rw[getElem!_pos d.toList _ (by simpa using this),getElem!_pos d _ this];simp
  rw[e2,List.getElem?_eq_getElem hm,<- h1];simp[hs]
 rw[List.getElem?_eq_none (by simp;omega),List.getElem?_eq_none]
 rw[List.length_flatMap,show(List.map (fun a=>(enc a).length) d.toList)=List.replicate d.size k from by simp only[hk];rw[List.map_const'];simp]
 simp;omega
theorem df.sorted {w0 w:World}{S:SS}{k E sz blk cap n:Nat}{os:Array Obj}{enc:α->List Value}(hk:∀x,(enc x).length=sz) {d d':Array α}(h:df w0 S w) (hs:S[k]? = some [(blk,.cells (d.toList.flatMap enc) E (cap*sz))]) (hd:d'.size=d.size)
  (hc:d.size<=cap):df w0 (S.set k [(blk,.cells (d'.toList.flatMap enc) E (cap*sz))]) (Go.Proofs.sortWorldK enc sz w blk 0 n d' os):=by
 obtain⟨hge,C,hC,htot,hpre⟩:=h.own (blk,.cells (d.toList.flatMap enc) E (cap*sz)) (List.mem_flatten.2 ⟨_,List.mem_of_getElem? hs,by simp⟩)
 have hlt:blk<w.heap.size:=h.lt (List.mem_flatten.2 ⟨_,List.mem_of_getElem? hs,List.mem_singleton.2 rfl⟩)
 have hheap:∀i,i<w.heap.size->i≠blk->(Go.Proofs.sortWorldK enc sz w blk 0 n d' os).heap[i]? = w.heap[i]?:=by
  intro i hi hne
  show(w.heap.modify blk _++os)[i]? = _
  rw[Array.getElem?_append,if_pos (by simpa using hi),Array.getElem?_modify,if_neg (Ne.symm hne)]
 have hnew:(Go.Proofs.sortWorldK enc sz w blk 0 n d' os).heap[blk]? = some (.cells (Go.Sort.putCells id 0 (Go.Sort.flatK enc sz d') C) E (0,0)):=by
  show(w.heap.modify blk _++os)[blk]? = _
  rw[Array.getElem?_append,if_pos (by simpa using hlt),Array.getElem?_modify,if_pos rfl,hC]
  rfl
 refine h.replace hs ?_ (fun i hi hne=>hheap i hi (by simpa using hne)) (by simp) ?_ (Nat.le_add_right _ _)
 ·refine⟨rfl,rfl,rfl,?_,fun i hi=>hheap i (by omega) (by omega)⟩
  show _<=(w.heap.modify blk _++os).size
  simp
 intro p hp;simp only[List.mem_singleton] at hp;subst hp;refine⟨hge,⟨_,hnew,?_,?_⟩,.inl (by simp)⟩
 ·rw[<- htot];simp[Go.Sort.putCells]
 have hsz:(d'.toList.flatMap enc).length=d.size*sz:=by
  rw[<- flatK_list hk,Array.length_toList,Go.Sort.size_flatK,hd]
 have hcs:d.size*sz<=C.size:=by rw[htot];exact Nat.mul_le_mul_right _ hc
 rw[hsz,<- flatK_list hk];apply List.ext_getElem?;intro t;rw[List.getElem?_take];split
 ·rename_i ht;have hF:t<(Go.Sort.flatK enc sz d').size:=by simpa[hd] using ht
  have hF':t<d'.size*sz:=by simpa using hF
  rw[Array.getElem?_toList,Array.getElem?_toList];simp only[Go.Sort.putCells,Array.getElem?_mapIdx];rw[Array.getElem?_eq_getElem (by omega:t<C.size),Array.getElem?_eq_getElem hF]
  simp[getElem!_pos (Go.Sort.flatK enc sz d') t hF,hF']
 rename_i ht;rw[List.getElem?_eq_none (by simp[hd];omega)]
end
end Go.SL

namespace Go.Proofs
open Go.Shelf Go.RowKit Go.Lib Go.Sort
def Tryz.sortL_ren:Go.Shelf.Ren:=⟨fun|6=>71|15=>101|14=>100|28=>122|29=>123|20=>114|21=>115|22=>116|23=>117|24=>118|25=>119|26=>120|27=>121|46=>128|47=>129|48=>130|49=>131|50=>132|57=>133|n=>n,fun|22=>44|24=>27|25=>141|3=>3|39=>178|0=>0|53=>205|55=>41|4=>4|46=>199|45=>198|50=>196|5=>5|9=>9|66=>210|70=>214|76=>216|77=>217|n=>n,fun|n=>n⟩
theorem Tryz.eX:Go.Proofs.SlLaysF0.n6 Tryz.prog Tryz.sortL_ren:={
 mixed:=by kernel_rfl
 f6:=⟨Tryz.f71.name,by decide,Tryz.func71.trans (congrArg some (by kernel_rfl))⟩
 f14:=⟨Tryz.f100.name,by decide,Tryz.func100.trans (congrArg some (by kernel_rfl))⟩
 f15:=Tryz.func101.trans (congrArg some (by kernel_rfl))
 f20:=⟨Tryz.f114.name,by decide,Tryz.func114.trans (congrArg some (by kernel_rfl))⟩
 f21:=⟨Tryz.f115.name,by decide,Tryz.func115.trans (congrArg some (by kernel_rfl))⟩
 f22:=⟨Tryz.f116.name,by decide,Tryz.func116.trans (congrArg some (by kernel_rfl))⟩
 f23:=⟨Tryz.f117.name,by decide,Tryz.func117.trans (congrArg some (by kernel_rfl))⟩
 f24:=⟨Tryz.f118.name,by decide,Tryz.func118.trans (congrArg some (by kernel_rfl))⟩
 f25:=⟨Tryz.f119.name,by decide,Tryz.func119.trans (congrArg some (by kernel_rfl))⟩
 f26:=⟨Tryz.f120.name,by decide,Tryz.func120.trans (congrArg some (by kernel_rfl))⟩
 f27:=⟨Tryz.f121.name,by decide,Tryz.func121.trans (congrArg some (by kernel_rfl))⟩
 f28:=Tryz.func122.trans (congrArg some (by kernel_rfl))
 f29:=Tryz.func123.trans (congrArg some (by kernel_rfl))
 f46:=⟨Tryz.f128.name,by decide,Tryz.func128.trans (congrArg some (by kernel_rfl))⟩
 f47:=Tryz.func129.trans (congrArg some (by kernel_rfl))
 f48:=Tryz.func130.trans (congrArg some (by kernel_rfl))
 f49:=⟨Tryz.f131.name,by decide,Tryz.func131.trans (congrArg some (by kernel_rfl))⟩
 f50:=⟨Tryz.f132.name,by decide,Tryz.func132.trans (congrArg some (by kernel_rfl))⟩
 f57:=⟨Tryz.f133.name,by decide,Tryz.func133.trans (congrArg some (by kernel_rfl))⟩
 t0:=Tryz.underlying0
 a0:=Tryz.isAgg0
 z0:=Tryz.sizeOf0
 v0:=Tryz.zeroValue0
 t3:=Tryz.underlying3
 a3:=Tryz.isAgg3
 z3:=Tryz.sizeOf3
 v3:=Tryz.zeroValue3
 t4:=Tryz.underlying4
 a4:=Tryz.isAgg4
 z4:=Tryz.sizeOf4
 v4:=Tryz.zeroValue4
 t5:=Tryz.underlying5
 a5:=Tryz.isAgg5
 z5:=Tryz.sizeOf5
 v5:=Tryz.zeroValue5
 t9:=Tryz.underlying9
 a9:=Tryz.isAgg9
 z9:=Tryz.sizeOf9
 v9:=Tryz.zeroValue9
 t22:=Tryz.underlying44
 a22:=Tryz.isAgg44
 z22:=Tryz.sizeOf44
 v22:=Tryz.zeroValue44
 t25:=Tryz.underlying141
 a25:=Tryz.isAgg141
 z25:=Tryz.sizeOf141
 v25:=Tryz.zeroValue141
 t39:=Tryz.underlying178
 a39:=Tryz.isAgg178
 z39:=Tryz.sizeOf178
 v39:=Tryz.zeroValue178
 t45:=Tryz.underlying198
 a45:=Tryz.isAgg198
 z45:=Tryz.sizeOf198
 v45:=Tryz.zeroValue198
 t46:=Tryz.underlying199
 a46:=Tryz.isAgg199
 z46:=Tryz.sizeOf199
 v46:=Tryz.zeroValue199
 t50:=Tryz.underlying196
 a50:=Tryz.isAgg196
 z50:=Tryz.sizeOf196
 v50:=Tryz.zeroValue196
 t53:=Tryz.underlying205
 a53:=Tryz.isAgg205
 z53:=Tryz.sizeOf205
 v53:=Tryz.zeroValue205
 t55:=Tryz.underlying41
 a55:=Tryz.isAgg41
 z55:=Tryz.sizeOf41
 v55:=Tryz.zeroValue41
 t66:=Tryz.underlying210
 a66:=Tryz.isAgg210
 z66:=Tryz.sizeOf210
 v66:=Tryz.zeroValue210
 t70:=Tryz.underlying214
 a70:=Tryz.isAgg214
 z70:=Tryz.sizeOf214
 v70:=Tryz.zeroValue214
 t76:=Tryz.underlying216
 a76:=Tryz.isAgg216
 z76:=Tryz.sizeOf216
 v76:=Tryz.zeroValue216
 t77:=Tryz.underlying217
 a77:=Tryz.isAgg217
 z77:=Tryz.sizeOf217
 v77:=Tryz.zeroValue217 }
end Go.Proofs
namespace Go.Proofs.Gr
open Go.SL Go.RowKit Go.Sort Go.Proofs Go.GP
def eX (l:List ay):List ay:=l.mergeSort fun x y=>!(ltOf ordV) y x
theorem ordV_swo:SWO (ltOf ordV) where
 irrefl x:=by
  show cy x x=false
  cases e:cy x x with
  |false=>rfl
  |true=>have:=dN.asymm x x e;rw[e] at this;cases this
 trans x y z h1 h2:=by
  show cy x z=true
  cases e:cy x z with
  |true=>rfl
  |false=>have:=dN.trans z x y e (dN.asymm x y h1);rw[show cy y z=true from h2] at this;cases this
 ntrans x y z h1 h2:=dN.trans z y x h2 h1
theorem ordV_tot (x y:ay) (h1:ltOf ordV x y=false) (h2:ltOf ordV y x=false):x=y:=ltV_tot x y h1 h2
theorem order_lays (blk off size:Nat) (w:World):CmpLays Tryz.prog 72 #[] au 33 ordV blk off size w:=by
 intro m os dk hs x y;refine(order_fc (a:=x) (b:=y) (S:=[]) _ (df.start _)).mono ?_;rintro e w' ⟨u,S',rfl,hr,rfl,rfl⟩;refine⟨rfl,grow_of hr.below (hr.drawn.resolve_left ?_)⟩;unfold Loose;exact id
set_option maxRecDepth 100000 in
theorem sort_fc {w0:World}{S:SS}{k:Nat}{v:Value}{seg:bD}{l:List ay}(hs:S[k]? = some seg) (hv:aV 27 33 v l.length (l.flatMap au) seg) (hm:l.length<4611686018427387904) :
  FC Tryz.prog w0 71 [v,.func (.func 72) #[] #[]] S (fun u S'=>u=.tuple #[]/\∃seg',aV 27 33 v l.length ((eX l).flatMap au) seg'/\S'=S.set k seg'):=by
 intro w hr;obtain⟨hl,⟨rfl,h0,rfl⟩|⟨r,cap,rfl,rfl,h1,h2⟩⟩:=hv
 ·obtain rfl:l=[]:=List.length_eq_zero_iff.1 h0;refine(AnyF.slices_SortFunc_none Tryz.eX none 0 _ w).mono ?_;rintro e w' ⟨rfl,rfl⟩;have e0:eX [] = []:=by simp[eX]
  rw[e0];refine⟨_,S,rfl,hr,rfl,[],aV.nil 27 33,?_⟩;apply List.ext_getElem?;intro i;rw[List.getElem?_set];split
  ·rename_i h;subst h;rw[hs];split
   ·rfl
   rename_i h;rw[List.getElem?_eq_none (by omega)] at hs;cases hs
  rfl
 have hlt:r<w.heap.size:=hr.lt (List.mem_flatten.2 ⟨_,List.mem_of_getElem? hs,List.mem_singleton.2 rfl⟩)
 obtain⟨hge,C,hC,htot,hpre⟩:=hr.own (r,.cells (l.flatMap au) 27 (cap*33)) (List.mem_flatten.2 ⟨_,List.mem_of_getElem? hs,by simp⟩)
 have hH:HoldsK au 33 w r 0 l.toArray:=by
  intro j hj;have hj':j<l.length*33:=by simpa using hj
  have e1:(flatK au 33 l.toArray)[j]? = C[j]?:=by
   have:=congrArg (·[j]?) hpre
   simp only[List.getElem?_take,Array.getElem?_toList] at this;rw[if_pos (by rw[hl];exact hj')] at this
   rw[this,<- Array.getElem?_toList,flatK_list aa]
  rw[Array.getElem?_eq_getElem hj] at e1;constructor
  ·simp only[World.cell?,hC,Nat.zero_add];rw[getElem!_pos _ j hj];exact e1.symm
  simp[World.frozen?,hC]
 have hcon:=AnyQ.slices_SortFunc_total Tryz.eX 33 Tryz.isAgg27 Tryz.sizeOf27 au aa (fun x v hv=>List.all_eq_true.1 (bL x) v hv) ordV ordV_swo 72 #[] r 0 cap l.toArray w
  (enters_of Tryz.func72 (by kernel_rfl) rfl) (order_lays r 0 _ w) hH hlt (by simpa using hm) ordV_tot
 rw[List.size_toArray] at hcon;refine hcon.mono ?_;rintro e w' ⟨rfl,n,os,rfl⟩;have hlen:(eX l).length=l.length:=by simp[eX]
 refine⟨_,_,rfl,hr.sorted (d:=l.toArray) (d':=(eX l).toArray) aa (by simpa using hs) (by simp[hlen]) (by simpa using h1),rfl,[(r,.cells ((eX l).flatMap au) 27 (cap*33))],?_,by simp⟩
 have:=aV.mk' (E:=27) (r:=r) (xs:=(eX l).flatMap au) (sz:=33) (m:=l.length) (cap:=cap) (by rw[List.length_flatMap];simp[aa,List.map_const',hlen]) h1 h2
 exact this
end Go.Proofs.Gr




