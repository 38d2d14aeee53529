/- Walks. -/
import Derived.Test.YtbejcoeajlhmcaaGreatPart6
set_option linter.unusedVariables false
set_option linter.unusedSimpArgs false
set_option linter.unusedSectionVars false

namespace Go.Proofs.Gr
open Go.SL Go.RowKit Go.Proofs Go.GP Go.Proofs.Tryz
set_option maxHeartbeats 1000000
open Go.MyPlain
def eA (x:bX):Sec:=⟨x.fr,x.to,x.lines⟩
theorem secsT_free {n fr:Nat}{I:List aB}{s:ByteArray}{w cur:List ByteArray}(h:recAt I fr (s::w)=none):di n (dq I fr (s::w)) fr cur=di n (dq I fr w) fr (cur++[s]):=by
 rw[toks_free h];rfl
theorem secsT_blk {n fr k:Nat}{I:List aB}{w cur:List ByteArray}(hw:0<w.length) (h:recAt I fr w=some k):di n (dq I fr w) fr cur=⟨fr,k,cur⟩::di n (dq I (k+1) (w.drop (dT I[k]!).length)) (k+1) []:=by
 rw[toks_blk hw h];rfl
theorem keepT_free {fr:Nat}{K:List Bool}{I:List aB}{s:ByteArray}{w:List ByteArray}(h:recAt I fr (s::w)=none):fC K (dq I fr (s::w))=fC K (dq I fr w):=by
 rw[toks_free h];rfl
theorem keepT_blk {fr k:Nat}{K:List Bool}{I:List aB}{w:List ByteArray}(hw:0<w.length) (h:recAt I fr w=some k):fC K (dq I fr w)=fC (K.set k true) (dq I (k+1) (w.drop (dT I[k]!).length)):=by
 rw[toks_blk hw h];rfl
theorem strs_drop (l:List ByteArray) (i:Nat):strs (l.drop i)=(strs l).drop i:=by unfold strs;rw[List.map_drop]
theorem cutW {A:Option Addr}{cap i:Nat}{l:List ByteArray}(hi:i<=l.length) (hl:l.length<=cap) :
  ∃A' c',cutV A cap 1 i l.length=.slice A' (l.drop i).length c'/\(l.drop i).length<=c'/\∀(w0:World) (S:SS),Rd w0 S A (strs l)->Rd w0 S A' (strs (l.drop i)):=by
 have hlen:(l.drop i).length=l.length-i:=List.length_drop
 unfold cutV;rw[<- hlen];refine⟨_,_,rfl,by omega,fun w0 S h=>?_⟩
 split
 ·have:l.drop i=[]:=List.eq_nil_of_length_eq_zero (by omega)
  rw[this];exact Rd.nil
 intro q v hq;rw[strs_drop,List.getElem?_drop] at hq;obtain⟨a,rfl,hc⟩:=h _ _ hq;exact⟨a.add (i*1),rfl,by rw[aZ,Nat.mul_one];exact hc⟩
theorem sec_st {w0:World}{S:SS}{P:Program}{n r:Nat}{T:TT}{x v:PV}{s:Sec}{A:Option Addr}{c:Nat}{z:List Value}(hx:x.val T=some (.pointer (some ⟨r,0,none⟩))) (hv:v.val T=some (secV s A c)) (hz:z.length=3) :
  OW P w0 n (.st 3 x v) T ([(r,.cells z 81 3)]::S) (fun _ S'=>S'=sseg r s A c::S):=by
 refine(OW.st (k:=0) (c:=z) (u:=secV s A c) hx hv rfl (show(secV s A c).cells.size=3 from rfl) (by omega) rfl).mono ?_
 rintro _ _ rfl;rw[show(secV s A c).cells.toList=secC s A c from rfl,eP (by rw[hz];rfl)]
 rfl
theorem optI_neg {o:Option Nat}(h:optI o<0):o=none:=by
 cases o with
 |none=>rfl
 |some k=>exact absurd h (show ¬((k:Int)<0) by omega)
theorem optI_pos {o:Option Nat}(h:¬optI o<0):∃k,o=some k:=by
 cases o with
 |none=>exact absurd (show(-1:Int)<0 by decide) h
 |some k=>exact⟨k,rfl⟩
theorem cons_of_pos {α:Type}:∀{l:List α}(h:0<l.length),l=l[0]::l.drop 1
 |[],h=>by cases h
 |_::_,_=>rfl
theorem sections_fc {w0:World}{S:SS}{c:ChM}{K:List Bool}{W:Option Addr}{cw:Nat}{w:List ByteArray}(h:ChOK w0 S c) (hC:Over [cseg c] S) (hk:K.length=c.aC.length) (hw:Rd w0 S W (strs w)) (hwc:w.length<=cw) (hwl:w.length<=100000) :
  FC prog w0 27 [c.ptr,.slice W w.length cw] (eg c K::S) (fun v S'=>∃l sg aH,S'=sg::aH::eg c (fC K (dq c.I 0 w))::S/\aV 81 3 v l.length (cZ l) sg/\(∀x∈l,RunOk w0 aH x)/\l.map eA=secs c.I w/\l.length<=100001):=by
 have hn:=h.n
 have hIl:=c.I_len
 have htn:=h.tlen
 refine FC.ofD known27 (by simp) ?_
 unfold pc27;simp only[bo];refine PW.s1 rfl (PW.k3 0 1 4 rfl (PW.ae (OL.bZ (S':=[]::[]::[]::eg c K::S) (Sub.cL (Sub.cL (Sub.cL (Sub.refl _)))) (OL.x (Yields.build (cs:=secC ⟨0,0,[]⟩ none 0) rfl) (OL.c OW.al ?_)))));rintro _ _ ⟨r5,rfl,rfl⟩;refine OL.c (sec_st (s:=⟨0,0,[]⟩) (A:=none) (c:=0) rfl rfl rfl) ?_;rintro _ _ rfl;refine OL.nil (PW.k4 0 1 4 5 rfl (PW.seq fun K1 hK1=>PW.block (PW.k4 0 1 4 5 rfl ?_)))
 refine PW.aR (I:=fun m T S'=>∃(w1:List ByteArray) (W1:Option Addr) (cw1 fr:Nat) (cur:List ByteArray) (A:Option Addr) (cc:Nat) (l:List bX) (v:Value) (sl sg aH:bD) (K1:List Bool),(m=w1.length/\Rd w0 S W1 (strs w1)/\w1.length<=cw1/\fr<=c.aC.length/\aV 9 1 (.slice A cur.length cc) cur.length (strs cur) sl/\aV 81 3 v l.length (cZ l) sg/\(∀x∈l,RunOk w0 aH x)/\secs c.I w=l.map eA++di c.I.length (dq c.I fr w1) fr cur/\fC K (dq c.I 0 w)=fC K1 (dq c.I fr w1)/\K1.length=c.aC.length/\l.length+w1.length<=100000/\cur.length+w1.length<=100000)/\T=([(0,c.ptr),(1,.slice W1 w1.length cw1),(4,v),(5,.pointer (some ⟨r5,0,none⟩))]:TT)/\S'=sseg r5 ⟨fr,0,cur⟩ A cc::sl::sg::aH::eg c K1::S) (m:=w.length) ⟨w,W,cw,0,[],none,0,[],_,[],[],[],K,⟨rfl,hw,hwc,by omega,aV.nil 9 1,aV.nil 81 3,(by simp),rfl,rfl,hk,by simp;omega,by simp;omega⟩,rfl,rfl⟩ ?_
 rintro m _ _ ⟨w1,W1,cw1,fr,cur,A,cc,l,v,sl,sg,aH,K1,⟨hm,hw1,hwc1,hfr,hsl,hsg,hrows,hsec,hkp,hKn,hll,hcl⟩,rfl,rfl⟩;refine PW.seq fun K2 hK2=>PW.s3 rfl rfl rfl (PW.k5 0 1 4 5 10 rfl ?_)
 refine PW.cond rfl (fun c10=>?_) (fun c10=>?_)
 ·try simp only[aD] at c10
  have hpos:0<w1.length:=by omega
  obtain⟨aW,rfl⟩:=dg hw1 hpos;refine PW.skip (hK2 _ _ (PW.k4 0 1 4 5 rfl (PW.block (PW.ae (OL.p2 rfl rfl (OL.x (Yields.ld rfl (az (j:=0) (c:=secC ⟨fr,0,cur⟩ A cc) (E:=81) (tot:=3) bF rfl)) (OL.dp rfl ?_)))))));refine OL.q rfl (block_fc2 (h.mono (Over.refl _).cons.cons.cons.cons.cons) (fun q hq=>(hC.cons.cons.cons.cons.cons) q hq) (hw1.mono (Over.refl _).cons.cons.cons.cons.cons) hwc1 (by omega) hfr) ?_
  refine OL.n1 rfl (PW.k5 0 1 4 5 6 rfl (PW.seq fun K3 hK3=>PW.s2 rfl rfl (PW.k6 0 1 4 5 6 17 rfl ?_)))
  refine PW.cond rfl (fun c17=>?_) (fun c17=>?_)
  ·try simp only[aD] at c17
   have hrec:=optI_neg c17
   refine PW.seq fun K4 hK4=>?_
   refine PW.dy (Ss:=Over (sseg r5 ⟨fr,0,cur⟩ A cc::sl::sg::aH::eg c K1::S)) (fr:=false) [(0,0),(1,0),(2,0),(3,0),(4,0),(5,2)] mixed (by decide +kernel) (Over.refl _) (fun h=>by cases h) ?_
   refine GL.dp rfl ?_;refine GL.ak trivial (fun Sx hSx=>Yields.ld rfl (az (j:=2) (c:=secC ⟨fr,0,cur⟩ A cc) (E:=81) (tot:=3) (hSx _ bF) rfl)) ?_
   refine GL.dp rfl ?_;refine GL.ak trivial (fun Sx hSx=>Yields.dY (j:=0) rfl rfl rfl hpos) ?_
   refine GL.ak trivial (fun Sx hSx=>Yields.ld rfl (dD (hw1.mono fun q hq=>hSx q ((Over.refl S).cons.cons.cons.cons.cons q hq)) hpos)) ?_
   refine GL.lo trivial (OW.mono (K:=fun u S'=>∃r,u=.slice (some ⟨r,0,none⟩) 1 1/\S'=[(r,.cells [.string w1[0]] 9 1)]::sseg r5 ⟨fr,0,cur⟩ A cc::sl::sg::aH::eg c K1::S) (OW.fl rfl) fun v S2 hk=>⟨(fun u S' ⟨r,_,h⟩=>by rw[h];exact(Over.refl _).cons) v S2 hk,?_⟩)
   revert v S2
   rintro _ _ ⟨r23,rfl,rfl⟩;change OL _ _ _ [_,_,_] _ _ _;refine OL.c (OW.app (k:=2) rfl rfl hsl rfl (news:=[.string w1[0]]) rfl (fun j u hj=>(Rd.own (xs:=[.string w1[0]]) (E:=9) (tot:=1) bF).at hj) rfl (by omega) (by unfold maxLen;omega)) ?_
   rintro v24 _ ⟨seg24,rfl,hsl24⟩;have h24:aV 9 1 v24 (cur++[w1[0]]).length (strs (cur++[w1[0]])) seg24:=by simpa[strs] using hsl24
   obtain⟨A3,c3,rfl,-,-,-⟩:=aF (w0:=w0) h24;refine OL.dp rfl (OL.c (OW.st (k:=1) rfl rfl rfl rfl (Nat.le_refl 3) rfl) ?_);rintro _ _ rfl;refine OL.nil (hK4 _ _ (PW.k4 0 1 4 5 rfl (PW.ae (OL.dp rfl ?_))));obtain⟨W2,cw2,hcut,hc2,hr2⟩:=cutW (A:=some aW) (i:=1) (l:=w1) hpos hwc1;refine OL.x (Yields.to (v':=.slice W2 (w1.drop 1).length cw2) (Yields.slS (l:=1) (h:=w1.length) rfl rfl rfl (.inl rfl) (.inr ⟨rfl,rfl⟩) hpos hwc1) hcut) (OL.n1 rfl (PW.k4 0 1 4 5 rfl (PW.exit ?_)));refine af.dE (Sub.drop (Sub.refl _)) (T'':=[(0,_),(1,_),(4,_),(5,_)]) (wi rfl) ?_;have hc0:=cons_of_pos hpos
   have e1:=secsT_free (n:=c.I.length) (cur:=cur) (by rw[<- hc0];exact hrec)
   have e2:=keepT_free (K:=K1) (by rw[<- hc0];exact hrec)
   rw[<- hc0] at e1 e2;have hdl:(w1.drop 1).length=w1.length-1:=List.length_drop
   exact⟨(w1.drop 1).length,by omega,w1.drop 1,W2,cw2,fr,cur++[w1[0]],A3,c3,l,v,seg24,sg,aH,K1,⟨rfl,hr2 w0 S hw1,hc2,hfr,h24,hsg,hrows,by rw[hsec,e1],by rw[hkp,e2],hKn,by omega,by rw[List.length_append,List.length_singleton];omega⟩,rfl,rfl⟩
  try simp only[aD] at c17
  obtain⟨kb,hrec⟩:=optI_pos c17;rw[hrec];obtain⟨hk1,hk2,hk3,hk4⟩:=eI hrec;have hkn:kb<c.aC.length:=by omega
  have hkt:kb<c.tm.length:=by omega
  have htg:(c.tm[kb]'hkt).l=dT c.I[kb]!:=by rw[h.tget hkn,getElem!_pos c.I kb hk2]
  have hle:(c.tm[kb]'hkt).l.length<=w1.length:=by
   rw[htg];unfold begT at hk4;simp only[Bool.and_eq_true,decide_eq_true_eq] at hk4;exact hk4.1
  obtain⟨b0,hb0⟩:=tolds_some h.told (show 0<c.tm.length by omega)
  have ht2:=h.told
  rw[hb0] at ht2;refine PW.skip (hK3 _ _ (PW.k5 0 1 4 5 6 rfl (PW.ae (OL.p2 rfl rfl (OL.c (OW.st (k:=0) rfl rfl rfl rfl (Nat.le_succ 2) rfl) ?_)))));rintro _ _ rfl;refine OL.nil (PW.k5 0 1 4 5 6 rfl (PW.ae ?_));change OL _ _ _ _ _ (sseg r5 ⟨fr,kb,cur⟩ A cc::sl::sg::aH::eg c K1::S) _;refine OL.dp rfl (OL.x (Yields.aT rfl rfl (av (c:=secC ⟨fr,kb,cur⟩ A cc) (E:=81) (tot:=3) bF)) ?_);apply OL.bV (k:=2)
  ·rfl
  ·rfl
  ·rfl
  ·rfl
  ·rfl
  ·rfl
  ·exact hsg
  ·rfl
  ·omega
  ·unfold maxLen;omega
  intro v33 sg2 hsg20;have hsg2:aV 81 3 v33 (l++[(⟨fr,kb,A,cc,cur⟩:bX)]).length (cZ (l++[(⟨fr,kb,A,cc,cur⟩:bX)])) sg2:=by rw[ev,List.length_append];exact hsg20
  refine OL.n1 rfl (PW.k5 0 1 4 5 6 rfl (PW.ae (OL.dp rfl (OL.x (Yields.cF rfl) (OL.dp rfl (OL.x (Yields.ld rfl (az (j:=2) (c:=c.cells) (E:=71) (tot:=3) (hC.cons.cons.cons.cons.cons _ (List.mem_flatten.2 ⟨_,List.mem_singleton.2 rfl,List.mem_singleton.2 rfl⟩)) rfl)) (OL.dp rfl ?_)))))));refine OL.x (Yields.to (v':=.pointer (some ⟨c.rk,kb,none⟩)) (Yields.dY rfl rfl rfl hkn) (by simp[Addr.add,eq_comm])) ?_
  refine OL.c (OW.st (k:=4) rfl rfl rfl rfl (by rw[List.length_map];omega) rfl) ?_
  rintro _ _ rfl;refine OL.nil (PW.k5 0 1 4 5 6 rfl (PW.ae (OL.p2 rfl rfl (OL.x (Yields.cF rfl) (OL.dp rfl (OL.x (Yields.ld rfl (az (j:=1) (c:=c.cells) (E:=71) (tot:=3) (hC.cons.cons.cons.cons.cons _ (List.mem_flatten.2 ⟨_,List.mem_singleton.2 rfl,List.mem_singleton.2 rfl⟩)) rfl)) (OL.dp rfl ?_)))))));rw[hb0];refine OL.x (Yields.dY rfl rfl rfl hkt) (OL.x (Yields.ld rfl (told_at (ht2.cons.cons.cons.cons.cons) hkt)) (OL.dp rfl ?_));obtain⟨W2,cw2,hcut,hc2,hr2⟩:=cutW (A:=some aW) (i:=(c.tm[kb]'hkt).l.length) (l:=w1) (by omega) hwc1
  refine OL.x (Yields.to (v':=.slice W2 (w1.drop (c.tm[kb]'hkt).l.length).length cw2) (Yields.slS (l:=(c.tm[kb]'hkt).l.length) (h:=w1.length) rfl rfl rfl (.inl rfl) (.inr ⟨rfl,rfl⟩) (by omega) hwc1) hcut) (OL.n1 rfl (PW.k5 0 1 4 5 6 rfl (PW.ops (OL.dp rfl ?_))))
  refine OL.x (Yields.to (v':=.int .i64 ((kb+1:Nat):Int)) (Yields.ao rfl rfl (show -9223372036854775808<=(kb:Int)+1 by omega) (show(kb:Int)+1<=9223372036854775807 by omega)) (congrArg (Value.int .i64) (show(kb:Int)+1=_ by omega))) ?_
  refine OL.x (Yields.build (cs:=secC ⟨kb+1,0,[]⟩ none 0) rfl) (OL.c (sec_st (s:=⟨kb+1,0,[]⟩) (A:=none) (c:=0) rfl rfl rfl) ?_);rintro _ _ rfl;refine OL.nil ?_;refine af.dE ((Sub.cons (Sub.cL (Sub.cons Sub.join))).trans (Sub.ec [0,2,1,3,4] 5 (by decide) _)) (T'':=[(0,_),(1,_),(4,_),(5,_)]) (wi rfl) ?_
  have e1:=secsT_blk (n:=c.I.length) (cur:=cur) hpos hrec
  have e2:=keepT_blk (K:=K1) hpos hrec
  rw[<- htg] at e1 e2;have hob:=oneT_pos hk3
  rw[<- htg] at hob;have hdl:(w1.drop (c.tm[kb]'hkt).l.length).length=w1.length-(c.tm[kb]'hkt).l.length:=List.length_drop
  have hks:=kseg_set c K1 kb (by omega)
  refine⟨(w1.drop (c.tm[kb]'hkt).l.length).length,by omega,w1.drop (c.tm[kb]'hkt).l.length,W2,cw2,kb+1,[],none,0,(l++[(⟨fr,kb,A,cc,cur⟩:bX)]),_,[],sg2,sl++aH,K1.set kb true,⟨rfl,hr2 w0 S hw1,hc2,by omega,aV.nil 9 1,hsg2,?_,by rw[hsec,e1,List.map_append,List.append_assoc];rfl,by rw[hkp,e2],by rw[List.length_set];exact hKn,by rw[List.length_append,List.length_singleton];omega,(by rw[hdl];show 0+_<=_;omega)⟩,rfl,?_⟩
  ·intro x hx;rcases List.mem_append.1 hx with h1|h1
   ·exact(hrows x h1).more fun p hp=>List.mem_append_right _ hp
   rw[List.mem_singleton.1 h1];exact(run_ok (x:=⟨fr,kb,A,cc,cur⟩) hsl).more fun p hp=>List.mem_append_left _ hp
  refine List.cons_eq_cons.2 ⟨rfl,List.cons_eq_cons.2 ⟨rfl,List.cons_eq_cons.2 ⟨rfl,List.cons_eq_cons.2 ⟨rfl,List.cons_eq_cons.2 ⟨?_,rfl⟩⟩⟩⟩⟩;exact congrArg (fun z=>[(c.rk,AO.cells z 4 (c.aC.length*1))]) hks
 try simp only[aD] at c10
 refine PW.exit (hK1 _ _ (PW.k3 0 4 5 rfl (PW.ae (OL.dp rfl (OL.x (Yields.cF rfl) (OL.dp rfl (OL.x (Yields.ld rfl (az (j:=0) (c:=c.cells) (E:=71) (tot:=3) (hC.cons.cons.cons.cons.cons _ (List.mem_flatten.2 ⟨_,List.mem_singleton.2 rfl,List.mem_singleton.2 rfl⟩)) rfl)) (OL.p2 rfl rfl (OL.c (OW.st (k:=0) rfl rfl rfl rfl (Nat.le_succ 2) rfl) ?_)))))))));rintro _ _ rfl;refine OL.nil (PW.k2 4 5 rfl (PW.ae ?_));change OL _ _ _ _ _ (sseg r5 ⟨fr,c.aC.length,cur⟩ A cc::sl::sg::aH::eg c K1::S) _;refine OL.dp rfl (OL.x (Yields.aT rfl rfl (av (c:=secC ⟨fr,c.aC.length,cur⟩ A cc) (E:=81) (tot:=3) bF)) ?_);apply OL.bV (k:=2)
 ·rfl
 ·rfl
 ·rfl
 ·rfl
 ·rfl
 ·rfl
 ·exact hsg
 ·rfl
 ·omega
 ·unfold maxLen;omega
 intro v62 sg2 hsg20;refine OL.n1 rfl (PW.k1 4 rfl ?_);refine PW.ret (zR rfl ?_);have hw0:w1=[]:=List.eq_nil_of_length_eq_zero (by omega)
 subst hw0;rw[toks_nil] at hsec hkp;have hsg2:aV 81 3 v62 (l++[(⟨fr,c.aC.length,A,cc,cur⟩:bX)]).length (cZ (l++[(⟨fr,c.aC.length,A,cc,cur⟩:bX)])) sg2:=by rw[ev,List.length_append];exact hsg20
 refine⟨_,(Sub.cons (Sub.join (b:=aH))).trans (Sub.ec [2,1,3,4] 5 (by decide) (sseg r5 ⟨fr,c.aC.length,cur⟩ A cc::sl::sg2::aH::eg c K1::S)),l++[(⟨fr,c.aC.length,A,cc,cur⟩:bX)],sg2,sl++aH,by rw[hkp];rfl,hsg2,?_,by rw[hsec,List.map_append,c.I_len];rfl,by rw[List.length_append,List.length_singleton];omega⟩
 intro x hx;rcases List.mem_append.1 hx with h1|h1
 ·exact(hrows x h1).more fun p hp=>List.mem_append_right _ hp
 rw[List.mem_singleton.1 h1];exact(run_ok (x:=⟨fr,c.aC.length,A,cc,cur⟩) hsl).more fun p hp=>List.mem_append_left _ hp
end Go.Proofs.Gr

namespace Go.Proofs.Gr
open Go.SL Go.RowKit Go.Proofs Go.GP Go.Proofs.Tryz
set_option maxHeartbeats 1000000
theorem runsS_get {l:List bX}{k j:Nat}(hk:k<l.length) (hj:j<3):(cZ l)[k*3+j]? = (fe l[k])[j]?:=by
 have e:cZ l=cZ (l.take k)++(fe l[k]++cZ (l.drop (k+1))):=by
  conv=>lhs;rw[<- List.take_append_drop k l,ev,List.drop_eq_getElem_cons hk]
  rfl
 rw[e,List.getElem?_append_right (by rw[cQ,List.length_take];omega),cQ,List.length_take,List.getElem?_append_left (by show _<3;omega)]
 congr 1;omega
theorem run_at {w0:World}{S:SS}{a:Addr}{l:List bX}(h:Rd w0 S (some a) (cZ l)) {k:Nat}(hk:k<l.length):∀(j:Nat) (v:Value),(fe l[k])[j]? = some v->Cell w0 S ((a.add (k*3)).add j) v:=by
 intro j v hj;have hj2:j<3:=(List.getElem?_eq_some_iff.1 hj).1
 rw[aZ];exact h.at (by rw[runsS_get hk hj2];exact hj)
theorem runsS_some {w0:World}{S:SS}{A:Option Addr}{l:List bX}(h:Rd w0 S A (cZ l)) (hk:0<l.length):∃a,A=some a:=
 h.some (fun e=>by have:=cQ l;rw[e] at this;simp at this;omega)
def dH (l:List Sec):Nat:=(l.map fun s=>s.lines.length).sum
def badS (l:List Sec):Bool:=l.any fun s=>s.lines.any fun x=>!Ln.isP x
def checkP (l:List Sec):Int:=if 256<dH l then 3 else if badS l then 4 else 0
theorem manyS_snoc (l:List Sec) (x:Sec):dH (l++[x])=dH l+x.lines.length:=by
 unfold dH;rw[List.map_append,List.sum_append];simp
theorem badS_snoc (l:List Sec) (x:Sec):badS (l++[x])=(badS l || x.lines.any fun y=>!Ln.isP y):=by
 unfold badS;rw[List.any_append];simp
theorem manyS_le {l:List Sec}{b:Nat}(h:∀s∈l,s.lines.length<=b):dH l<=b*l.length:=by
 induction l with
 |nil=>simp[dH]
 |cons s l ih=>
  have h1:=h s (by simp)
  have h2:=ih (fun x hx=>h x (List.mem_cons_of_mem _ hx))
  unfold dH at h2 ⊢;rw[List.map_cons,List.sum_cons,List.length_cons,Nat.mul_succ];omega
theorem check1_fc {w0:World}{S:SS}{s:ByteArray}(hs:s.size<=1000000000000000):FC prog w0 66 [.string s] S (fun v S'=>v=.bool (!Ln.isP s)/\S'=S):=by
 refine FC.of known66 (by simp) ?_
 unfold pc66;simp only[bo];exact PW.s1 rfl (PW.k1 0 rfl (PW.ae (OL.dp rfl (OL.q rfl (Ln.is_fc hs) (OL.n2 rfl rfl (PW.k1 2 rfl (PW.ret (zR rfl ⟨rfl,rfl⟩))))))))
theorem check_fc {w0:World}{S:SS}{A:Option Addr}{cap:Nat}{l:List bX}(h:Rd w0 S A (cZ l)) (hr:∀x∈l,Rd w0 S x.A (strs x.lines)) (hz:∀x∈l,∀s∈x.lines,s.size<=1000000000000000) (hll:∀x∈l,x.lines.length<=1000000) (hl:l.length<=1000000) :
  FC prog w0 28 [.slice A l.length cap] S (fun v S'=>v=.int .i64 (checkP (l.map eA))/\S'=S):=by
 have hmn:∀k,k<=l.length->dH ((l.take k).map eA)<=1000000*k:=fun k hk=>by
  have:=manyS_le (l:=(l.take k).map eA) (b:=1000000) (fun s hs=>by obtain⟨x,hx,rfl⟩:=List.mem_map.1 hs;exact hll x (List.mem_of_mem_take hx))
  rw[List.length_map,List.length_take,Nat.min_eq_left hk] at this;exact this
 have hmk:∀k (hk:k<l.length),dH ((l.take (k+1)).map eA)=dH ((l.take k).map eA)+l[k].lines.length:=fun k hk=>by
  rw[aA hk,List.map_append];exact manyS_snoc _ _
 have hbk:∀k (hk:k<l.length),badS ((l.take (k+1)).map eA)=(badS ((l.take k).map eA) || l[k].lines.any fun y=>!Ln.isP y):=fun k hk=>by
  rw[aA hk,List.map_append];exact badS_snoc _ _
 refine FC.ofD known28 (by simp) ?_
 unfold pc28;simp only[bo];refine PW.s1 rfl (PW.k1 0 rfl (PW.s2 rfl rfl (PW.k3 0 3 4 rfl (PW.seq fun K1 hK1=>PW.ae (OL.dp rfl ?_)))))
 refine OL.n2 rfl rfl (PW.k5 3 4 7 8 9 rfl (PW.block (PW.k5 3 4 7 8 9 rfl ?_)));refine PW.aR (I:=fun mm T S'=>∃(k:Nat),(k<=l.length/\mm=l.length-k)/\T=([(3,.int .i64 (dH ((l.take k).map eA):Int)),(4,.int .i64 (if badS ((l.take k).map eA) then 4 else 0)),(7,.slice A l.length cap),(8,.int .i64 (l.length:Int)),(9,.int .i64 k)]:TT)/\S'=S) (m:=l.length) ⟨0,⟨by omega,by omega⟩,rfl,rfl⟩ ?_
 rintro mm _ _ ⟨k,⟨hk,hmm⟩,rfl,rfl⟩;refine PW.s1 rfl (PW.k6 3 4 7 8 9 10 rfl (PW.seq fun K2 hK2=>?_))
 refine PW.cond rfl (fun c10=>?_) (fun c10=>?_)
 ·try simp only[aD] at c10
  have hkl:k<l.length:=by omega
  obtain⟨a0,rfl⟩:=runsS_some h (by omega)
  have h2:=h
  refine PW.skip (hK2 _ _ (PW.k5 3 4 7 8 9 rfl (PW.seq fun K3 hK3=>PW.block (PW.ae (OL.x (Yields.bO rfl rfl rfl hkl) (OL.x (Yields.aT rfl rfl (run_at h2 hkl)) (OL.c OW.al ?_)))))))
  rintro _ _ ⟨r6,rfl,rfl⟩;refine OL.c (sec_st (s:=eA l[k]) (A:=l[k].A) (c:=l[k].c) rfl rfl rfl) ?_;rintro _ _ rfl;refine OL.nil (PW.k6 3 4 6 7 8 9 rfl (PW.ae (OL.p2 rfl rfl (OL.x (Yields.ld rfl (az (j:=2) (c:=secC (eA l[k]) l[k].A l[k].c) (E:=81) (tot:=3) bF rfl)) (OL.dp rfl ?_)))));have hm1:=hmn k hk
  have hm2:=hll _ (List.getElem_mem hkl)
  have hm3:=hmk k hkl
  refine OL.x (Yields.to (v':=.int .i64 (dH ((l.take (k+1)).map eA):Int)) (Yields.ao rfl rfl (show -9223372036854775808<=(dH ((l.take k).map eA):Int)+(l[k].lines.length:Int) by omega) (show(dH ((l.take k).map eA):Int)+(l[k].lines.length:Int)<=9223372036854775807 by omega)) (congrArg (Value.int .i64) (show(dH ((l.take k).map eA):Int)+(l[k].lines.length:Int)=_ by omega))) ?_
  refine OL.n1 rfl (PW.k6 3 4 6 7 8 9 rfl (PW.ae (OL.dp rfl (OL.x (Yields.ld rfl (az (j:=2) (c:=secC (eA l[k]) l[k].A l[k].c) (E:=81) (tot:=3) bF rfl)) ?_))));refine OL.q rfl (Ln.contains_fc (g:=66) (q:=fun x=>!Ln.isP x) ((hr _ (List.getElem_mem hkl)).cons) (show l[k].lines.length<=1000000000 by have:=hll _ (List.getElem_mem hkl);omega) (by kernel_rfl) (fun s hs=>check1_fc (hz _ (List.getElem_mem hkl) s hs))) ?_
  refine OL.nil (PW.k6 3 4 7 8 9 20 rfl ?_);refine PW.cond rfl (fun c20=>?_) (fun c20=>?_)
  ·skip;refine PW.ops (OL.n1 rfl (hK3 _ _ (PW.k5 3 4 7 8 9 rfl (PW.ops (OL.x (Yields.ao rfl rfl (by omega) (by omega)) (OL.n1 rfl ?_))))))
   refine af.dE (Sub.drop (Sub.refl _)) (T'':=[(3,_),(4,_),(7,_),(8,_),(9,_)]) (wi rfl) ?_;have hb2:badS ((l.take (k+1)).map eA)=true:=by rw[hbk k hkl,show(l[k].lines.any fun y=>!Ln.isP y)=true from c20,Bool.or_true]
   exact⟨l.length-(k+1),by omega,k+1,⟨by omega,rfl⟩,by rw[hb2];rfl,rfl⟩
  skip;refine PW.skip (hK3 _ _ (PW.k5 3 4 7 8 9 rfl (PW.ops (OL.x (Yields.ao rfl rfl (by omega) (by omega)) (OL.n1 rfl ?_)))))
  refine af.dE (Sub.drop (Sub.refl _)) (T'':=[(3,_),(4,_),(7,_),(8,_),(9,_)]) (wi rfl) ?_;have hb2:badS ((l.take (k+1)).map eA)=badS ((l.take k).map eA):=by rw[hbk k hkl,show(l[k].lines.any fun y=>!Ln.isP y)=false from c20,Bool.or_false]
  exact⟨l.length-(k+1),by omega,k+1,⟨by omega,rfl⟩,by rw[hb2];rfl,rfl⟩
 try simp only[aD] at c10
 refine PW.exit (hK1 _ _ (PW.k2 3 4 rfl (PW.seq fun K4 hK4=>PW.s2 rfl rfl (PW.k2 4 23 rfl ?_))))
 refine PW.cond rfl (fun c23=>?_) (fun c23=>?_)
 ·try simp only[aD] at c23
  refine PW.s1 rfl (PW.k1 2 rfl ?_);refine PW.ret (zR rfl ?_);have hke:k=l.length:=by omega
  rw[hke,List.take_length] at c23;exact⟨_,Sub.refl _,congrArg (Value.int .i64) (by unfold checkP;rw[if_pos (by omega)]),rfl⟩
 try simp only[aD] at c23
 refine PW.skip (hK4 _ _ (PW.k1 4 rfl (PW.s2 rfl rfl (PW.k1 2 rfl ?_))));refine PW.ret (zR rfl ?_);have hke:k=l.length:=by omega
 rw[hke,List.take_length] at c23;exact⟨_,Sub.refl _,congrArg (Value.int .i64) (by unfold checkP;rw[if_neg (show ¬256<dH (l.map eA) by omega),hke,List.take_length]),rfl⟩
def ba (f u d:ay) (G L:Value):List Value:=[.int .i64 5]++(au f++([.string ⟨#[]⟩,.int .i64 0,.int .u64 0]++(au u++(au d++[G,L]))))
def chgV (f u d:ay) (G L:Value):Value:=.agg (ba f u d G L).toArray
def cK:List Value:=[.int .i64 0]++(z33++([.string ⟨#[]⟩,.int .i64 0,.int .u64 0]++(z33++(z33++[.slice none 0 0,.slice none 0 0]))))
theorem z33_len:z33.length=33:=by simp[z33]
theorem cO (f u d:ay) (G L:Value):(ba f u d G L).length=105:=by unfold ba;simp only[List.length_append,aa];rfl
theorem ep:cK.length=105:=by unfold cK;simp only[List.length_append,z33_len];rfl
theorem chg_up (f u d v:ay) (G L:Value):setAt (ba f u d G L) 37 (au v)=ba f v d G L:=by
 have:=fI (a:=[.int .i64 5]++(au f++[Value.string ⟨#[]⟩,Value.int .i64 0,Value.int .u64 0])) (b:=au u) (c:=ba f u d G L) (d:=au d++[G,L]) (e:=au v) (n:=37) (by unfold ba;simp only[List.append_assoc]) (by simp only[List.length_append,aa];rfl) (by rw[aa,aa])
 rw[this];unfold ba;simp only[List.append_assoc]
theorem chg_down (f u d v:ay) (G L:Value):setAt (ba f u d G L) 70 (au v)=ba f u v G L:=by
 have:=fI (a:=[.int .i64 5]++(au f++([.string ⟨#[]⟩,.int .i64 0,.int .u64 0]++au u))) (b:=au d) (c:=ba f u d G L) (d:=[G,L]) (e:=au v) (n:=70) (by unfold ba;simp only[List.append_assoc]) (by simp only[List.length_append,aa];rfl) (by rw[aa,aa])
 rw[this];unfold ba;simp only[List.append_assoc]
theorem chg_gone (f u d:ay) (G L G':Value):setAt (ba f u d G L) 103 [G'] = ba f u d G' L:=by
 have:=fI (a:=[.int .i64 5]++(au f++([.string ⟨#[]⟩,.int .i64 0,.int .u64 0]++(au u++au d)))) (b:=[G]) (c:=ba f u d G L) (d:=[L]) (e:=[G']) (n:=103) (by unfold ba;simp only[List.append_assoc];rfl) (by simp only[List.length_append,aa];rfl) rfl
 rw[this];unfold ba;simp only[List.append_assoc];rfl
theorem chg_file (f u d v:ay) (G L:Value):setAt (ba f u d G L) 1 (au v)=ba v u d G L:=by
 have:=fI (a:=[.int .i64 5]) (b:=au f) (c:=ba f u d G L) (d:=[Value.string ⟨#[]⟩,Value.int .i64 0,Value.int .u64 0]++(au u++(au d++[G,L]))) (e:=au v) (n:=1) rfl rfl (by rw[aa,aa])
 rw[this];rfl
theorem dQ (f u d:ay) (G L:Value):(ba f u d G L)[103]? = some G/\(ba f u d G L)[104]? = some L:=by
 have e:ba f u d G L=([.int .i64 5]++(au f++([.string ⟨#[]⟩,.int .i64 0,.int .u64 0]++(au u++au d))))++[G,L]:=by unfold ba;simp only[List.append_assoc]
 have hl:([Value.int .i64 5]++(au f++([Value.string ⟨#[]⟩,Value.int .i64 0,Value.int .u64 0]++(au u++au d)))).length=103:=by simp only[List.length_append,aa];rfl
 rw[e];constructor
 ·rw[List.getElem?_append_right (by omega),hl];rfl
 rw[List.getElem?_append_right (by omega),hl];rfl
theorem chgC_one (f u d:ay) (A B:Option Addr) (n m c e:Nat):(ba f u d (.slice A n c) (.slice B m e)).all (·.oneCell')=true:=by
 unfold ba;simp only[List.all_append,bL];rfl
theorem chg_box (f u d:ay) (G L:Value):(chgV f u d G L).cells.toList=ba f u d G L:=rfl
theorem chg_read {w0:World}{S:SS}{r E tot:Nat}{f u d:ay}{G L:Value}(hm:(r,AO.cells (ba f u d G L) E tot)∈S.flatten):ReadsAs w0 S (some 105) ⟨r,0,none⟩ (chgV f u d G L):=⟨ba f u d G L,rfl,cO ..,av hm⟩
theorem fill_chg {T:TT}{f u d:ay}{A:Option Addr}{n c:Nat}{x y z w e:PV}(h0:x.val T=some (.int .i64 5)) (h1:y.val T=some (aP f)) (h2:z.val T=some (aP u)) (h3:w.val T=some (aP d)) (h4:e.val T=some (.slice A n c)) :
  dw T cK [(0,1,x),(1,33,y),(37,33,z),(70,33,w),(104,1,e)] = some (ba f u d (.slice none 0 0) (.slice A n c)):=by
 have hf:=aa f
 have hu:=aa u
 have hd:=aa d
 have hz:=z33_len
 obtain⟨I0,hI0⟩:∃N:List Value,N=[.int .i64 0]:=⟨_,rfl⟩;obtain⟨I5,hI5⟩:∃N:List Value,N=[.int .i64 5]:=⟨_,rfl⟩;obtain⟨M,hM⟩:∃N:List Value,N=[.string ⟨#[]⟩,.int .i64 0,.int .u64 0]:=⟨_,rfl⟩;obtain⟨N1,hN1⟩:∃N:List Value,N=[.slice none 0 0]:=⟨_,rfl⟩;obtain⟨L1,hL1⟩:∃N:List Value,N=[.slice A n c]:=⟨_,rfl⟩;have hI0l:I0.length=1:=by rw[hI0];rfl
 have hI5l:I5.length=1:=by rw[hI5];rfl
 have hMl:M.length=3:=by rw[hM];rfl
 have hN1l:N1.length=1:=by rw[hN1];rfl
 have hL1l:L1.length=1:=by rw[hL1];rfl
 have e0:cK=I0++(z33++(M++(z33++(z33++(N1++N1))))):=by rw[hI0,hM,hN1];rfl
 have s1:setAt cK 0 I5=I5++(z33++(M++(z33++(z33++(N1++N1))))):=by
  have:=fI (a:=[]) (c:=cK) (n:=0) (e:=I5) (by rw[List.nil_append];exact e0) rfl (by omega)
  simpa only[List.nil_append] using this
 have s2:setAt (I5++(z33++(M++(z33++(z33++(N1++N1)))))) 1 (au f)=I5++(au f++(M++(z33++(z33++(N1++N1))))):=fI (e:=au f) rfl (by omega) (by omega)
 have s3:setAt (I5++(au f++(M++(z33++(z33++(N1++N1)))))) 37 (au u)=I5++(au f++(M++(au u++(z33++(N1++N1))))):=by
  have:=fI (a:=I5++(au f++M)) (b:=z33) (c:=I5++(au f++(M++(z33++(z33++(N1++N1)))))) (d:=z33++(N1++N1)) (e:=au u) (n:=37) (by simp only[List.append_assoc]) (by simp only[List.length_append];omega) (by omega)
  simpa only[List.append_assoc] using this
 have s4:setAt (I5++(au f++(M++(au u++(z33++(N1++N1)))))) 70 (au d)=I5++(au f++(M++(au u++(au d++(N1++N1))))):=by
  have:=fI (a:=I5++(au f++(M++au u))) (b:=z33) (c:=I5++(au f++(M++(au u++(z33++(N1++N1)))))) (d:=N1++N1) (e:=au d) (n:=70) (by simp only[List.append_assoc]) (by simp only[List.length_append];omega) (by omega)
  simpa only[List.append_assoc] using this
 have s5:setAt (I5++(au f++(M++(au u++(au d++(N1++N1)))))) 104 L1=I5++(au f++(M++(au u++(au d++(N1++L1))))):=by
  have:=fI (a:=I5++(au f++(M++(au u++(au d++N1))))) (b:=N1) (c:=I5++(au f++(M++(au u++(au d++(N1++N1)))))) (d:=[]) (e:=L1) (n:=104) (by simp only[List.append_assoc,List.append_nil]) (by simp only[List.length_append];omega) (by omega)
  simpa only[List.append_assoc,List.append_nil] using this
 have hzl:=ep
 have l1:(I5++(z33++(M++(z33++(z33++(N1++N1)))))).length=105:=by simp only[List.length_append];omega
 have l2:(I5++(au f++(M++(z33++(z33++(N1++N1)))))).length=105:=by simp only[List.length_append];omega
 have l3:(I5++(au f++(M++(au u++(z33++(N1++N1)))))).length=105:=by simp only[List.length_append];omega
 have l4:(I5++(au f++(M++(au u++(au d++(N1++N1)))))).length=105:=by simp only[List.length_append];omega
 simp only[dw,h0,h1,h2,h3,h4];rw[if_pos ⟨rfl,by omega⟩]
 rw[show(Value.int .i64 5).cells.toList=I5 from hI5.symm,s1,if_pos ⟨(List.size_toArray).trans hf,by omega⟩]
 rw[show(aP f).cells.toList=au f from rfl,s2,if_pos ⟨(List.size_toArray).trans hu,by omega⟩]
 rw[show(aP u).cells.toList=au u from rfl,s3,if_pos ⟨(List.size_toArray).trans hd,by omega⟩]
 rw[show(aP d).cells.toList=au d from rfl,s4,if_pos ⟨rfl,by omega⟩]
 rw[show(Value.slice A n c).cells.toList=L1 from hL1.symm,s5,hI5,hM,hN1,hL1]
 rfl
section
variable {w0:World}{S:SS}{P:Program}{n r:Nat}{T:TT}{x y:PV}{f u d:ay}{G L:Value}
theorem chg_stU {v:ay}(hx:x.val T=some (.pointer (some ⟨r,37,none⟩))) (hv:y.val T=some (aP v)) :
  OW P w0 n (.st 33 x y) T ([(r,.cells (ba f u d G L) 46 105)]::S) (fun _ S'=>S'=[(r,.cells (ba f v d G L) 46 105)]::S):=by
 refine(OW.st (k:=0) (c:=ba f u d G L) (u:=aP v) hx hv rfl ((List.size_toArray).trans (aa v)) (by rw[cO];decide) (bL v)).mono ?_
 rintro _ _ rfl;rw[bB,chg_up];rfl
theorem chg_stD {v:ay}(hx:x.val T=some (.pointer (some ⟨r,70,none⟩))) (hv:y.val T=some (aP v)) :
  OW P w0 n (.st 33 x y) T ([(r,.cells (ba f u d G L) 46 105)]::S) (fun _ S'=>S'=[(r,.cells (ba f u v G L) 46 105)]::S):=by
 refine(OW.st (k:=0) (c:=ba f u d G L) (u:=aP v) hx hv rfl ((List.size_toArray).trans (aa v)) (by rw[cO];decide) (bL v)).mono ?_
 rintro _ _ rfl;rw[bB,chg_down];rfl
theorem chg_stG {A:Option Addr}{a c k:Nat}(hk:S[k]? = some [(r,.cells (ba f u d G L) 46 105)]) (hx:x.val T=some (.pointer (some ⟨r,103,none⟩))) (hv:y.val T=some (.slice A a c)) :
  OW P w0 n (.st 1 x y) T S (fun _ S'=>S'=S.set k [(r,.cells (ba f u d (.slice A a c) L) 46 105)]):=by
 refine(OW.st (k:=k) (c:=ba f u d G L) (u:=.slice A a c) hx hv hk rfl (by rw[cO];exact(by decide:103+1<=105)) rfl).mono ?_
 rintro _ _ rfl;rw[show(Value.slice A a c).cells.toList=[.slice A a c] from rfl,chg_gone]
theorem chg_stk {k:Nat}{z:List Value}{A B:Option Addr}{a b c e:Nat}(hk:S[k]? = some [(r,.cells z 46 105)]) (hx:x.val T=some (.pointer (some ⟨r,0,none⟩))) (hv:y.val T=some (chgV f u d (.slice A a c) (.slice B b e))) (hz:z.length=105) :
  OW P w0 n (.st 105 x y) T S (fun _ S'=>S'=S.set k [(r,.cells (ba f u d (.slice A a c) (.slice B b e)) 46 105)]):=by
 refine(OW.st (k:=k) (c:=z) (u:=chgV f u d (.slice A a c) (.slice B b e)) hx hv hk ((List.size_toArray).trans (cO ..)) (by omega) (chgC_one ..)).mono ?_
 rintro _ _ rfl;rw[chg_box,eP (by rw[cO,hz])]
end
def upF (I:List aB) (K:List Bool) (fr k:Nat):ay:=((((List.range k).filter fun i=>decide (i<fr) && cj I K i).getLast?).map fun i=>headV I[i]!).getD aU
theorem upF_yes {I:List aB}{K:List Bool}{fr k:Nat}(h1:k<fr) (h2:cj I K k=true):upF I K fr (k+1)=headV I[k]!:=by
 unfold upF;rw[List.range_succ,List.filter_append,List.filter_cons,if_pos (by rw[decide_eq_true h1,h2];rfl),List.filter_nil,List.getLast?_append]
 rfl
theorem upF_no {I:List aB}{K:List Bool}{fr k:Nat}(h:¬(k<fr/\cj I K k=true)):upF I K fr (k+1)=upF I K fr k:=by
 unfold upF;rw[List.range_succ,List.filter_append,List.filter_cons,if_neg (by simpa using h),List.filter_nil,List.append_nil]
theorem upF_end {I:List aB}{K:List Bool}{fr k:Nat}(h:fr<=k):upF I K fr k=upK I K fr:=by
 unfold upF upK;have e:(List.range k).filter (fun i=>decide (i<fr) && cj I K i)=(List.range fr).filter (cj I K):=by
  obtain⟨m,rfl⟩:∃m,k=fr+m:=⟨k-fr,by omega⟩
  rw[List.range_add,List.filter_append];have e1:(List.range fr).filter (fun i=>decide (i<fr) && cj I K i)=(List.range fr).filter (cj I K):=by
   refine List.filter_congr fun i hi=>?_
   rw[decide_eq_true (List.mem_range.1 hi),Bool.true_and]
  have e2:((List.range m).map (fr+·)).filter (fun i=>decide (i<fr) && cj I K i)=[]:=by
   rw[List.filter_eq_nil_iff];intro i hi;obtain⟨j,_,rfl⟩:=List.mem_map.1 hi;rw[decide_eq_false (by omega),Bool.false_and];simp
  rw[e1,e2,List.append_nil]
 rw[e]
theorem downK_at {I:List aB}{K:List Bool}{to k:Nat}(hk:k<I.length) (h1:to<=k) (h2:cj I K k=true) (h3:∀i,i<k->¬(to<=i/\cj I K i=true)):downK I K to=headV I[k]!:=by
 unfold downK;have e:(List.range I.length).find? (fun i=>decide (to<=i) && cj I K i)=some k:=by
  rw[List.find?_range_eq_some];refine⟨by rw[decide_eq_true h1,h2];rfl,List.mem_range.2 hk,fun j hj=>?_⟩
  have:=h3 j hj
  by_cases h:to<=j
  ·have h4:cj I K j=false:=by cases e:cj I K j with
    |false=>rfl
    |true=>exact absurd ⟨h,e⟩ this
   rw[h4,Bool.and_false];rfl
  rw[decide_eq_false h,Bool.false_and];rfl
 rw[List.head?_filter,e];rfl
theorem downK_end {I:List aB}{K:List Bool}{to:Nat}(h3:∀i,i<I.length->¬(to<=i/\cj I K i=true)):downK I K to=bQ:=by
 unfold downK;have e:(List.range I.length).filter (fun i=>decide (to<=i) && cj I K i)=[]:=by
  rw[List.filter_eq_nil_iff];intro i hi h;rw[Bool.and_eq_true,decide_eq_true_eq] at h;exact h3 i (List.mem_range.1 hi) h
 rw[e];rfl
def fH (L:List bg):List ay:=L.flatMap fun x=>x.lines.map aG.v
theorem goneM_snoc {L:List bg}{k:Nat}(hk:k<L.length):fH (L.take (k+1))=fH (L.take k)++L[k].lines.map aG.v:=by
 rw[aA hk];unfold fH;rw[List.flatMap_append];simp
theorem goneK_M (c:ChM) (r:Run):goneK c.I r=fH ((c.aC.take r.to).drop r.fr):=by
 unfold goneK ChM.I fH;rw[<- List.map_take,<- List.map_drop,List.flatMap_map];rfl
theorem goneM_len {L:List bg}{N:Nat}(h:∀x∈L,x.lines.length<=N):(fH L).length<=N*L.length:=by
 induction L with
 |nil=>simp[fH]
 |cons x L ih=>
  have h1:=h x (by simp)
  have h2:=ih (fun y hy=>h y (List.mem_cons_of_mem _ hy))
  unfold fH at h2 ⊢;rw[List.flatMap_cons,List.length_append,List.length_map,List.length_cons,Nat.mul_succ];omega
theorem vtxs_snoc27 {v:Value}{l:List ay}{x:ay}{seg:bD}(h:aV 27 33 v (l.length+1) (aI l++au x) seg):aV 27 33 v (l++[x]).length (aI (l++[x])) seg:=by
 rw[List.length_append,dc,vtxs_one1];exact h
theorem hunk_fc {w0:World}{S:SS}{c:ChM}{K:List Bool}{file:ay}{x:bX}(h:ChOK w0 S c) (hC:cseg c∈S) (hK:eg c K∈S) (hk:K.length=c.aC.length) (hf:x.fr<=x.to) (ht:x.to<=c.aC.length) :
  FC prog w0 30 [c.ptr,aP file,runV x] S (fun u S'=>∃G n cg sg,u=chgV file (upK c.I K x.fr) (downK c.I K x.to) (.slice G n cg) (.slice x.A x.lines.length x.c)/\S'=sg::S/\n=(goneK c.I x.pl).length/\aV 27 33 (.slice G n cg) (goneK c.I x.pl).length (aI (eX (goneK c.I x.pl))) sg):=by
 have hn:=h.n
 have hIl:=c.I_len
 obtain⟨A',c',hcut,hrd0⟩:=cutI (A:=c.Ai) hf ht h.icap;have hgk:=goneK_M c x.pl
 rw[show((c.aC.take x.pl.to).drop x.pl.fr)=((c.aC.take x.to).drop x.fr) from rfl] at hgk
 rw[hgk];obtain⟨L,hL⟩:∃z,z=(c.aC.take x.to).drop x.fr:=⟨_,rfl⟩;have hLl:L.length<=1000:=by rw[hL,List.length_drop,List.length_take];omega
 have hLm:∀y∈L,y∈c.aC:=fun y hy=>by rw[hL] at hy;exact List.mem_of_mem_take (List.mem_of_mem_drop hy)
 rw[<- hL] at hcut hrd0 ⊢;have hgl:=goneM_len (L:=L) (N:=60000) (fun y hy=>(h.rows _ (hLm y hy)).nL)
 refine FC.ofC known30 (by simp) ?_
 unfold pc30;simp only[bo];refine PW.ae (OL.c (OW.bx rfl) ?_);rintro _ _ ⟨r4,rfl,rfl⟩;rw[bB,aa];refine OL.c (OW.bx rfl) ?_;rintro _ _ ⟨r5,rfl,rfl⟩;refine OL.c OW.al ?_;rintro _ _ ⟨r6,rfl,rfl⟩;change OL _ _ _ _ _ ([(r6,.cells cK 46 105)]::[(r5,.cells (fe x) 84 3)]::[(r4,.cells (au file) 27 33)]::S) _;refine OL.nil (PW.k4 0 4 5 6 rfl (PW.ae (OL.x (Yields.aT rfl (aa _) (av zM2)) (OL.x (Yields.build (cs:=au aU) rfl) (OL.x (Yields.build (cs:=au bQ) rfl) (OL.dp rfl (OL.x (Yields.ld rfl (az (j:=2) (c:=fe x) (E:=84) (tot:=3) dm rfl)) (OL.x (Yields.build (cs:=ba file aU bQ (.slice none 0 0) (.slice x.A x.lines.length x.c)) (fill_chg rfl rfl rfl rfl rfl)) (OL.c OW.al ?_)))))))));rintro _ _ ⟨r7,rfl,rfl⟩;refine OL.c (chg_stk (k:=0) rfl rfl rfl ep) ?_;rintro _ _ rfl;change OL _ _ _ _ _ ([(r7,.cells (ba file aU bQ (.slice none 0 0) (.slice x.A x.lines.length x.c)) 46 105)]::[(r6,.cells cK 46 105)]::[(r5,.cells (fe x) 84 3)]::[(r4,.cells (au file) 27 33)]::S) _;refine OL.nil (PW.k4 0 5 6 7 rfl ?_);refine PW.seqS [(0,c.ptr),(5,.pointer (some ⟨r5,0,none⟩)),(6,.pointer (some ⟨r6,0,none⟩)),(7,.pointer (some ⟨r7,0,none⟩))] ([(r7,.cells (ba file (upK c.I K x.fr) (downK c.I K x.to) (.slice none 0 0) (.slice x.A x.lines.length x.c)) 46 105)]::[]::[(r6,.cells cK 46 105)]::[(r5,.cells (fe x) 84 3)]::[(r4,.cells (au file) 27 33)]::S) ?_ fun K1 hK1=>?_
 ·skip;refine PW.seq fun K2 hK2=>PW.seq fun K3 hK3=>PW.aQ mixed ?_
  obtain⟨U,hU⟩:∃z,z=upK c.I K x.fr:=⟨_,rfl⟩;obtain⟨D,hD⟩:∃z,z=downK c.I K x.to:=⟨_,rfl⟩;rw[<- hU,<- hD];refine QK.dp rfl (QK.x (Yields.cF rfl) (QK.dp rfl (QK.x (Yields.ld rfl (az (j:=0) (c:=c.cells) (E:=71) (tot:=3) (List.mem_flatten.2 ⟨_,.tail _ (.tail _ (.tail _ (.tail _ (.tail _ (hC))))),List.mem_singleton.2 rfl⟩) rfl)) (QK.dp rfl (QK.x (Yields.ld rfl (az (j:=0) (c:=fe x) (E:=84) (tot:=3) zM3 rfl)) (QK.dp rfl (QK.x (Yields.ld rfl (az (j:=1) (c:=fe x) (E:=84) (tot:=3) zM3 rfl)) ?_)))))));refine QK.x (Yields.to (v':=.slice A' L.length c') (Yields.slS (l:=x.fr) (h:=x.to) rfl rfl rfl (.inl rfl) (.inl rfl) hf (by have:=h.icap;omega)) hcut) ?_
  refine QK.n2 rfl rfl ?_;change OL _ _ _ [] _ _ _;refine OL.nil (hK3 _ _ (PW.k5 6 7 78 79 80 rfl (PW.block (PW.k5 6 7 78 79 80 rfl ?_))));refine PW.aR (I:=fun mm T S'=>∃(k:Nat) (v:Value) (sg:bD),(k<=L.length/\mm=L.length-k/\aV 27 33 v (fH (L.take k)).length (aI (fH (L.take k))) sg)/\T=([(6,.pointer (some ⟨r6,0,none⟩)),(7,.pointer (some ⟨r7,0,none⟩)),(78,.slice A' L.length c'),(79,.int .i64 (L.length:Int)),(80,.int .i64 (k:Int))]:TT)/\S'=[(r7,.cells (ba file U D v (.slice x.A x.lines.length x.c)) 46 105)]::sg::[(r6,.cells cK 46 105)]::[(r5,.cells (fe x) 84 3)]::[(r4,.cells (au file) 27 33)]::S) (m:=L.length) ⟨0,_,[],⟨by omega,by omega,aV.nil 27 33⟩,rfl,rfl⟩ ?_
  rintro mm _ _ ⟨k,v,sg,⟨hkL,hmm,hsg⟩,rfl,rfl⟩;refine PW.s1 rfl (PW.k6 6 7 78 79 80 81 rfl (PW.seq fun K4 hK4=>?_))
  refine PW.cond rfl (fun c81=>?_) (fun c81=>?_)
  ·try simp only[aD] at c81
   have hkl:k<L.length:=by omega
   obtain⟨a0,rfl⟩:=cA (hrd0 w0 S h.items) (by omega)
   have hr2:Rd w0 ([(r7,.cells (ba file U D v (.slice x.A x.lines.length x.c)) 46 105)]::sg::[(r6,.cells cK 46 105)]::[(r5,.cells (fe x) 84 3)]::[(r4,.cells (au file) 27 33)]::S) (some a0) (bl L):=(hrd0 w0 S h.items).cons.cons.cons.cons.cons
   refine PW.skip (hK4 _ _ (PW.k5 6 7 78 79 80 rfl (PW.seq fun K5 hK5=>PW.block (PW.ae (OL.x (Yields.bO rfl rfl rfl hkl) (OL.x (Yields.aT rfl (cU _) (bz hr2 hkl)) (OL.c OW.al ?_)))))))
   rintro _ _ ⟨r10,rfl,rfl⟩;refine OL.c (item_st rfl rfl rfl) ?_;rintro _ _ rfl;change OL _ _ _ _ _ ([(r10,.cells (bA L[k]) 75 3)]::[(r7,.cells (ba file U D v (.slice x.A x.lines.length x.c)) 46 105)]::sg::[(r6,.cells cK 46 105)]::[(r5,.cells (fe x) 84 3)]::[(r4,.cells (au file) 27 33)]::S) _;refine OL.nil (PW.k6 6 7 10 78 79 80 rfl (PW.ae (OL.dp rfl (OL.x (Yields.ld rfl (az (j:=0) (c:=bA L[k]) (E:=75) (tot:=3) bF rfl)) (OL.n2 rfl rfl (PW.k8 6 7 78 79 80 85 86 87 rfl (PW.block (PW.k8 6 7 78 79 80 85 86 87 rfl ?_))))))));refine PW.aR (I:=fun mj T S'=>∃(j:Nat) (v:Value) (sg:bD),(j<=L[k].lines.length/\mj=L[k].lines.length-j/\aV 27 33 v (fH (L.take k)++(L[k].lines.take j).map aG.v).length (aI (fH (L.take k)++(L[k].lines.take j).map aG.v)) sg)/\T=([(6,.pointer (some ⟨r6,0,none⟩)),(7,.pointer (some ⟨r7,0,none⟩)),(78,.slice (some a0) L.length c'),(79,.int .i64 (L.length:Int)),(80,.int .i64 (k:Int)),(85,.slice L[k].LA L[k].lines.length L[k].lc),(86,.int .i64 (L[k].lines.length:Int)),(87,.int .i64 (j:Int))]:TT)/\S'=[(r10,.cells (bA L[k]) 75 3)]::[(r7,.cells (ba file U D v (.slice x.A x.lines.length x.c)) 46 105)]::sg::[(r6,.cells cK 46 105)]::[(r5,.cells (fe x) 84 3)]::[(r4,.cells (au file) 27 33)]::S) (m:=L[k].lines.length) ⟨0,v,sg,⟨by omega,by omega,by rw[List.take_zero,List.map_nil,List.append_nil];exact hsg⟩,rfl,rfl⟩ ?_
   rintro mj _ _ ⟨j,v,sg,⟨hjL,hmj,hsg⟩,rfl,rfl⟩;refine PW.s1 rfl (PW.k9 6 7 78 79 80 85 86 87 88 rfl (PW.seq fun K6 hK6=>?_))
   refine PW.cond rfl (fun c88=>?_) (fun c88=>?_)
   ·try simp only[aD] at c88
    have hjl:j<L[k].lines.length:=by omega
    have hjB:L[k].lines.length<=60000:=(h.rows _ (hLm _ (List.getElem_mem hkl))).nL
    have hGt:=goneM_len (L:=L.take k) (N:=60000) (fun y hy=>(h.rows _ (hLm y (List.mem_of_mem_take hy))).nL)
    rw[List.length_take] at hGt;have hGl:(fH (L.take k)++(L[k].lines.take j).map aG.v).length<=60000*1001:=by
     rw[List.length_append,List.length_map,List.length_take];omega
    have hrl:=(h.rows _ (hLm _ (List.getElem_mem hkl))).rdL
    obtain⟨b0,hb0⟩:=bR hrl (by omega)
    rw[hb0] at hrl;have hrl2:Rd w0 ([(r10,.cells (bA L[k]) 75 3)]::[(r7,.cells (ba file U D v (.slice x.A x.lines.length x.c)) 46 105)]::sg::[(r6,.cells cK 46 105)]::[(r5,.cells (fe x) 84 3)]::[(r4,.cells (au file) 27 33)]::S) (some b0) (lines L[k].lines):=hrl.cons.cons.cons.cons.cons.cons
    refine PW.skip (hK6 _ _ (PW.k8 6 7 78 79 80 85 86 87 rfl (PW.seq fun K7 hK7=>PW.block (PW.ae ?_))))
    rw[hb0];refine OL.x (Yields.bO rfl rfl rfl hjl) (OL.x (Yields.aT rfl (aJ _) (dA hrl2 hjl)) (OL.c OW.al ?_));rintro _ _ ⟨r12,rfl,rfl⟩;refine OL.c (line_st (u:=L[k].lines[j]) rfl rfl rfl) ?_;rintro _ _ rfl;change OL _ _ _ _ _ (lseg r12 L[k].lines[j]::[(r10,.cells (bA L[k]) 75 3)]::[(r7,.cells (ba file U D v (.slice x.A x.lines.length x.c)) 46 105)]::sg::[(r6,.cells cK 46 105)]::[(r5,.cells (fe x) 84 3)]::[(r4,.cells (au file) 27 33)]::S) _;refine OL.nil (PW.k9 6 7 12 78 79 80 85 86 87 rfl (PW.ops (OL.dp rfl (OL.x (Yields.ld rfl (az (j:=103) (c:=ba file U D v (.slice x.A x.lines.length x.c)) (E:=46) (tot:=105) zM2 (dQ ..).1)) (OL.dp rfl (OL.x (Yields.aT rfl (aa _) (lcell_vtx (x:=L[k].lines[j]) (E:=99) (tot:=35) bF)) ?_))))));apply OL.bV (k:=3)
    ·rfl
    ·rfl
    ·exact(List.size_toArray).trans (aa _)
    ·rfl
    ·rfl
    ·rfl
    ·exact hsg
    ·exact bL _
    ·omega
    ·unfold maxLen;omega
    intro v96 sg2 hsg2;obtain⟨A9,c9,rfl,-,-,-⟩:=aF (w0:=w0) hsg2;refine OL.dp rfl (OL.c (chg_stG (k:=2) rfl rfl rfl) ?_);rintro _ _ rfl;change OL _ _ _ _ _ (lseg r12 L[k].lines[j]::[(r10,.cells (bA L[k]) 75 3)]::[(r7,.cells (ba file U D (.slice A9 ((fH (L.take k)++(L[k].lines.take j).map aG.v).length+1) c9) (.slice x.A x.lines.length x.c)) 46 105)]::sg2::[(r6,.cells cK 46 105)]::[(r5,.cells (fe x) 84 3)]::[(r4,.cells (au file) 27 33)]::S) _;refine OL.nil (hK7 _ _ (PW.k8 6 7 78 79 80 85 86 87 rfl (PW.ops (OL.x (Yields.ao rfl rfl (by omega) (by omega)) (OL.n1 rfl ?_)))))
    refine af.dE (Sub.drop (Sub.refl _)) (T'':=[(6,_),(7,_),(78,_),(79,_),(80,_),(85,_),(86,_),(87,_)]) (wi rfl) ?_;have hsg3:=vtxs_snoc27 hsg2
    have e3:(fH (L.take k)++(L[k].lines.take j).map aG.v)++[L[k].lines[j].v] = fH (L.take k)++(L[k].lines.take (j+1)).map aG.v:=by rw[aA hjl,List.map_append,List.append_assoc];rfl
    rw[e3] at hsg3;exact⟨L[k].lines.length-(j+1),by omega,j+1,_,sg2,⟨by omega,rfl,hsg3⟩,(by rw[hb0];rfl),rfl⟩
   try simp only[aD] at c88
   refine PW.exit (hK5 _ _ (PW.k5 6 7 78 79 80 rfl (PW.ops (OL.x (Yields.ao rfl rfl (by omega) (by omega)) (OL.n1 rfl ?_)))))
   refine af.dE (Sub.drop (Sub.refl _)) (T'':=[(6,_),(7,_),(78,_),(79,_),(80,_)]) (wi rfl) ?_;have hje:j=L[k].lines.length:=by omega
   rw[hje,List.take_length,<- goneM_snoc hkl] at hsg;exact⟨L.length-(k+1),by omega,k+1,_,sg,⟨by omega,rfl,hsg⟩,rfl,rfl⟩
  try simp only[aD] at c81
  refine PW.exit (hK2 _ _ (PW.k2 6 7 rfl (PW.ae ?_)));have hke:k=L.length:=by omega
  rw[hke,List.take_length] at hsg;obtain⟨Ag,cg,rfl,-,-,-⟩:=aF (w0:=w0) hsg;refine OL.dp rfl (OL.x (Yields.ld rfl (az (j:=103) (c:=ba file U D (.slice Ag (fH L).length cg) (.slice x.A x.lines.length x.c)) (E:=46) (tot:=105) bF (dQ ..).1)) (OL.l rfl (sort_fc (k:=1) rfl hsg (by omega)) ?_))
  rintro _ _ ⟨rfl,sgs,hsgs,rfl⟩;refine OL.nil (PW.k2 6 7 rfl (PW.ae (OL.x (Yields.aT rfl (cO ..) (av (c:=ba file U D (.slice Ag (fH L).length cg) (.slice x.A x.lines.length x.c)) (E:=46) (tot:=105) bF)) (OL.c (chg_stk (k:=2) (z:=cK) (u:=U) (d:=D) rfl rfl rfl ep) ?_))));rintro _ _ rfl;refine OL.nil (PW.k1 6 rfl (PW.ret ?_));exact⟨.inr rfl,_,_,rfl,chg_read (E:=46) (tot:=105) zM2,_,Sub.drop (Sub.cons (Sub.drop (Sub.drop (Sub.drop (Sub.refl _))))),Ag,(fH L).length,cg,sgs,by rw[hU,hD],rfl,rfl,hsgs⟩
 skip;refine PW.ae (OL.dp rfl (OL.x (Yields.cF rfl) (OL.dp rfl (OL.x (Yields.ld rfl (az (j:=0) (c:=c.cells) (E:=71) (tot:=3) (List.mem_flatten.2 ⟨_,.tail _ (.tail _ (.tail _ (.tail _ (hC)))),List.mem_singleton.2 rfl⟩) rfl)) (OL.n2 rfl rfl (PW.k6 0 5 6 7 23 24 rfl (PW.block (PW.k6 0 5 6 7 23 24 rfl ?_))))))));refine PW.aR (I:=fun mm T S'=>∃(k:Nat),(k<=c.aC.length/\mm=c.aC.length-k/\∀i,i<k->¬(x.to<=i/\cj c.I K i=true))/\T=([(0,c.ptr),(5,.pointer (some ⟨r5,0,none⟩)),(6,.pointer (some ⟨r6,0,none⟩)),(7,.pointer (some ⟨r7,0,none⟩)),(23,.int .i64 (c.aC.length:Int)),(24,.int .i64 (k:Int))]:TT)/\S'=[(r7,.cells (ba file (upF c.I K x.fr k) bQ (.slice none 0 0) (.slice x.A x.lines.length x.c)) 46 105)]::[(r6,.cells cK 46 105)]::[(r5,.cells (fe x) 84 3)]::[(r4,.cells (au file) 27 33)]::S) (m:=c.aC.length) ⟨0,⟨by omega,by omega,fun i hi=>by omega⟩,rfl,rfl⟩ ?_
 rintro mm _ _ ⟨k,⟨hkL,hmm,hno⟩,rfl,rfl⟩;refine PW.s1 rfl (PW.k7 0 5 6 7 23 24 25 rfl (PW.seq fun K8 hK8=>?_))
 refine PW.cond rfl (fun c25=>?_) (fun c25=>?_)
 ·try simp only[aD] at c25
  have hkl:k<c.aC.length:=by omega
  obtain⟨a0,ha0⟩:=cA h.items (by omega)
  have hr2:=h.items
  rw[ha0] at hr2;have hig:=c.I_get hkl
  have hi!:c.I[k]! = c.aC[k].pl:=by rw[getElem!_pos c.I k (by rw[c.I_len];exact hkl),hig]
  refine PW.skip (hK8 _ _ (PW.k6 0 5 6 7 23 24 rfl (PW.seq fun K9 hK9=>PW.block (PW.s2 rfl rfl (PW.k7 0 5 6 7 8 23 24 rfl ?_)))))
  refine PW.seqS [(0,c.ptr),(5,.pointer (some ⟨r5,0,none⟩)),(6,.pointer (some ⟨r6,0,none⟩)),(7,.pointer (some ⟨r7,0,none⟩)),(8,.int .i64 (k:Int)),(23,.int .i64 (c.aC.length:Int)),(24,.int .i64 (k:Int))] ([(r7,.cells (ba file (upF c.I K x.fr (k+1)) bQ (.slice none 0 0) (.slice x.A x.lines.length x.c)) 46 105)]::[(r6,.cells cK 46 105)]::[(r5,.cells (fe x) 84 3)]::[(r4,.cells (au file) 27 33)]::S) ?_ fun K10 hK10=>?_
  ·skip;refine PW.ae (OL.p2 rfl rfl (OL.x (Yields.ld rfl (az (j:=1) (c:=fe x) (E:=84) (tot:=3) zM2 rfl)) (OL.dp rfl ?_)));refine OL.bool trivial (Yields.pure rfl) (fun g52=>?_) (fun g52=>?_)
   ·try simp only[aD] at g52
    refine OL.ak rfl (.pure rfl) (OL.ak rfl (.pure rfl) (OL.call rfl rfl (csolid_fc (h.mono (Over.refl _).cons.cons.cons.cons) (.tail _ (.tail _ (.tail _ (.tail _ (hC))))) (.tail _ (.tail _ (.tail _ (.tail _ (hK))))) hk hkl) ?_));rintro _ Sx ⟨rfl,hSx⟩;rw[hSx];clear hSx;refine OL.n1 rfl (PW.k8 0 5 6 7 8 23 24 56 rfl ?_);refine PW.cond rfl (fun c56=>?_) (fun c56=>?_)
    ·skip;have hnb:c.aC[k].block=false:=by
      have:=c56
      unfold cj at this;rw[hi!,Bool.and_eq_true] at this;simpa[bg.pl] using this.2
     have hpos:=h.solid _ (List.getElem_mem hkl) hnb
     have hrl:=(h.rows _ (List.getElem_mem hkl)).rdL
     obtain⟨b0,hb0⟩:=bR hrl hpos;rw[hb0] at hrl;have hhd:headV c.I[k]! = c.aC[k].lines[0].v:=by rw[hi!];unfold headV;show c.aC[k].lines[0]!.v=_;rw[getElem!_pos _ 0 hpos]
     refine PW.ae (OL.dp rfl (OL.x (Yields.cF rfl) (OL.dp rfl (OL.x (Yields.ld rfl (az (j:=0) (c:=c.cells) (E:=71) (tot:=3) (List.mem_flatten.2 ⟨_,.tail _ (.tail _ (.tail _ (.tail _ (hC)))),List.mem_singleton.2 rfl⟩) rfl)) (OL.dp rfl ?_)))));rw[ha0];refine OL.x (Yields.bO rfl rfl rfl hkl) (OL.dp rfl (OL.x (Yields.ld rfl (bz (hr2.cons.cons.cons.cons) hkl _ _ rfl)) ?_));rw[hb0];refine OL.x (Yields.bO (j:=0) rfl rfl rfl hpos) (OL.dp rfl (OL.x (Yields.aT rfl (aa _) (fJ (k:=0) (hrl.cons.cons.cons.cons) hpos)) (OL.dp rfl (OL.c (chg_stD rfl rfl) ?_))));rintro _ _ rfl;rw[<- hhd,<- downK_at (by omega) (show x.to<=k by omega) c56 hno,upF_end (by omega)]
     refine OL.bZ (S':=[(r7,.cells (ba file (upK c.I K x.fr) (downK c.I K x.to) (.slice none 0 0) (.slice x.A x.lines.length x.c)) 46 105)]::[]::[(r6,.cells cK 46 105)]::[(r5,.cells (fe x) 84 3)]::[(r4,.cells (au file) 27 33)]::S) (Sub.cons (Sub.cL (Sub.refl _))) (OL.nil (PW.k4 0 5 6 7 rfl (PW.exit ?_)));exact hK1 _ _ ⟨rfl,rfl,rfl,rfl,trivial⟩ rfl
    skip;refine PW.skip (hK9 _ _ (PW.k6 0 5 6 7 23 24 rfl (PW.ops (OL.x (Yields.ao rfl rfl (by omega) (by omega)) (OL.n1 rfl ?_)))))
    refine af.mk (T'':=[(0,_),(5,_),(6,_),(7,_),(23,_),(24,_)]) (wi rfl) ?_;have hsf:cj c.I K k=false:=c56
    exact⟨c.aC.length-(k+1),by omega,k+1,⟨by omega,rfl,fun i hi hh=>by
     rcases Nat.lt_or_ge i k with h1|h1
     ·exact hno i h1 hh
     obtain rfl:i=k:=by omega
     rw[hsf] at hh;cases hh.2⟩,rfl,rfl⟩
   try simp only[aD] at g52
   refine OL.off rfl rfl (OL.off rfl rfl (OL.off rfl rfl (OL.n1 rfl (PW.k8 0 5 6 7 8 23 24 56 rfl (PW.ite (b:=false) rfl ?_)))));rw[if_neg Bool.false_ne_true];refine PW.skip (hK9 _ _ (PW.k6 0 5 6 7 23 24 rfl (PW.ops (OL.x (Yields.ao rfl rfl (by omega) (by omega)) (OL.n1 rfl ?_)))))
   refine af.mk (T'':=[(0,_),(5,_),(6,_),(7,_),(23,_),(24,_)]) (wi rfl) ?_;exact⟨c.aC.length-(k+1),by omega,k+1,⟨by omega,rfl,fun i hi hh=>by
    rcases Nat.lt_or_ge i k with h1|h1
    ·exact hno i h1 hh
    omega⟩,rfl,rfl⟩
  skip;refine PW.ae (OL.p2 rfl rfl (OL.x (Yields.ld rfl (az (j:=0) (c:=fe x) (E:=84) (tot:=3) zM2 rfl)) (OL.dp rfl ?_)));refine OL.bool trivial (Yields.pure rfl) (fun g31=>?_) (fun g31=>?_)
  ·try simp only[aD] at g31
   refine OL.ak rfl (.pure rfl) (OL.ak rfl (.pure rfl) (OL.call rfl rfl (csolid_fc (h.mono (Over.refl _).cons.cons.cons.cons) (.tail _ (.tail _ (.tail _ (.tail _ (hC))))) (.tail _ (.tail _ (.tail _ (.tail _ (hK))))) hk hkl) ?_));rintro _ Sx ⟨rfl,hSx⟩;rw[hSx];clear hSx;refine OL.n1 rfl (PW.k8 0 5 6 7 8 23 24 35 rfl ?_);refine PW.cond rfl (fun c35=>?_) (fun c35=>?_)
   ·skip;have hnb:c.aC[k].block=false:=by
     have:=c35
     unfold cj at this;rw[hi!,Bool.and_eq_true] at this;simpa[bg.pl] using this.2
    have hpos:=h.solid _ (List.getElem_mem hkl) hnb
    have hrl:=(h.rows _ (List.getElem_mem hkl)).rdL
    obtain⟨b0,hb0⟩:=bR hrl hpos;rw[hb0] at hrl;have hhd:headV c.I[k]! = c.aC[k].lines[0].v:=by rw[hi!];unfold headV;show c.aC[k].lines[0]!.v=_;rw[getElem!_pos _ 0 hpos]
    refine PW.ops (OL.dp rfl (OL.x (Yields.cF rfl) (OL.dp rfl (OL.x (Yields.ld rfl (az (j:=0) (c:=c.cells) (E:=71) (tot:=3) (List.mem_flatten.2 ⟨_,.tail _ (.tail _ (.tail _ (.tail _ (hC)))),List.mem_singleton.2 rfl⟩) rfl)) (OL.dp rfl ?_)))));rw[ha0];refine OL.x (Yields.bO rfl rfl rfl hkl) (OL.dp rfl (OL.x (Yields.ld rfl (bz (hr2.cons.cons.cons.cons) hkl _ _ rfl)) ?_));rw[hb0];refine OL.x (Yields.bO (j:=0) rfl rfl rfl hpos) (OL.dp rfl (OL.x (Yields.aT rfl (aa _) (fJ (k:=0) (hrl.cons.cons.cons.cons) hpos)) (OL.dp rfl (OL.c (chg_stU rfl rfl) ?_))));rintro _ _ rfl;rw[<- hhd,<- upF_yes (show k<x.fr by omega) c35]
    refine OL.nil ?_;exact hK10 _ _ ⟨rfl,rfl,rfl,rfl,rfl,rfl,rfl,trivial⟩ rfl
   skip;rw[<- upF_no (I:=c.I) (K:=K) (fr:=x.fr) (k:=k) (fun hh=>by rw[hh.2] at c35;cases c35)]
   refine PW.skip ?_;exact hK10 _ _ ⟨rfl,rfl,rfl,rfl,rfl,rfl,rfl,trivial⟩ rfl
  try simp only[aD] at g31
  rw[<- upF_no (I:=c.I) (K:=K) (fr:=x.fr) (k:=k) (fun hh=>absurd hh.1 (by omega))]
  refine OL.off rfl rfl (OL.off rfl rfl (OL.off rfl rfl (OL.n1 rfl (PW.k8 0 5 6 7 8 23 24 35 rfl (PW.ite (b:=false) rfl ?_)))));rw[if_neg Bool.false_ne_true];refine PW.skip ?_;exact hK10 _ _ ⟨rfl,rfl,rfl,rfl,rfl,rfl,rfl,trivial⟩ rfl
 try simp only[aD] at c25
 rw[upF_end (show x.fr<=k by omega),<- downK_end (I:=c.I) (K:=K) (to:=x.to) (fun i hi=>hno i (by omega))]
 refine PW.bZ (S':=[(r7,.cells (ba file (upK c.I K x.fr) (downK c.I K x.to) (.slice none 0 0) (.slice x.A x.lines.length x.c)) 46 105)]::[]::[(r6,.cells cK 46 105)]::[(r5,.cells (fe x) 84 3)]::[(r4,.cells (au file) 27 33)]::S) (Sub.cons (Sub.cL (Sub.refl _))) (PW.exit ?_);exact hK1 _ _ ⟨rfl,rfl,rfl,rfl,trivial⟩ rfl
end Go.Proofs.Gr

namespace Go.Proofs.Gr
open Go.SL Go.RowKit Go.Proofs Go.GP Go.MyPlain
theorem secsF_ok {I:List aB}:∀(f fr:Nat) (w cur:List ByteArray),fr<=I.length->∀s∈di I.length (eY I f fr w) fr cur,(s.fr<=s.to/\s.to<=I.length)/\s.lines.length<=cur.length+w.length/\∀x∈s.lines,x∈cur∨x∈w
 |0,fr,w,cur,h,s,hs=>by
  simp only[eY,di,List.mem_singleton] at hs;subst hs;exact⟨⟨h,Nat.le_refl _⟩,Nat.le_add_right _ _,fun x hx=>.inl hx⟩
 |f+1,fr,[],cur,h,s,hs=>by
  simp only[eY,di,List.mem_singleton] at hs;subst hs;exact⟨⟨h,Nat.le_refl _⟩,Nat.le_add_right _ _,fun x hx=>.inl hx⟩
 |f+1,fr,t::w,cur,h,s,hs=>by
  simp only[eY] at hs;cases e:recAt I fr (t::w) with
  |none=>
   rw[e] at hs;simp only[di] at hs;obtain⟨h1,h2,h3⟩:=secsF_ok f fr w (cur++[t]) h s hs;refine⟨h1,by rw[List.length_append,List.length_singleton] at h2;rw[List.length_cons];omega,fun x hx=>?_⟩
   rcases h3 x hx with h4|h4
   ·rcases List.mem_append.1 h4 with h5|h5
    ·exact .inl h5
    rw[List.mem_singleton.1 h5];exact .inr List.mem_cons_self
   exact .inr (List.mem_cons_of_mem _ h4)
  |some k=>
   rw[e] at hs;simp only[di] at hs;obtain⟨k1,k2,k3,k4⟩:=eI e;rcases List.mem_cons.1 hs with rfl|hs
   ·exact⟨⟨k1,Nat.le_of_lt k2⟩,Nat.le_add_right _ _,fun x hx=>.inl hx⟩
   obtain⟨h1,h2,h3⟩:=secsF_ok f (k+1) _ [] k2 s hs;refine⟨h1,by rw[List.length_drop] at h2;simp only[List.length_nil,List.length_cons] at h2 ⊢;omega,fun x hx=>?_⟩
   rcases h3 x hx with h4|h4
   ·cases h4
   exact .inr (List.mem_of_mem_drop h4)
theorem secs_ok {I:List aB}{w:List ByteArray}{s:Sec}(hs:s∈secs I w):(s.fr<=s.to/\s.to<=I.length)/\s.lines.length<=w.length/\∀x∈s.lines,x∈w:=by
 obtain⟨h1,h2,h3⟩:=secsF_ok w.length 0 w [] (Nat.zero_le _) s hs;refine⟨h1,by simpa using h2,fun x hx=>(h3 x hx).resolve_left (by simp)⟩
theorem sec_many:∀{l:List Sec}{s:Sec},s∈l->s.lines.length<=dH l
 |t::l,s,h=>by
  have e:dH (t::l)=t.lines.length+dH l:=by unfold dH;rw[List.map_cons,List.sum_cons]
  rcases List.mem_cons.1 h with rfl|h
  ·omega
  have:=sec_many h;omega
theorem allR_app (I:List aB):∀(a b:List Sec) (K:List Bool),fg I (a++b) K=((fg I a K).1++(fg I b (fg I a K).2).1,(fg I b (fg I a K).2).2)
 |[],b,K=>rfl
 |s::a,b,K=>by
  simp only[List.cons_append,fg];rw[allR_app I a b];simp only[List.append_assoc]
theorem allR_snoc (I:List aB) (a:List Sec) (s:Sec) (K:List Bool):fg I (a++[s]) K=((fg I a K).1++(fb I s (fg I a K).2).runs,(fb I s (fg I a K).2).K):=by
 rw[allR_app];simp only[fg,List.append_nil]
theorem runsR_len {I:List aB}{s:Sec}{K:List Bool}:(fb I s K).K.length=K.length:=foldU_len _ _ _
theorem allR_len {I:List aB}:∀(a:List Sec) (K:List Bool),(fg I a K).2.length=K.length
 |[],_=>rfl
 |s::a,K=>by simp only[fg];rw[allR_len a,runsR_len]
def RunIn (lo hi:Nat) (r:Run):Prop:=lo<=r.fr/\r.fr<=r.to/\r.to<=hi
theorem modLast_all {p:Run->Prop}{f:Run->Run}(hf:∀r,p r->p (f r)):∀{l:List Run},(∀r∈l,p r)->∀r∈modLast f l,p r
 |[],h,r,hr=>by cases hr
 |[x],h,r,hr=>by simp only[modLast,List.mem_singleton] at hr;subst hr;exact hf x (h x (by simp))
 |x::y::l,h,r,hr=>by
  simp only[modLast] at hr;rcases List.mem_cons.1 hr with rfl|hr
  ·exact h r (by simp)
  exact modLast_all hf (l:=y::l) (fun r hr=>h r (List.mem_cons_of_mem _ hr)) r hr
theorem growR_all {p:Run->Prop}{st:RS}(h:∀r∈st.runs,p r) (h1:p ⟨st.at_,st.at_,[]⟩):∀r∈growR st,p r:=by
 intro r hr;unfold growR at hr;split at hr
 ·exact h r hr
 rcases List.mem_append.1 hr with h2|h2
 ·exact h r h2
 rw[List.mem_singleton.1 h2];exact h1
theorem stepU_in {ls:List ByteArray}{st:RS}{t:Int×Int×Int}{lo:Nat}(hlo:lo<=st.at_) (h:∀r∈st.runs,RunIn lo st.at_ r):st.at_<=(cf ls st t).at_/\∀r∈(cf ls st t).runs,RunIn lo (cf ls st t).at_ r:=by
 unfold cf;split
 ·exact⟨Nat.le_succ _,fun r hr=>let ⟨a,b,c⟩:=h r hr;⟨a,b,Nat.le_succ_of_le c⟩⟩
 split
 ·refine⟨Nat.le_succ _,modLast_all (fun r hr=>⟨hr.1,?_,Nat.le_refl _⟩) (growR_all (fun r hr=>let ⟨a,b,c⟩:=h r hr;⟨a,b,Nat.le_succ_of_le c⟩) ⟨hlo,Nat.le_refl _,Nat.le_succ _⟩)⟩
  exact Nat.le_trans hr.2.1 hr.2.2
 exact⟨Nat.le_refl _,modLast_all (f:=fun r=>{ r with lines:=r.lines++[ls[t.2.2.toNat]!] }) (fun r hr=>hr) (growR_all h ⟨hlo,Nat.le_refl _,Nat.le_refl _⟩)⟩
theorem foldU_in {ls:List ByteArray}{lo:Nat}:∀(l:List (Int×Int×Int)) (st:RS),lo<=st.at_->(∀r∈st.runs,RunIn lo st.at_ r)->∀r∈(l.foldl (cf ls) st).runs,RunIn lo (l.foldl (cf ls) st).at_ r
 |[],st,_,h=>h
 |t::l,st,hlo,h=>by
  rw[List.foldl_cons];obtain⟨h1,h2⟩:=stepU_in (ls:=ls) (t:=t) hlo h;exact foldU_in l _ (Nat.le_trans hlo h1) h2
theorem txts_len {I:List aB}{fr to:Nat}(hf:fr<=to) (ht:to<=I.length):(db I fr to).length=to-fr:=by
 unfold db;rw[List.length_map,List.length_drop,List.length_take];omega
theorem runsR_at {I:List aB}{s:Sec}{K:List Bool}(hf:s.fr<=s.to) (ht:s.to<=I.length):(fb I s K).at_=s.to:=by
 unfold fb;rw[foldU_at _ _ _ (fun t h=>scr_op h),scr_takes,txts_len hf ht]
 show s.fr+(s.to-s.fr)=s.to
 omega
theorem runsR_in {I:List aB}{s:Sec}{K:List Bool}(hf:s.fr<=s.to) (ht:s.to<=I.length):∀r∈(fb I s K).runs,RunIn s.fr s.to r:=by
 have:=foldU_in (ls:=s.lines) (lo:=s.fr) (scr (db I s.fr s.to) s.lines) ⟨s.fr,false,[],K⟩ (Nat.le_refl _) (fun r hr=>by cases hr)
 intro r hr;have h2:=this r hr
 rwa [show((scr (db I s.fr s.to) s.lines).foldl (cf s.lines) ⟨s.fr,false,[],K⟩).at_=s.to from runsR_at hf ht] at h2
theorem allR_in {I:List aB}:∀(a:List Sec) (K:List Bool),(∀s∈a,s.fr<=s.to/\s.to<=I.length)->∀r∈(fg I a K).1,r.fr<=r.to/\r.to<=I.length
 |[],_,_,r,hr=>by cases hr
 |s::a,K,h,r,hr=>by
  simp only[fg] at hr;have hs:=h s (by simp)
  rcases List.mem_append.1 hr with h1|h1
  ·obtain⟨_,h2,h3⟩:=runsR_in hs.1 hs.2 r h1;exact⟨h2,Nat.le_trans h3 hs.2⟩
  exact allR_in a _ (fun s hs=>h s (List.mem_cons_of_mem _ hs)) r h1
def errH (I:List aB) (w:List ByteArray):Int:=checkP (secs I w)
def keptH (I:List aB) (w:List ByteArray):List Bool:=(fg I (secs I w) (fC (List.replicate I.length false) (dq I 0 w))).2
def runsH (I:List aB) (w:List ByteArray):List Run:=(fg I (secs I w) (fC (List.replicate I.length false) (dq I 0 w))).1
def hunkP (I:List aB) (K:List Bool) (r:Run):HunkP:=⟨upK I K r.fr,downK I K r.to,r.lines,eX (goneK I r)⟩
def e9 (I:List aB) (w:List ByteArray):List HunkP:=if errH I w=0 then(runsH I w).map (hunkP I (keptH I w)) else []
theorem sortL_len (l:List ay):(eX l).length=l.length:=List.length_mergeSort _
theorem checkP_zero {l:List Sec}(h:checkP l=0):dH l<=256/\badS l=false:=by
 unfold checkP at h;by_cases h1:256<dH l
 ·rw[if_pos h1] at h;cases h
 rw[if_neg h1] at h;refine⟨by omega,?_⟩
 cases e:badS l with
 |false=>rfl
 |true=>rw[e] at h;cases h
end Go.Proofs.Gr

namespace Go.Proofs.Gr
open Go.SL Go.RowKit Go.Proofs Go.GP Go.Proofs.Tryz
set_option maxHeartbeats 1000000
open Go.MyPlain
theorem OW.appW {w0:World}{P:Program}{n:Nat}{T:TT}{S:SS}{t E sz bytes m q c k:Nat}{z v:Value}{s x:PV}{A:Option Addr}{xs news:List Value}{seg:bD}(hs':s.val T=some v) (hk:S[k]? = some seg) (hv:aV E sz v m xs seg)
  (hx:x.val T=some (.slice A q c)) (hl:news.length=q*sz) (hsz:0<sz) (hrd:Rd w0 S A news) (hc:A=none->c=0) (h1:news.all (·.oneCell')=true) (hb:(m+q)*bytes<=140737488355328) (h63:m+q<=maxLen) :
  OW P w0 n (.app t E sz bytes z s x) T S (fun v' S'=>∃seg',S'=S.set k seg'/\aV E sz v' (m+q) (xs++news) seg'):=by
 cases A with
 |none=>
  obtain rfl:=hc rfl;have:news=[]:=by
   cases news with
   |nil=>rfl
   |cons b l=>obtain⟨_,e,_⟩:=hrd 0 _ rfl;cases e
  subst this;obtain rfl:q=0:=by
   rcases Nat.eq_zero_or_pos q with h|h
   ·exact h
   have:=Nat.mul_pos h hsz;simp at hl;omega
  have:=OW.of_yields (OW.app_none (P:=P) (w0:=w0) (n:=n) (t:=t) (bytes:=bytes) (z:=z) hs' hk hv hx)
  refine this.mono ?_;rintro v' S' ⟨rfl,rfl⟩;refine⟨seg,?_,by simpa using hv⟩
  obtain⟨A,R,rfl,rfl⟩:=split_at hk;exact(set_at rfl).symm
 |some a=>exact OW.app hs' hk hv hx hl (fun j u hj=>hrd.at hj) h1 hb h63
theorem run_st {w0:World}{S:SS}{P:Program}{n r:Nat}{T:TT}{x v:PV}{u:bX}{z:List Value}(hx:x.val T=some (.pointer (some ⟨r,0,none⟩))) (hv:v.val T=some (runV u)) (hz:z.length=3) :
  OW P w0 n (.st 3 x v) T ([(r,.cells z 84 3)]::S) (fun _ S'=>S'=[(r,.cells (fe u) 84 3)]::S):=by
 refine(OW.st (k:=0) (c:=z) (u:=runV u) hx hv rfl (show(runV u).cells.size=3 from rfl) (by omega) rfl).mono ?_
 rintro _ _ rfl;rw[show(runV u).cells.toList=fe u from rfl,eP (by rw[hz];rfl)]
 rfl
theorem textI_one (x:bg):cJ (b8 [x])=dT x.pl:=by simp[cJ,b8]
structure fk where
 file:ay
 up:ay
 down:ay
 G:Option Addr
 gc:Nat
 gone:List ay
 A:Option Addr
 c:Nat
 lines:List ByteArray
instance:Inhabited fk:=⟨⟨v0,v0,v0,none,0,[],none,0,[]⟩⟩
def fk.pl (x:fk):HunkP:=⟨x.up,x.down,x.lines,x.gone⟩
def chgR (x:fk):List Value:=ba x.file x.up x.down (.slice x.G x.gone.length x.gc) (.slice x.A x.lines.length x.c)
def chgS (l:List fk):List Value:=l.flatMap chgR
theorem chgR_len (x:fk):(chgR x).length=105:=cO ..
theorem chgS_app (a b:List fk):chgS (a++b)=chgS a++chgS b:=by unfold chgS;rw[List.flatMap_append]
structure ChgOk (w0:World) (j:bD) (x:fk):Prop where
 rdG:Rd w0 (j::[]) x.G (aI x.gone)
 rdL:Rd w0 (j::[]) x.A (strs x.lines)
 capG:x.gone.length<=x.gc
 nilG:x.G=none->x.gc=0
 capL:x.lines.length<=x.c
 cL:x.A=none->x.c=0
def ItemsFC (w0:World) (gp:Value) (I:List aB) (S:SS):Prop:=∀s:bD,FC prog w0 16 [gp] (s::S) (fun v S'=>∃aC seg aH,S'=seg::aH::s::S/\aC.map bg.pl=I/\aV 75 3 v aC.length (bl aC) seg/\∀x∈aC,dP w0 aH x)
theorem FC.subP {w0:World}{P:Program}{k:FuncId}{args:List Value}{S:SS}{post:Value->SS->Prop}(h:FC P w0 k args S (fun v S'=>∃S'',Sub S'' S'/\post v S'')):FC P w0 k args S post:=by
 intro w hw;refine(h w hw).mono ?_;rintro e w' ⟨v,S',e1,hr,S'',hs,hp⟩;exact⟨v,S'',e1,hr.bZ hs,hp⟩
theorem gs_k {a:dV}{s t u:bD}{S:SS}:Sub (t::u::s::(GS a++S)) (t::u::(GS a++(s::S))):=Sub.ec [0,1,6,2,3,4,5] 7 (by decide) (t::u::(GS a++(s::S)))
theorem itemsFC_gg {w0:World}{S X:SS}{m:dV}{ps:List ar}(h:GG w0 X m ps) (hX:Over X S) (hn:(bh ps).length<=60000):ItemsFC w0 m.ptr (b7 ps) (GS m++S):=by
 intro s;refine FC.subP (FC.bZ gs_a ((items_fc (S:=s::S) h hX.cons hn).mono ?_));rintro v _ ⟨aC,seg,aH,rfl,h1,h2,h3,_⟩;exact⟨_,gs_k,aC,seg,aH,rfl,h1,h2,h3⟩
theorem hunks_fc {w0:World}{S:SS}{gp:Value}{I:List aB}{file:ay}{W:Option Addr}{cw:Nat}{w:List ByteArray}(HI:ItemsFC w0 gp I S) (hn:I.length<=1000) (hsol:∀x∈I,x.block=false->0<x.lines.length) (hw:Rd w0 S W (strs w)) (hwc:w.length<=cw) (hwl:w.length<=100000) (hz:∀s∈w,s.size<=1000000000000000) :
  FC prog w0 9 [aP file,gp,.slice W w.length cw] S (fun u S'=>∃v hs sg aH,u=.tuple #[v,.int .i64 (errH I w)]/\S'=sg::aH::S/\aV 46 105 v hs.length (chgS hs) sg/\(∀x∈hs,ChgOk w0 aH x/\x.file=file)/\hs.map fk.pl=e9 I w):=by
 refine FC.ofD known9 (by simp) ?_
 unfold pc9;simp only[bo];refine PW.ae (OL.c (OW.bx rfl) ?_);rintro _ _ ⟨r3,rfl,rfl⟩;rw[bB,aa];refine OL.n2 rfl rfl (PW.k4 1 2 3 6 rfl (PW.ae (OL.dp rfl (OL.l rfl (HI _) ?_))));rintro v21 _ ⟨aC,sgI,jI,rfl,rfl,hsI,hokI⟩;rw[List.length_map] at hn;obtain⟨Ai,ci,rfl,hnI,hcI,hrI⟩:=aF (w0:=w0) hsI;refine OL.x (Yields.build (cs:=[.slice Ai aC.length ci,(.slice none 0 0),(.slice none 0 0)]) rfl) (OL.c (OW.bx rfl) ?_);rintro _ _ ⟨r23,rfl,rfl⟩;change OL _ _ _ _ _ ([(r23,.cells [.slice Ai aC.length ci,(.slice none 0 0),(.slice none 0 0)] 71 3)]::sgI::jI::[(r3,.cells (au file) 27 33)]::S) _;refine OL.n1 rfl (PW.k4 2 3 6 8 rfl (PW.ae (OL.p2 rfl rfl (OL.x (Yields.cF rfl) (OL.dp rfl (OL.x (Yields.ld rfl (az (j:=0) (c:=[.slice Ai aC.length ci,(.slice none 0 0),(.slice none 0 0)]) (E:=71) (tot:=3) bF rfl)) (OL.dp rfl ?_)))))));refine OL.c (OW.mkS_full (m:=aC.length) rfl rfl (by omega) (by unfold maxLen;omega)) ?_
 rintro _ _ ⟨r30,rfl,rfl⟩;rw[made1 _ rfl];refine OL.x (Yields.cF rfl) (OL.dp rfl (OL.c (OW.st (k:=1) rfl rfl rfl rfl (Nat.le_refl 3) rfl) ?_));rintro _ _ rfl;refine OL.nil (PW.k4 2 3 6 8 rfl (PW.seq fun K1 hK1=>PW.ae (OL.bZ (S':=[(r23,.cells [.slice Ai aC.length ci,(.slice none 0 0),(.slice (some ⟨r30,0,none⟩) aC.length aC.length)] 71 3)]::[]::[]::[(r30,.cells (List.replicate aC.length (.bool false)) 4 (aC.length*1))]::sgI::jI::[(r3,.cells (au file) 27 33)]::S) ((Sub.cons (Sub.cL (Sub.cL (Sub.refl _)))).trans (Sub.ec [1,0,2,3,4] 5 (by decide) ([(r30,.cells (List.replicate aC.length (.bool false)) 4 (aC.length*1))]::[(r23,.cells [.slice Ai aC.length ci,(.slice none 0 0),(.slice (some ⟨r30,0,none⟩) aC.length aC.length)] 71 3)]::sgI::jI::[(r3,.cells (au file) 27 33)]::S))) (OL.dp rfl (OL.x (Yields.cF rfl) (OL.dp rfl (OL.x (Yields.ld rfl (az (j:=0) (c:=[.slice Ai aC.length ci,(.slice none 0 0),(.slice (some ⟨r30,0,none⟩) aC.length aC.length)]) (E:=71) (tot:=3) bF rfl)) (OL.n2 rfl rfl ?_))))))))
 refine PW.k7 2 3 6 8 36 37 38 rfl (PW.block (PW.k7 2 3 6 8 36 37 38 rfl ?_));refine PW.aR (I:=fun mm T S'=>∃(k:Nat) (tm:List TM) (v:Value) (tg tj:bD),(k<=aC.length/\mm=aC.length-k/\tm.length=k/\tm.map (·.l)=(aC.take k).map (fun x=>dT x.pl)/\aV 23 1 v tm.length (tolds tm) tg/\∀t∈tm,Rd w0 (tj::[]) t.A (strs t.l)/\t.l.length<=t.c/\t.l.length<=1000000)/\T=([(2,.slice W w.length cw),(3,.pointer (some ⟨r3,0,none⟩)),(6,.slice none 0 0),(8,.pointer (some ⟨r23,0,none⟩)),(36,.slice Ai aC.length ci),(37,.int .i64 (aC.length:Int)),(38,.int .i64 (k:Int))]:TT)/\S'=[(r23,.cells [.slice Ai aC.length ci,v,(.slice (some ⟨r30,0,none⟩) aC.length aC.length)] 71 3)]::tg::tj::[(r30,.cells (List.replicate aC.length (.bool false)) 4 (aC.length*1))]::sgI::jI::[(r3,.cells (au file) 27 33)]::S) (m:=aC.length) ⟨0,[],_,[],[],⟨by omega,by omega,rfl,rfl,aV.nil 23 1,by simp⟩,rfl,rfl⟩ ?_
 rintro mm _ _ ⟨k,tm,v,tg,tj,⟨hkL,hmm,htl,htm,htg,htr⟩,rfl,rfl⟩;refine PW.s1 rfl (PW.k8 2 3 6 8 36 37 38 39 rfl (PW.seq fun K2 hK2=>?_))
 refine PW.cond rfl (fun c39=>?_) (fun c39=>?_)
 ·try simp only[aD] at c39
  have hkl:k<aC.length:=by omega
  obtain⟨a0,rfl⟩:=cA (hrI []) (by omega)
  have hol:=oneT_len aC[k].pl
  refine PW.skip (hK2 _ _ (PW.k7 2 3 6 8 36 37 38 rfl (PW.seq fun K3 hK3=>PW.block (PW.ae (OL.x (Yields.bO rfl rfl rfl hkl) (OL.x (Yields.aT rfl (cU _) (bz (br (hrI []) (by simp)) hkl)) (OL.c OW.al ?_)))))))
  rintro _ _ ⟨r10,rfl,rfl⟩;refine OL.c (item_st rfl rfl rfl) ?_;rintro _ _ rfl;refine OL.nil (PW.k8 2 3 6 8 10 36 37 38 rfl ?_);refine PW.dy (Ss:=Over ([(r10,.cells (bA aC[k]) 75 3)]::[(r23,.cells [.slice (some a0) aC.length ci,v,(.slice (some ⟨r30,0,none⟩) aC.length aC.length)] 71 3)]::tg::tj::[(r30,.cells (List.replicate aC.length (.bool false)) 4 (aC.length*1))]::sgI::jI::[(r3,.cells (au file) 27 33)]::S)) (fr:=false) [(0,0),(1,0),(2,0),(3,0),(4,0),(5,0),(6,2),(7,2),(8,2)] mixed (by decide +kernel) (Over.refl _) (fun h=>by cases h) ?_
  refine GL.dp rfl ?_;refine GL.dp rfl ?_;refine GL.ak trivial (fun Sx hSx=>Yields.cF rfl) ?_
  refine GL.dp rfl ?_;refine GL.ak trivial (fun Sx hSx=>Yields.ld rfl (az (j:=1) (c:=[.slice (some a0) aC.length ci,v,(.slice (some ⟨r30,0,none⟩) aC.length aC.length)]) (E:=71) (tot:=3) (hSx _ dm) rfl)) ?_
  refine GL.ak trivial (fun Sx hSx=>Yields.aT rfl (cU _) (av (c:=bA aC[k]) (E:=75) (tot:=3) (hSx _ bF))) ?_
  refine GL.lo trivial (OW.mono (OW.fl (cs:=bA aC[k]) rfl) ?_);rintro _ _ ⟨r48,rfl,rfl⟩;rw[cU];refine⟨(Over.refl _).cons,?_⟩;refine GL.lo trivial (OW.mono (OW.call rfl (textI_fc (l:=[aC[k]]) (by rw[show bl [aC[k]] = bA aC[k] from List.append_nil _];exact Rd.own (E:=75) (tot:=3) bF) (fun y hy=>by rw[List.mem_singleton.1 hy];exact(hokI _ (List.getElem_mem hkl)).rd (by simp)) (by simp))) ?_)
  rintro v49 _ ⟨sgT,rfl,hsT,hlT⟩;rw[textI_one] at hsT hlT;obtain⟨AT,cT,rfl,hnT,hcT,hrT⟩:=aF (w0:=w0) hsT;refine⟨(Over.refl _).cons.cons,?_⟩;refine GL.lo trivial (OW.mono (OW.fl (cs:=[.slice AT (dT aC[k].pl).length cT]) rfl) ?_);rintro _ _ ⟨r50,rfl,rfl⟩;refine⟨(Over.refl _).cons.cons.cons,?_⟩;change OL _ _ _ [_,_,_,_] _ _ _;refine OL.c (OW.app (k:=5) rfl rfl htg rfl (news:=[.slice AT (dT aC[k].pl).length cT]) rfl (fun j u hj=>(Rd.own (xs:=[.slice AT (dT aC[k].pl).length cT]) (E:=23) (tot:=1) bF).at hj) rfl (by omega) (by unfold maxLen;omega)) ?_
  rintro v51 _ ⟨seg51,rfl,hsl51⟩;have h51:aV 23 1 v51 (tm++[(⟨AT,cT,dT aC[k].pl⟩:TM)]).length (tolds (tm++[(⟨AT,cT,dT aC[k].pl⟩:TM)])) seg51:=by simpa[tolds,toldC] using hsl51
  obtain⟨A9,c9,rfl,-,-,-⟩:=aF (w0:=w0) h51;refine OL.x (Yields.cF rfl) (OL.dp rfl (OL.c (OW.st (k:=4) rfl rfl rfl rfl (Nat.le_succ 2) rfl) ?_));rintro _ _ rfl;refine OL.nil (hK3 _ _ (PW.k7 2 3 6 8 36 37 38 rfl (PW.ops (OL.x (Yields.ao rfl rfl (by omega) (by omega)) (OL.n1 rfl ?_)))))
  refine af.dE ((Sub.cons (Sub.cons Sub.join)).trans (Sub.ec [4,5,1,6] 7 (by decide) _)) (T'':=[(2,_),(3,_),(6,_),(8,_),(36,_),(37,_),(38,_)]) (wi rfl) ?_
  refine⟨aC.length-(k+1),by omega,k+1,(tm++[(⟨AT,cT,dT aC[k].pl⟩:TM)]),.slice A9 (tm++[(⟨AT,cT,dT aC[k].pl⟩:TM)]).length c9,seg51,sgT++tj,⟨by omega,rfl,by rw[List.length_append,List.length_singleton,htl],by rw[List.map_append,htm,aA hkl,List.map_append];rfl,h51,?_⟩,rfl,?_⟩
  ·intro t ht;rcases List.mem_append.1 ht with h1|h1
   ·exact⟨(htr t h1).1.mono fun p hp=>by simp at hp ⊢;exact .inr hp,(htr t h1).2⟩
   rw[List.mem_singleton.1 h1];exact⟨(hrT []).mono fun p hp=>by simp at hp ⊢;exact .inl hp,hcT,by have:=oneT_len aC[k].pl;have h2:=(hokI _ (List.getElem_mem hkl)).nL;show(dT aC[k].pl).length<=_;rw[show aC[k].pl.lines=aC[k].lines from rfl] at this;omega⟩
  rfl
 try simp only[aD] at c39
 refine PW.exit (hK1 _ _ (PW.k4 2 3 6 8 rfl (PW.ae ?_)));have hke:k=aC.length:=by omega
 have htl2:tm.length=aC.length:=by omega
 obtain⟨At,ct,rfl,hnt,hct,hrt⟩:=aF (w0:=w0) htg;obtain⟨c,e1,e2,e3,e4,e5,e6,e7,e8⟩:∃c:ChM,c.r=r23/\c.aC=aC/\c.Ai=Ai/\c.ci=ci/\c.tm=tm/\c.At=At/\c.ct=ct/\c.rk=r30:=⟨⟨r23,aC,Ai,ci,tm,At,ct,r30⟩,rfl,rfl,rfl,rfl,rfl,rfl,rfl,rfl⟩;subst e1 e2 e3 e4 e5 e6 e7 e8;rw[hke,List.take_length] at htm;have hOK:ChOK w0 (cseg c::tg::tj::sgI::jI::[(r3,.cells (au file) 27 33)]::S) c:=⟨br (hrI []) (by simp),fun x hx=>(hokI x hx).rd (by simp),br (hrt []) (by simp[cseg]),by rw[htm];unfold ChM.I;rw[List.map_map];rfl,fun t ht=>⟨br (htr t ht).1 (by simp),(htr t ht).2⟩,hn,hcI,fun x hx hb=>hsol x.pl (List.mem_map_of_mem hx) hb⟩
 have hCo:Over [cseg c] (cseg c::tg::tj::sgI::jI::[(r3,.cells (au file) 27 33)]::S):=Over.hd _ _
 rw[show List.replicate c.aC.length (Value.bool false)=(List.replicate c.aC.length false).map Value.bool from(List.map_replicate ..).symm]
 rw[show(Value.slice c.At c.tm.length c.ct)=_ from rfl]
 refine OL.bZ (S':=eg c (List.replicate c.aC.length false)::cseg c::tg::tj::sgI::jI::[(r3,.cells (au file) 27 33)]::S) (Sub.ec [3,0,1,2,4,5,6] 7 (by decide) (cseg c::tg::tj::eg c (List.replicate c.aC.length false)::sgI::jI::[(r3,.cells (au file) 27 33)]::S)) (OL.p2 rfl rfl (OL.l rfl (sections_fc (K:=List.replicate c.aC.length false) hOK hCo (List.length_replicate ..) (hw.mono (Over.refl _).cons.cons.cons.cons.cons.cons) hwc hwl) ?_))
 rintro v57 _ ⟨l,sgS,jS,rfl,hsS,hrS,hls,hll⟩;obtain⟨AS,cS,rfl,hnS,hcS,hrdS⟩:=aF (w0:=w0) hsS;have hsx:∀x∈l,eA x∈secs c.I w:=fun x hx=>hls▸List.mem_map_of_mem hx
 refine OL.n1 rfl (PW.k4 3 6 8 11 rfl (PW.seq fun K4 hK4=>PW.ae (OL.dp rfl ?_)))
 refine OL.q rfl (check_fc (l:=l) (hrdS _) (fun x hx=>br (hrS x hx).rd (by simp)) (fun x hx s hs=>hz s ((secs_ok (hsx x hx)).2.2 s hs)) (fun x hx=>Nat.le_trans (secs_ok (hsx x hx)).2.1 (by omega)) (by omega)) ?_
 rw[hls];refine OL.n1 rfl (PW.k5 3 6 8 11 12 rfl (PW.s2 rfl rfl (PW.k6 3 6 8 11 12 61 rfl ?_)));refine PW.cond rfl (fun c61=>?_) (fun c61=>?_)
 ·try simp only[aD] at c61
  exact PW.s3 rfl rfl rfl (PW.k2 6 7 rfl (PW.ret (zR rfl ⟨_,Sub.cL (Sub.cL (Sub.drop (Sub.drop (Sub.drop (Sub.drop (Sub.drop (Sub.drop (Sub.drop (Sub.drop (Sub.drop (Sub.refl _))))))))))),_,[],[],[],rfl,rfl,aV.nil 46 105,by simp,by show _=e9 c.I w;unfold e9;rw[if_neg (show ¬errH c.I w=0 from c61)];rfl⟩)))
 try simp only[aD] at c61
 have hE:errH c.I w=0:=c61
 obtain⟨hmany,hbad⟩:=checkP_zero hE;obtain⟨K1,hK1⟩:∃z,z=fC (List.replicate c.aC.length false) (dq c.I 0 w):=⟨_,rfl⟩;have hK1l:K1.length=c.aC.length:=by rw[hK1,keepT_len,List.length_replicate]
 rw[<- hK1];refine PW.skip (hK4 _ _ (PW.k4 3 6 8 11 rfl (PW.s1 rfl (PW.k5 3 6 8 11 13 rfl (PW.seq fun K5 hK5=>PW.ae (OL.bZ (S':=[]::[]::eg c K1::sgS::jS::cseg c::tg::tj::sgI::jI::[(r3,.cells (au file) 27 33)]::S) ((Sub.cL (Sub.cL (Sub.refl _))).trans (Sub.ec [2,0,1] 3 (by decide) (sgS::jS::eg c K1::cseg c::tg::tj::sgI::jI::[(r3,.cells (au file) 27 33)]::S))) (OL.p2 rfl rfl ?_)))))))
 refine OL.n1 rfl (PW.k7 3 6 8 13 63 64 65 rfl (PW.block (PW.k7 3 6 8 13 63 64 65 rfl ?_)));refine PW.aR (I:=fun mm T S'=>∃(k:Nat) (va:Value) (rs:List bX) (ag aj:bD) (Kk:List Bool),(k<=l.length/\mm=l.length-k/\aV 84 3 va rs.length (cZ rs) ag/\(∀x∈rs,RunOk w0 aj x)/\rs.map bX.pl=(fg c.I ((l.take k).map eA) K1).1/\Kk=(fg c.I ((l.take k).map eA) K1).2/\rs.length<=2000*k)/\T=([(3,.pointer (some ⟨r3,0,none⟩)),(6,.slice none 0 0),(8,c.ptr),(13,va),(63,.slice AS l.length cS),(64,.int .i64 (l.length:Int)),(65,.int .i64 (k:Int))]:TT)/\S'=ag::aj::eg c Kk::sgS::jS::cseg c::tg::tj::sgI::jI::[(r3,.cells (au file) 27 33)]::S) (m:=l.length) ⟨0,_,[],[],[],K1,⟨by omega,by omega,aV.nil 84 3,by simp,rfl,rfl,Nat.zero_le _⟩,rfl,rfl⟩ ?_
 rintro mm _ _ ⟨k,va,rs,ag,aj,Kk,⟨hkL,hmm,hag,hro,hpm,hKk,hrb⟩,rfl,rfl⟩;refine PW.s1 rfl (PW.k8 3 6 8 13 63 64 65 66 rfl (PW.seq fun K6 hK6=>?_))
 refine PW.cond rfl (fun c66=>?_) (fun c66=>?_)
 ·try simp only[aD] at c66
  have hkl:k<l.length:=by omega
  obtain⟨a1,rfl⟩:=runsS_some (hrdS []) (by omega)
  have hso:=secs_ok (hsx _ (List.getElem_mem hkl))
  have hsm:(eA l[k]).lines.length<=1000:=by have:=sec_many (hsx _ (List.getElem_mem hkl));omega
  refine PW.skip (hK6 _ _ (PW.k7 3 6 8 13 63 64 65 rfl (PW.seq fun K7 hK7=>PW.block (PW.ae (OL.x (Yields.bO rfl rfl rfl hkl) (OL.x (Yields.aT rfl rfl (run_at (br (hrdS []) (by simp)) hkl)) (OL.c OW.al ?_)))))))
  rintro _ _ ⟨r15,rfl,rfl⟩;refine OL.c (sec_st (s:=eA l[k]) (A:=l[k].A) (c:=l[k].c) rfl rfl rfl) ?_;rintro _ _ rfl;refine OL.nil (PW.k8 3 6 8 13 15 63 64 65 rfl (PW.ae (OL.bZ (S':=eg c Kk::sseg r15 (eA l[k]) l[k].A l[k].c::ag::aj::sgS::jS::cseg c::tg::tj::sgI::jI::[(r3,.cells (au file) 27 33)]::S) (Sub.ec [3,0,1,2,4,5] 6 (by decide) (sseg r15 (eA l[k]) l[k].A l[k].c::ag::aj::eg c Kk::sgS::jS::cseg c::tg::tj::sgI::jI::[(r3,.cells (au file) 27 33)]::S)) (OL.dp rfl (OL.x (Yields.aT rfl rfl (av (c:=secC (eA l[k]) l[k].A l[k].c) (E:=81) (tot:=3) dm)) ?_)))))
  refine OL.l rfl (runs_fc (s:=eA l[k]) (K:=Kk) (hOK.mono (Over.refl _).cons.cons.cons.cons.cons) (fun q hq=>hCo.cons.cons.cons.cons.cons q hq) (by rw[hKk,allR_len];exact hK1l) hso.1.1 (by rw[<- c.I_len];exact hso.1.2) (br (hrS _ (List.getElem_mem hkl)).rd (by simp)) hsm) ?_
  rintro v72 _ ⟨vr,rs2,sr,jr,rfl,rfl,hsr,hrr,hpr,hrl⟩;obtain⟨Ar,cr,rfl,hnr,hcr,hrdr⟩:=aF (w0:=w0) hsr;refine OL.p4 rfl rfl rfl rfl (OL.n1 rfl (PW.k9 3 6 8 13 16 17 63 64 65 rfl (PW.seq fun K8 hK8=>PW.ae (OL.dp rfl (OL.x (Yields.to (v':=.bool false) (Yields.pure rfl) rfl) (OL.nil ?_))))))
  refine PW.k10 3 6 8 13 16 17 63 64 65 76 rfl (PW.ite (b:=false) rfl ?_);rw[if_neg Bool.false_ne_true];refine PW.skip (hK8 _ _ (PW.k8 3 6 8 13 16 63 64 65 rfl (PW.ops (OL.p2 rfl rfl ?_))));refine OL.c (OW.appW (k:=4) rfl rfl hag rfl (cQ rs2) (by decide) (br (hrdr []) (by simp)) hnr (runsS_one rs2) (by omega) (by unfold maxLen;omega)) ?_
  rintro v80 _ ⟨ag2,rfl,hag2⟩;refine OL.n1 rfl (hK7 _ _ (PW.k7 3 6 8 13 63 64 65 rfl (PW.ops (OL.x (Yields.ao rfl rfl (by omega) (by omega)) (OL.n1 rfl ?_)))))
  refine af.dE ((Sub.cons Sub.join).trans (Sub.ec [4,1,5,2,6,7] 8 (by decide) _)) (T'':=[(3,_),(6,_),(8,_),(13,_),(63,_),(64,_),(65,_)]) (wi rfl) ?_
  have hsn:=allR_snoc c.I ((l.take k).map eA) (eA l[k]) K1
  have hmp:(l.take (k+1)).map eA=(l.take k).map eA++[eA l[k]]:=by rw[aA hkl,List.map_append];rfl
  rw[<- hmp,<- hKk] at hsn;refine⟨l.length-(k+1),by omega,k+1,v80,rs++rs2,ag2,jr++aj,(fb c.I (eA l[k]) Kk).K,⟨by omega,rfl,by rw[ev,List.length_append];exact hag2,?_,by rw[List.map_append,hpm,hpr,hsn],by rw[hsn],by rw[List.length_append];omega⟩,rfl,rfl⟩
  intro x hx;rcases List.mem_append.1 hx with h1|h1
  ·exact(hro x h1).more fun p hp=>List.mem_append_right _ hp
  exact(hrr x h1).more fun p hp=>List.mem_append_left _ hp
 try simp only[aD] at c66
 refine PW.exit (hK5 _ _ (PW.k4 3 6 8 13 rfl (PW.seq fun K9 hK9=>PW.ae ?_)))
 have hke:k=l.length:=by omega
 rw[hke,List.take_length,hls] at hpm hKk;have hKK:Kk=keptH c.I w:=by rw[hKk,hK1];unfold keptH;rw[c.I_len]
 have hrsH:rs.map bX.pl=runsH c.I w:=by rw[hpm,hK1];unfold runsH;rw[c.I_len]
 have hKl:Kk.length=c.aC.length:=by rw[hKk,allR_len];exact hK1l
 have hrin:∀r∈runsH c.I w,r.fr<=r.to/\r.to<=c.I.length:=allR_in _ _ (fun s hs=>(secs_ok hs).1)
 obtain⟨Aa,ca,rfl,hna,hca,hrda⟩:=aF (w0:=w0) hag;refine OL.bZ (S':=[]::[]::ag::aj::eg c Kk::sgS::jS::cseg c::tg::tj::sgI::jI::[(r3,.cells (au file) 27 33)]::S) (Sub.cL (Sub.cL (Sub.refl _))) (OL.n3 rfl rfl rfl (PW.k6 3 6 8 82 83 84 rfl (PW.block (PW.k6 3 6 8 82 83 84 rfl ?_))));refine PW.aR (I:=fun mm T S'=>∃(k:Nat) (vo:Value) (hs:List fk) (og oj:bD),(k<=rs.length/\mm=rs.length-k/\aV 46 105 vo hs.length (chgS hs) og/\(∀x∈hs,Rd w0 (oj::[]) x.G (aI x.gone)/\x.gone.length<=x.gc/\((x.G=none->x.gc=0)/\RunOk w0 aj ⟨0,0,x.A,x.c,x.lines⟩)/\x.file=file)/\hs.map fk.pl=((rs.take k).map bX.pl).map (hunkP c.I Kk)/\hs.length=k)/\T=([(3,.pointer (some ⟨r3,0,none⟩)),(6,vo),(8,c.ptr),(82,.slice Aa rs.length ca),(83,.int .i64 (rs.length:Int)),(84,.int .i64 (k:Int))]:TT)/\S'=og::oj::ag::aj::eg c Kk::sgS::jS::cseg c::tg::tj::sgI::jI::[(r3,.cells (au file) 27 33)]::S) (m:=rs.length) ⟨0,_,[],[],[],⟨by omega,by omega,aV.nil 46 105,by simp,rfl,rfl⟩,rfl,rfl⟩ ?_
 rintro mm _ _ ⟨k,vo,hs,og,oj,⟨hkL,hmm,hog,hho,hpm2,hhl⟩,rfl,rfl⟩;refine PW.s1 rfl (PW.k7 3 6 8 82 83 84 85 rfl (PW.seq fun K10 hK10=>?_))
 refine PW.cond rfl (fun c85=>?_) (fun c85=>?_)
 ·try simp only[aD] at c85
  have hkl:k<rs.length:=by omega
  obtain⟨a2,rfl⟩:=runsS_some (hrda []) (by omega)
  have hrf:rs[k].fr<=rs[k].to/\rs[k].to<=c.aC.length:=by
   have:=hrin rs[k].pl (by rw[<- hrsH];exact List.mem_map_of_mem (List.getElem_mem hkl))
   rw[c.I_len] at this;exact this
  refine PW.skip (hK10 _ _ (PW.k6 3 6 8 82 83 84 rfl (PW.seq fun K11 hK11=>PW.block (PW.ae (OL.x (Yields.bO rfl rfl rfl hkl) (OL.x (Yields.aT rfl rfl (run_at (br (hrda []) (by simp)) hkl)) (OL.c OW.al ?_)))))))
  rintro _ _ ⟨r19,rfl,rfl⟩;refine OL.c (run_st (u:=rs[k]) rfl rfl rfl) ?_;rintro _ _ rfl;refine OL.nil (PW.k7 3 6 8 19 82 83 84 rfl (PW.ops (OL.p2 rfl rfl (OL.x (Yields.aT rfl (aa _) (av zM13)) (OL.x (Yields.aT rfl rfl (av (c:=fe rs[k]) (E:=84) (tot:=3) bF)) (OL.l rfl (hunk_fc (x:=rs[k]) (K:=Kk) (hOK.mono (Over.refl _).cons.cons.cons.cons.cons.cons.cons.cons) (by simp) (by simp) hKl hrf.1 hrf.2) ?_))))))
  rintro v92 _ ⟨G,ng,cg,sgh,rfl,rfl,rfl,hsh⟩;apply OL.bV (k:=2)
  ·rfl
  ·rfl
  ·exact(List.size_toArray).trans (cO ..)
  ·rfl
  ·rfl
  ·rfl
  ·exact hog
  ·exact chgC_one ..
  ·omega
  ·unfold maxLen;omega
  intro v94 og2 hog2;refine OL.n1 rfl (hK11 _ _ (PW.k6 3 6 8 82 83 84 rfl (PW.ops (OL.x (Yields.ao rfl rfl (by omega) (by omega)) (OL.n1 rfl ?_)))))
  refine af.dE ((Sub.cons Sub.join).trans (Sub.ec [2,0,3] 4 (by decide) _)) (T'':=[(3,_),(6,_),(8,_),(82,_),(83,_),(84,_)]) (wi rfl) ?_
  have hmp:((rs.take (k+1)).map bX.pl).map (hunkP c.I Kk)=((rs.take k).map bX.pl).map (hunkP c.I Kk)++[hunkP c.I Kk rs[k].pl]:=by rw[aA hkl,List.map_append,List.map_append];rfl
  obtain⟨Ah,ch,eh,hnh,hch,hrh⟩:=aF (w0:=w0) hsh;simp only[Value.slice.injEq] at eh;obtain⟨rfl,_,rfl⟩:=eh;refine⟨rs.length-(k+1),by omega,k+1,v94,hs++[(⟨file,upK c.I Kk rs[k].fr,downK c.I Kk rs[k].to,G,cg,eX (goneK c.I rs[k].pl),rs[k].A,rs[k].c,rs[k].lines⟩:fk)],og2,sgh++oj,⟨by omega,rfl,?_,?_,by rw[List.map_append,hpm2,hmp];rfl,by rw[List.length_append,List.length_singleton,hhl]⟩,rfl,rfl⟩
  ·rw[chgS_app,List.length_append]
   show aV 46 105 v94 (hs.length+1) (chgS hs++(ba file _ _ (.slice G (eX (goneK c.I rs[k].pl)).length cg) _++[])) og2
   rw[sortL_len,List.append_nil];exact hog2
  intro y hy;rcases List.mem_append.1 hy with h1|h1
  ·obtain⟨a1,a2,a3,a4⟩:=hho y h1;exact⟨a1.mono fun p hp=>by simp at hp ⊢;exact .inr hp,a2,a3,a4⟩
  rw[List.mem_singleton.1 h1];exact⟨(hrh []).mono fun p hp=>by simp at hp ⊢;exact .inl hp,by show(eX (goneK c.I rs[k].pl)).length<=cg;rw[sortL_len];exact hch,⟨hnh,⟨(hro rs[k] (List.getElem_mem hkl)).rd,(hro rs[k] (List.getElem_mem hkl)).cap,(hro rs[k] (List.getElem_mem hkl)).nil⟩⟩,rfl⟩
 try simp only[aD] at c85
 refine PW.exit (hK9 _ _ (PW.k1 6 rfl (PW.s3 rfl rfl rfl (PW.k2 6 7 rfl ?_))));refine PW.ret (zR rfl ?_);have hke:k=rs.length:=by omega
 rw[hke,List.take_length,hrsH,hKK] at hpm2;refine⟨_,(Sub.cons Sub.join).trans (Sub.ec [0,1,3] 13 (by decide) (og::oj::ag::aj::eg c Kk::sgS::jS::cseg c::tg::tj::sgI::jI::[(r3,.cells (au file) 27 33)]::S)),_,hs,og,oj++aj,by rw[show errH (c.aC.map bg.pl) w=0 from hE],rfl,hog,?_,by rw[hpm2];show _=e9 c.I w;unfold e9;rw[if_pos hE]⟩
 intro x hx;obtain⟨a1,a2,⟨a3,a4⟩,a5⟩:=hho x hx;exact⟨⟨a1.mono fun p hp=>by simp at hp ⊢;exact .inl hp,a4.rd.mono fun p hp=>by simp at hp ⊢;exact .inr hp,a2,a3,a4.cap,a4.nil⟩,a5⟩
end Go.Proofs.Gr

namespace Go.Proofs.Gr
open Go.SL Go.RowKit Go.Proofs Go.GP Go.Proofs.Tryz
set_option maxHeartbeats 1000000
structure SmallC (l:List aN):Prop where
 len:l.length<=12
 part:∀x∈l,x.lines.length<=10/\x.gone.length<=12/\x.first<=1000000
structure SmallW (w:List ByteArray):Prop where
 len:w.length<=300
 mid:w.length<=120∨256<w.length
 size:∀s∈w,s.size<=20000
theorem PartsIn.bG {w0:World}{A:Option Addr}{l:List aN}(h:PartsIn w0 A l) (hs:SmallC l) {k:Nat}(hk:k<l.length):PartB w0 l[k]:=by
 have h1:=h.part _ (List.getElem_mem hk)
 obtain⟨h2,h3,h4⟩:=hs.part _ (List.getElem_mem hk);exact⟨h1.rdL,h1.rdG,h1.rng (by omega) (by omega) (by omega),⟨by omega,by omega⟩,h1.text⟩
theorem PW.seqSP {P:Program}{w0:World}{n:Nat}{T:TT}{S:SS}{x y:PC}{Q:Exit->TT->SS->Prop}{H:Prop}(T0:TT) (S0:SS) (tail:H->PW P w0 n y T0 S0 Q)
  (h:∀K:TT->SS->Prop,(H->∀T' S',Within T0 T'->S'=S0->K T' S')->PW P w0 n x T S (thenK K Q)):PW P w0 n (.seq x y) T S Q:=
 PW.seq fun K hK=>h K fun hH T' S' hW hS=>hK T' S' (PW.cD hW (hS▸tail hH))
def sizeT (w:List ByteArray):Nat:=(w.map ByteArray.size).sum
theorem sizeT_mem:∀{w:List ByteArray}{s:ByteArray},s∈w->s.size<=sizeT w
 |t::w,s,h=>by
  have e:sizeT (t::w)=t.size+sizeT w:=by unfold sizeT;rw[List.map_cons,List.sum_cons]
  rcases List.mem_cons.1 h with rfl|h
  ·omega
  have:=sizeT_mem h;omega
theorem ew {l:List aN}{w:List ByteArray}{j:Nat}(hH:l.length<=12->∀x∈l,x.lines.length<=10/\x.gone.length<=12/\x.first<=1000000) (h1:l.length<=12) (h2:¬((sizeT (w.take j):Nat):Int) > 20000) (h3:w.length<=j) (h4:w.length<=300) (h5:w.length<=120∨256<w.length):SmallC l/\SmallW w:=by
 rw[List.take_of_length_le h3] at h2;exact⟨⟨h1,hH h1⟩,⟨h4,h5,fun s hs=>by have:=sizeT_mem hs;omega⟩⟩
theorem sizeT_snoc {w:List ByteArray}{k:Nat}(hk:k<w.length):sizeT (w.take (k+1))=sizeT (w.take k)+w[k].size:=by
 unfold sizeT;rw[aA hk,List.map_append,List.sum_append];simp
theorem sizeT_le {w:List ByteArray}{b:Nat}(h:∀s∈w,s.size<=b):sizeT w<=b*w.length:=by
 induction w with
 |nil=>simp[sizeT]
 |cons s w ih=>
  have h1:=h s (by simp)
  have h2:=ih (fun x hx=>h x (List.mem_cons_of_mem _ hx))
  have e:sizeT (s::w)=s.size+sizeT w:=by unfold sizeT;rw[List.map_cons,List.sum_cons]
  rw[e,List.length_cons,Nat.mul_succ];omega
theorem large_fc {w0:World}{S:SS}{A W:Option Addr}{c cw:Nat}{l:List aN}{w:List ByteArray}(h:PartsIn w0 A l) (hw:Rd w0 S W (strs w)) (hwl:w.length<=1000000000000000) (hws:∀s∈w,s.size<=140737488351232) :
  FC prog w0 6 [.slice A l.length c,.slice W w.length cw] S (fun v S'=>∃b,v=.bool b/\S'=S/\(b=false->SmallC l/\SmallW w)):=by
 have hlen:=h.len
 refine FC.ofD known6 (by simp) ?_
 unfold pc6;simp only[bo];refine PW.s1 rfl (PW.k2 0 1 rfl (PW.s1 rfl (PW.k3 0 1 5 rfl ?_)));refine PW.seqSP (H:=l.length<=12->∀x∈l,x.lines.length<=10/\x.gone.length<=12/\x.first<=1000000) [(0,.slice A l.length c),(1,.slice W w.length cw),(5,.int .i64 0)] (S) (fun hH=>?_) fun K1 hK1=>?_
 ·skip;refine PW.seq fun K2 hK2=>PW.s1 rfl (PW.k4 0 1 5 7 rfl (PW.block (PW.k4 0 1 5 7 rfl ?_)))
  refine PW.aR (I:=fun mj T S'=>∃j:Nat,(j<=w.length/\j<=300/\mj=w.length-j)/\T=([(0,.slice A l.length c),(1,.slice W w.length cw),(5,.int .i64 (sizeT (w.take j):Int)),(7,.int .i64 j)]:TT)/\S'=S) (m:=w.length) ⟨0,⟨by omega,by omega,by omega⟩,rfl,rfl⟩ ?_
  rintro mj _ _ ⟨j,⟨hj,hj300,hmj⟩,rfl,rfl⟩;refine PW.seq fun K3 hK3=>PW.ae (OL.p4 rfl rfl rfl rfl ?_)
  refine OL.bool trivial (Yields.pure rfl) (fun g46=>?_) (fun g46=>?_)
  ·try simp only[aD] at g46
   refine OL.ak rfl (.pure rfl) (OL.ak rfl (.pure rfl) (OL.n1 rfl (PW.k5 0 1 5 7 49 rfl ?_)));refine PW.cond rfl (fun c49=>?_) (fun c49=>?_)
   ·try simp only[aD] at c49
    have hkw:j<w.length:=by omega
    obtain⟨b0,hb0⟩:=dg hw (by omega)
    have hw2:=hw
    rw[hb0] at hw2;have hz1:=sizeT_le (w:=w.take j) (fun s hs=>hws s (List.mem_of_mem_take hs))
    rw[List.length_take] at hz1;have hz2:=hws _ (List.getElem_mem hkw)
    have hz3:=sizeT_snoc hkw
    refine PW.skip (hK3 _ _ (PW.k4 0 1 5 7 rfl (PW.seq fun K4 hK4=>PW.block (PW.ops (OL.p3 rfl rfl rfl ?_)))))
    rw[hb0];refine OL.x (Yields.dY rfl rfl rfl hkw) (OL.x (Yields.ld rfl (dD hw2 hkw)) (OL.dp rfl ?_));refine OL.x (Yields.to (v':=.int .i64 (sizeT (w.take (j+1)):Int)) (Yields.ao rfl rfl (show -9223372036854775808<=(sizeT (w.take j):Int)+(w[j].size:Int) by omega) (show(sizeT (w.take j):Int)+(w[j].size:Int)<=9223372036854775807 by omega)) (congrArg (Value.int .i64) (show(sizeT (w.take j):Int)+(w[j].size:Int)=_ by omega))) ?_
    refine OL.n1 rfl (hK4 _ _ (PW.k4 0 1 5 7 rfl (PW.ops (OL.dp rfl (OL.x (Yields.ao rfl rfl (by omega) (by omega)) (OL.n1 rfl ?_))))))
    refine af.mk (T'':=[(0,_),(1,_),(5,_),(7,_)]) (wi rfl) ?_;try rw[hb0]
    exact⟨w.length-(j+1),by omega,j+1,⟨by omega,by omega,rfl⟩,rfl,rfl⟩
   try simp only[aD] at c49
   refine PW.exit (hK2 _ _ (PW.k3 0 1 5 rfl (PW.ae (OL.p3 rfl rfl rfl ?_))));refine OL.bool trivial (Yields.pure rfl) (fun g62=>?_) (fun g62=>?_)
   ·try simp only[aD] at g62
    refine OL.off rfl rfl (OL.off rfl rfl (OL.p2 rfl rfl (OL.off rfl rfl (OL.off rfl rfl (OL.off rfl rfl (OL.off rfl rfl (OL.off rfl rfl (OL.off rfl rfl (OL.off rfl rfl (OL.off rfl rfl ?_))))))))));refine OL.p2 rfl rfl (OL.off rfl rfl (OL.off rfl rfl (OL.off rfl rfl (OL.n2 rfl rfl (PW.k1 4 rfl ?_)))));refine PW.ret (zR rfl ?_)
    first
     |exact⟨_,Sub.refl _,_,rfl,rfl,fun hb=>by cases hb⟩
     |exact⟨_,Sub.refl _,_,rfl,rfl,fun hb=>ew (j:=j) hH (by omega) g66 (by simp only[decide_eq_false_iff_not] at hb;omega) (by simp only[decide_eq_false_iff_not] at hb;omega) (by omega)⟩
   try simp only[aD] at g62
   refine OL.ak rfl (.pure rfl) (OL.ak rfl (.pure rfl) (OL.dp rfl ?_));refine OL.bool trivial (Yields.pure rfl) (fun g66=>?_) (fun g66=>?_)
   ·try simp only[aD] at g66
    refine OL.off rfl rfl (OL.off rfl rfl (OL.off rfl rfl (OL.off rfl rfl (OL.off rfl rfl (OL.off rfl rfl (OL.off rfl rfl (OL.off rfl rfl (OL.p2 rfl rfl (OL.off rfl rfl (OL.off rfl rfl ?_))))))))));refine OL.off rfl rfl (OL.n2 rfl rfl (PW.k1 4 rfl ?_));refine PW.ret (zR rfl ?_)
    first
     |exact⟨_,Sub.refl _,_,rfl,rfl,fun hb=>by cases hb⟩
     |exact⟨_,Sub.refl _,_,rfl,rfl,fun hb=>ew (j:=j) hH (by omega) g66 (by simp only[decide_eq_false_iff_not] at hb;omega) (by simp only[decide_eq_false_iff_not] at hb;omega) (by omega)⟩
   try simp only[aD] at g66
   refine OL.ak rfl (.pure rfl) (OL.ak rfl (.pure rfl) (OL.ak rfl (.pure rfl) ?_));refine OL.bool rfl (Yields.pure rfl) (fun g70=>?_) (fun g70=>?_)
   ·try simp only[aD] at g70
    refine OL.ak rfl (.pure rfl) (OL.ak rfl (.pure rfl) (OL.ak rfl (.pure rfl) (OL.ak rfl (.pure rfl) (OL.dp rfl ?_))));refine OL.bool trivial (Yields.pure rfl) (fun g76=>?_) (fun g76=>?_)
    ·try simp only[aD] at g76
     refine OL.off rfl rfl (OL.off rfl rfl (OL.off rfl rfl (OL.n2 rfl rfl (PW.k1 4 rfl ?_))));refine PW.ret (zR rfl ?_)
     first
      |exact⟨_,Sub.refl _,_,rfl,rfl,fun hb=>by cases hb⟩
      |exact⟨_,Sub.refl _,_,rfl,rfl,fun hb=>ew (j:=j) hH (by omega) g66 (by simp only[decide_eq_false_iff_not] at hb;omega) (by simp only[decide_eq_false_iff_not] at hb;omega) (by omega)⟩
    try simp only[aD] at g76
    refine OL.ak rfl (.pure rfl) (OL.ak rfl (.pure rfl) (OL.ak rfl (.pure rfl) (OL.n2 rfl rfl (PW.k1 4 rfl ?_))));refine PW.ret (zR rfl ?_)
    first
     |exact⟨_,Sub.refl _,_,rfl,rfl,fun hb=>by cases hb⟩
     |exact⟨_,Sub.refl _,_,rfl,rfl,fun hb=>ew (j:=j) hH (by omega) g66 (by simp only[decide_eq_false_iff_not] at hb;omega) (by simp only[decide_eq_false_iff_not] at hb;omega) (by omega)⟩
   try simp only[aD] at g70
   refine OL.off rfl rfl (OL.off rfl rfl (OL.off rfl rfl (OL.ak rfl (.pure rfl) (OL.p2 rfl rfl (OL.ak rfl (.pure rfl) (OL.ak rfl (.pure rfl) (OL.ak rfl (.pure rfl) (OL.n2 rfl rfl ?_))))))));refine PW.k1 4 rfl ?_;refine PW.ret (zR rfl ?_)
   first
    |exact⟨_,Sub.refl _,_,rfl,rfl,fun hb=>by cases hb⟩
    |exact⟨_,Sub.refl _,_,rfl,rfl,fun hb=>ew (j:=j) hH (by omega) g66 (by simp only[decide_eq_false_iff_not] at hb;omega) (by simp only[decide_eq_false_iff_not] at hb;omega) (by omega)⟩
  try simp only[aD] at g46
  refine OL.off rfl rfl (OL.off rfl rfl (OL.n1 rfl (PW.k5 0 1 5 7 49 rfl (PW.ite (b:=false) rfl ?_))));rw[if_neg Bool.false_ne_true];refine PW.exit (hK2 _ _ (PW.k3 0 1 5 rfl (PW.ae (OL.p3 rfl rfl rfl ?_))));refine OL.bool trivial (Yields.pure rfl) (fun g62=>?_) (fun g62=>?_)
  ·try simp only[aD] at g62
   refine OL.off rfl rfl (OL.off rfl rfl (OL.p2 rfl rfl (OL.off rfl rfl (OL.off rfl rfl (OL.off rfl rfl (OL.off rfl rfl (OL.off rfl rfl (OL.off rfl rfl (OL.off rfl rfl (OL.off rfl rfl ?_))))))))));refine OL.p2 rfl rfl (OL.off rfl rfl (OL.off rfl rfl (OL.off rfl rfl (OL.n2 rfl rfl (PW.k1 4 rfl ?_)))));refine PW.ret (zR rfl ?_)
   first
    |exact⟨_,Sub.refl _,_,rfl,rfl,fun hb=>by cases hb⟩
    |exact⟨_,Sub.refl _,_,rfl,rfl,fun hb=>ew (j:=j) hH (by omega) g66 (by simp only[decide_eq_false_iff_not] at hb;omega) (by simp only[decide_eq_false_iff_not] at hb;omega) (by omega)⟩
  try simp only[aD] at g62
  refine OL.ak rfl (.pure rfl) (OL.ak rfl (.pure rfl) (OL.dp rfl ?_));refine OL.bool trivial (Yields.pure rfl) (fun g66=>?_) (fun g66=>?_)
  ·try simp only[aD] at g66
   refine OL.off rfl rfl (OL.off rfl rfl (OL.off rfl rfl (OL.off rfl rfl (OL.off rfl rfl (OL.off rfl rfl (OL.off rfl rfl (OL.off rfl rfl (OL.p2 rfl rfl (OL.off rfl rfl (OL.off rfl rfl ?_))))))))));refine OL.off rfl rfl (OL.n2 rfl rfl (PW.k1 4 rfl ?_));refine PW.ret (zR rfl ?_)
   first
    |exact⟨_,Sub.refl _,_,rfl,rfl,fun hb=>by cases hb⟩
    |exact⟨_,Sub.refl _,_,rfl,rfl,fun hb=>ew (j:=j) hH (by omega) g66 (by simp only[decide_eq_false_iff_not] at hb;omega) (by simp only[decide_eq_false_iff_not] at hb;omega) (by omega)⟩
  try simp only[aD] at g66
  refine OL.ak rfl (.pure rfl) (OL.ak rfl (.pure rfl) (OL.ak rfl (.pure rfl) ?_));refine OL.bool rfl (Yields.pure rfl) (fun g70=>?_) (fun g70=>?_)
  ·try simp only[aD] at g70
   refine OL.ak rfl (.pure rfl) (OL.ak rfl (.pure rfl) (OL.ak rfl (.pure rfl) (OL.ak rfl (.pure rfl) (OL.dp rfl ?_))));refine OL.bool trivial (Yields.pure rfl) (fun g76=>?_) (fun g76=>?_)
   ·try simp only[aD] at g76
    refine OL.off rfl rfl (OL.off rfl rfl (OL.off rfl rfl (OL.n2 rfl rfl (PW.k1 4 rfl ?_))));refine PW.ret (zR rfl ?_)
    first
     |exact⟨_,Sub.refl _,_,rfl,rfl,fun hb=>by cases hb⟩
     |exact⟨_,Sub.refl _,_,rfl,rfl,fun hb=>ew (j:=j) hH (by omega) g66 (by simp only[decide_eq_false_iff_not] at hb;omega) (by simp only[decide_eq_false_iff_not] at hb;omega) (by omega)⟩
   try simp only[aD] at g76
   refine OL.ak rfl (.pure rfl) (OL.ak rfl (.pure rfl) (OL.ak rfl (.pure rfl) (OL.n2 rfl rfl (PW.k1 4 rfl ?_))));refine PW.ret (zR rfl ?_)
   first
    |exact⟨_,Sub.refl _,_,rfl,rfl,fun hb=>by cases hb⟩
    |exact⟨_,Sub.refl _,_,rfl,rfl,fun hb=>ew (j:=j) hH (by omega) g66 (by simp only[decide_eq_false_iff_not] at hb;omega) (by simp only[decide_eq_false_iff_not] at hb;omega) (by omega)⟩
  try simp only[aD] at g70
  refine OL.off rfl rfl (OL.off rfl rfl (OL.off rfl rfl (OL.ak rfl (.pure rfl) (OL.p2 rfl rfl (OL.ak rfl (.pure rfl) (OL.ak rfl (.pure rfl) (OL.ak rfl (.pure rfl) (OL.n2 rfl rfl ?_))))))));refine PW.k1 4 rfl ?_;refine PW.ret (zR rfl ?_)
  first
   |exact⟨_,Sub.refl _,_,rfl,rfl,fun hb=>by cases hb⟩
   |exact⟨_,Sub.refl _,_,rfl,rfl,fun hb=>ew (j:=j) hH (by omega) g66 (by simp only[decide_eq_false_iff_not] at hb;omega) (by simp only[decide_eq_false_iff_not] at hb;omega) (by omega)⟩
 skip;refine PW.s1 rfl (PW.k4 0 1 5 6 rfl (PW.block (PW.k4 0 1 5 6 rfl ?_)));refine PW.aR (I:=fun mm T S'=>∃k:Nat,(k<=l.length/\k<=20/\mm=l.length-k/\∀x∈l.take k,x.lines.length<=10/\x.gone.length<=12/\x.first<=1000000)/\T=([(0,.slice A l.length c),(1,.slice W w.length cw),(5,.int .i64 0),(6,.int .i64 k)]:TT)/\S'=S) (m:=l.length) ⟨0,⟨by omega,by omega,by omega,by simp⟩,rfl,rfl⟩ ?_
 rintro mm _ _ ⟨k,⟨hk,hk15,hmm,hall⟩,rfl,rfl⟩
 rename SS=>S
 refine PW.seq fun K5 hK5=>PW.ae (OL.p4 rfl rfl rfl rfl ?_)
 refine OL.bool trivial (Yields.pure rfl) (fun g12=>?_) (fun g12=>?_)
 ·try simp only[aD] at g12
  refine OL.ak rfl (.pure rfl) (OL.ak rfl (.pure rfl) (OL.n1 rfl (PW.k5 0 1 5 6 15 rfl ?_)));refine PW.cond rfl (fun c15=>?_) (fun c15=>?_)
  ·try simp only[aD] at c15
   have hkl:k<l.length:=by omega
   obtain⟨a0,ha0⟩:=partS_some h.rd (by omega)
   have hrd:=h.rd
   rw[ha0] at hrd;refine PW.skip (hK5 _ _ (PW.k4 0 1 5 6 rfl (PW.seq fun K6 hK6=>PW.block (PW.ae (OL.p2 rfl rfl ?_)))))
   try rw[ha0]
   refine OL.x (Yields.bO rfl rfl rfl hkl) (OL.dp rfl (OL.x (Yields.ld rfl (partS_lines hrd.any hkl)) (OL.p2 rfl rfl ?_)));refine OL.bool trivial (Yields.pure rfl) (fun g25=>?_) (fun g25=>?_)
   ·try simp only[aD] at g25
    refine OL.off rfl rfl (OL.off rfl rfl (OL.off rfl rfl (OL.off rfl rfl (OL.off rfl rfl (OL.off rfl rfl (OL.off rfl rfl (OL.p2 rfl rfl (OL.off rfl rfl (OL.off rfl rfl (OL.off rfl rfl ?_))))))))));refine OL.off rfl rfl (OL.off rfl rfl (OL.off rfl rfl (OL.n1 rfl (PW.k5 0 1 5 6 41 rfl (PW.ite (b:=true) rfl ?_)))));rw[if_pos rfl];exact PW.s1 rfl (PW.k1 4 rfl (PW.ret (zR rfl ⟨_,Sub.refl _,true,rfl,rfl,fun h=>by cases h⟩)))
   try simp only[aD] at g25
   refine OL.ak rfl (.pure rfl) (OL.ak rfl (.pure rfl) ?_);try rw[ha0]
   refine OL.ak rfl (.bO rfl rfl rfl hkl) (OL.ak rfl (.pure rfl) (OL.ak rfl (.ld rfl (partS_gone hrd.any hkl)) (OL.ak rfl (.pure rfl) (OL.ak rfl (.pure rfl) (OL.dp rfl ?_)))));refine OL.bool trivial (Yields.pure rfl) (fun g34=>?_) (fun g34=>?_)
   ·try simp only[aD] at g34
    refine OL.off rfl rfl (OL.off rfl rfl (OL.off rfl rfl (OL.off rfl rfl (OL.off rfl rfl (OL.off rfl rfl (OL.n1 rfl (PW.k5 0 1 5 6 41 rfl (PW.ite (b:=true) rfl ?_))))))));rw[if_pos rfl];exact PW.s1 rfl (PW.k1 4 rfl (PW.ret (zR rfl ⟨_,Sub.refl _,true,rfl,rfl,fun h=>by cases h⟩)))
   try simp only[aD] at g34
   refine OL.ak rfl (.pure rfl) (OL.ak rfl (.pure rfl) ?_);try rw[ha0]
   refine OL.ak rfl (.bO rfl rfl rfl hkl) (OL.ak rfl (.pure rfl) (OL.ak rfl (.ld rfl (partS_first hrd.any hkl)) (OL.ak rfl (.pure rfl) (OL.n1 rfl (PW.k5 0 1 5 6 41 rfl ?_)))));refine PW.cond rfl (fun c41=>?_) (fun c41=>?_)
   ·try simp only[aD] at c41
    exact PW.s1 rfl (PW.k1 4 rfl (PW.ret (zR rfl ⟨_,Sub.refl _,true,rfl,rfl,fun h=>by cases h⟩)))
   try simp only[aD] at c41
   have hk2:l[k].lines.length<=10/\l[k].gone.length<=12/\l[k].first<=1000000:=by
    first|(simp only[aD] at *;omega)|omega
   refine PW.skip (hK6 _ _ (PW.k4 0 1 5 6 rfl (PW.ops (OL.dp rfl (OL.x (Yields.ao rfl rfl (by omega) (by omega)) (OL.n1 rfl ?_))))))
   refine af.mk (T'':=[(0,_),(1,_),(5,_),(6,_)]) (wi rfl) ?_;try rw[ha0]
   refine⟨l.length-(k+1),by omega,k+1,⟨by omega,by omega,rfl,?_⟩,rfl,rfl⟩
   rw[aA hkl];intro x hx;rcases List.mem_append.1 hx with hx|hx
   ·exact hall x hx
   rw[List.mem_singleton] at hx;subst hx;exact hk2
  try simp only[aD] at c15
  refine PW.exit ?_;exact hK1 (fun h12 x hx=>hall x (by rw[List.take_of_length_le (by omega)];exact hx)) _ _ ⟨rfl,rfl,rfl,trivial⟩ rfl
 try simp only[aD] at g12
 refine OL.off rfl rfl (OL.off rfl rfl (OL.n1 rfl (PW.k5 0 1 5 6 15 rfl (PW.ite (b:=false) rfl ?_))));rw[if_neg Bool.false_ne_true];refine PW.exit ?_;exact hK1 (fun h12 x hx=>hall x (by rw[List.take_of_length_le (by omega)];exact hx)) _ _ ⟨rfl,rfl,rfl,trivial⟩ rfl
theorem both_fc {w0:World}{S:SS}{A:Option Addr}{c:Nat}{l:List aN}(h:PartsIn w0 A l) (hs:SmallC l) :
  FC prog w0 8 [.slice A l.length c] S (fun v S'=>∃m cms A' c' sg,v=.tuple #[m.ptr,.slice A' cms.length c']/\S'=GS m++(sg::S)/\GG w0 [] m (bW cms).reverse/\aV 66 102 (.slice A' cms.length c') cms.length (dL cms) sg/\(∀x∈cms,PartB w0 x/\x∈l)/\cms.length<=12/\(bh (bW cms).reverse).length<=120/\m.lim<=100000):=by
 have hlen:=hs.len
 refine FC.ofD known8 (by simp) ?_
 unfold pc8;simp only[bo];refine PW.s2 rfl rfl (PW.k1 0 rfl (PW.ae (OL.l rfl (new_fc (X:=[])) ?_)));rintro _ _ ⟨m0,rfl,rfl,hm0,hg0,hl0⟩;have hgg:GG w0 [] m0 []:=⟨hm0,by rw[hg0];exact GP.Inv.nil,Sq.nil,by simp[bh],by omega⟩
 refine OL.n1 rfl (PW.k2 0 4 rfl (PW.s1 rfl (PW.k3 0 4 5 rfl (PW.seq fun K1 hK1=>PW.ae (OL.bZ (S':=GS m0++([]::S)) gs_j (OL.n1 rfl ?_))))))
 refine PW.k4 0 4 5 6 rfl (PW.block (PW.k4 0 4 5 6 rfl ?_));refine PW.aR (I:=fun mm T S'=>∃(k:Nat) (m:dV) (cms:List aN) (Ar:Option Addr) (cr:Nat) (sg:bD),(k<=l.length/\mm=l.length-k/\GG w0 [] m (bW cms).reverse/\aV 66 102 (.slice Ar cms.length cr) cms.length (dL cms) sg/\(∀x∈cms,PartB w0 x/\x∈l)/\cms.length<=k/\(bh (bW cms).reverse).length<=10*k/\m.lim<=1000*k/\m.r=m0.r)/\T=([(0,.slice A l.length c),(4,m0.ptr),(5,.slice Ar cms.length cr),(6,.int .i64 k)]:TT)/\S'=GS m++(sg::S)) (m:=l.length) ⟨0,m0,[],_,_,[],⟨by omega,by omega,hgg,aV.nil 66 102,(fun x hx=>by cases hx),Nat.le_refl 0,by simp[bh,bW],by omega,rfl⟩,rfl,rfl⟩ ?_
 rintro mm _ _ ⟨k,m,cms,Ar,cr,sg,⟨hk,hmm,hg,hsr,hcb,hcl,hal,hlim,hr⟩,rfl,rfl⟩;refine PW.seq fun K2 hK2=>PW.s4 rfl rfl rfl rfl (PW.k5 0 4 5 6 12 rfl ?_)
 refine PW.cond rfl (fun c12=>?_) (fun c12=>?_)
 ·try simp only[aD] at c12
  have hkl:k<l.length:=by omega
  obtain⟨a0,ha0⟩:=partS_some h.rd (by omega)
  have hrd:=h.rd
  rw[ha0] at hrd;have hpb:=h.bG hs hkl
  have hrl:(bW cms).reverse.length=cms.length:=by simp[bW]
  have hsm:=hs.part _ (List.getElem_mem hkl)
  obtain⟨Ar2,cr2,er2,hnr,hcr,hrr⟩:=aF (w0:=w0) hsr;cases er2;refine PW.skip (hK2 _ _ (PW.k4 0 4 5 6 rfl (PW.seq fun K3 hK3=>PW.block (PW.ae (OL.p2 rfl rfl ?_)))))
  rw[ha0];refine OL.x (Yields.bO rfl rfl rfl hkl) (OL.x (Yields.aT rfl (bm _) (eL hrd.any hkl)) (OL.c OW.al ?_));rintro _ _ ⟨r7,rfl,rfl⟩;refine OL.c (part_stk (k:=0) (u:=l[k]) rfl rfl rfl rfl) ?_;rintro _ _ rfl;change OL _ _ _ _ _ (eB r7 l[k]::(GS m++(sg::S))) _;refine OL.nil (PW.k5 0 4 5 6 7 rfl (PW.ae (OL.dp rfl (OL.x (Yields.aT rfl (bm _) (av bF)) ?_))));refine OL.l rfl (by rw[<- ptr_eq hr];exact FC.bZ gs_a (add2_fc (S:=eB r7 l[k]::sg::S) hg over_nil hpb.rng hpb.rdL.any hpb.rdG.any (by omega) (by unfold addL;omega))) ?_
  rintro _ _ ⟨m1,rfl,rfl,hg1,hl1,hr1,_⟩;unfold addL at hl1;refine OL.n1 rfl (PW.k6 0 4 5 6 7 22 rfl ?_);refine PW.cond rfl (fun c22=>?_) (fun c22=>?_)
  ·skip;have hnew:New (bW cms).reverse l[k].pl:=(addE_zero hg.inv hg.sq).1 (by simpa using c22)
   rw[came_new hnew,<- pls_snoc] at hg1;refine PW.ops (OL.p2 rfl rfl (OL.x (Yields.aT rfl (cz _) (part_patch (p:=l[k]) (E:=59) (tot:=102) zM4)) (OL.dp rfl (OL.x (Yields.ld rfl (part_at (p:=l[k]) (E:=59) (tot:=102) zM4)) (OL.dp rfl (OL.x (Yields.ld rfl (part_first (p:=l[k]) (E:=59) (tot:=102) zM4)) (OL.dp rfl (OL.x (Yields.aT rfl (aa _) (part_up (p:=l[k]) (E:=59) (tot:=102) zM4)) (OL.dp rfl (OL.x (Yields.aT rfl (aa _) (dF (p:=l[k]) (E:=59) (tot:=102) zM4)) ?_))))))))));refine OL.dp rfl (OL.x (Yields.ld rfl (fp (p:=l[k]) (E:=59) (tot:=102) zM4)) (OL.dp rfl (OL.x (Yields.ld rfl (dh (p:=l[k]) (E:=59) (tot:=102) zM4)) (OL.x (Yields.build (fill_part7 rfl rfl rfl rfl rfl rfl rfl)) ?_))));refine OL.l rfl (rAdd_fc (l:=cms) ⟨br (hrr []) (by simp[GS]),fun x hx=>(hcb x hx).1.rdS,by omega⟩ hpb.rdS hnr (new_rev hnew) (line_pls hg)) ?_
   rintro _ _ ⟨v1,sg40,rfl,rfl,hs40⟩;obtain⟨A1,c1,rfl,hn1,hc1,hr40⟩:=aF (w0:=w0) hs40;refine OL.n4 rfl rfl rfl rfl (hK3 _ _ (PW.k4 0 4 5 6 rfl (PW.ops (OL.dp rfl (OL.x (Yields.ao rfl rfl (by omega) (by omega)) (OL.n1 rfl ?_))))))
   refine af.dE (gs_h) (T'':=[(0,_),(4,_),(5,_),(6,_)]) (wi rfl) ?_;rw[ha0];exact⟨l.length-(k+1),by omega,k+1,m1,cms++[l[k]],_,_,sg40,⟨by omega,rfl,hg1,hs40,(fun x hx=>by
    rcases List.mem_append.1 hx with hx|hx
    ·exact hcb x hx
    ·rw[List.mem_singleton.1 hx];exact⟨hpb,List.getElem_mem hkl⟩),by rw[List.length_append];simp only[List.length_cons,List.length_nil];omega,by
    rw[pls_snoc,allV_cons,List.length_append,eE];have:l[k].pl.lines.length=l[k].lines.length:=rfl
    omega,by omega,hr1.trans hr⟩,rfl,rfl⟩
  skip;have hnn:¬New (bW cms).reverse l[k].pl:=fun hn=>by
   have:=(addE_zero hg.inv hg.sq).2 hn
   simp[this] at c22
  rw[came_not hnn] at hg1;refine PW.skip (hK3 _ _ (PW.k4 0 4 5 6 rfl (PW.ops (OL.dp rfl (OL.x (Yields.ao rfl rfl (by omega) (by omega)) (OL.n1 rfl ?_))))))
  refine af.dE (gs_i) (T'':=[(0,_),(4,_),(5,_),(6,_)]) (wi rfl) ?_;rw[ha0];exact⟨l.length-(k+1),by omega,k+1,m1,cms,_,_,sg,⟨by omega,rfl,hg1,hsr,hcb,by omega,by omega,by omega,hr1.trans hr⟩,rfl,rfl⟩
 try simp only[aD] at c12
 refine PW.exit (hK1 _ _ (PW.k2 4 5 rfl (PW.s4 rfl rfl rfl rfl (PW.k2 2 3 rfl ?_))));refine PW.ret (zR rfl ?_);rw[<- ptr_eq hr];exact⟨_,Sub.refl _,m,cms,_,_,sg,rfl,rfl,hg,hsr,hcb,by omega,by omega,by omega⟩
open Go.MyPlain
def p17 (A:Option Addr) (c:Nat):aN:=⟨hb1 1,0,1,aU,bQ,A,c,[fE 97,fE 98,fE 99],none,0,[]⟩
def k17:ar:=(p17 none 0).pl
def v17 (n:Int):ay:=(hb1 1,n)
def I17:List aB:=[⟨[⟨v17 1,fE 97,true⟩],false,[]⟩,⟨[⟨v17 2,fE 98,true⟩],false,[]⟩,⟨[⟨v17 3,fE 99,true⟩],false,[]⟩]
theorem new17:newC [] k17=true:=by decide +kernel
theorem closed17:((bh [k17]).all fun a=>closedB (cN [k17]) a)=true:=by decide +kernel
theorem items17:b7 [k17] = I17:=by
 rw[items_comp closed17]
 kernel_rfl
def w17a:List ByteArray:=[fE 97,fE 120,fE 98,fE 99]
def w17b:List ByteArray:=[fE 97,fE 98,fE 99]
theorem err17a:errH I17 w17a=0:=by decide +kernel
theorem err17b:errH I17 w17b=0:=by decide +kernel
theorem runs17a:runsH I17 w17a=[⟨1,1,[fE 120]⟩]:=by kernel_rfl
theorem runs17b:runsH I17 w17b=[]:=by kernel_rfl
theorem kept17a:keptH I17 w17a=[true,true,true]:=by decide +kernel
def y17a:HunkP:=⟨v17 1,v17 2,[fE 120],[]⟩
theorem hunks17a:e9 I17 w17a=[y17a]:=by
 unfold e9;rw[if_pos err17a,runs17a,kept17a]
 show [hunkP I17 [true,true,true] ⟨1,1,[fE 120]⟩] = _
 unfold hunkP y17a;have h1:upK I17 [true,true,true] 1=v17 1:=by decide +kernel
 have h2:downK I17 [true,true,true] 1=v17 2:=by decide +kernel
 have h3:goneK I17 ⟨1,1,[fE 120]⟩=[]:=rfl
 simp only[h1,h2,h3];rw[show eX [] = [] by simp[eX]]
theorem hunks17b:e9 I17 w17b=[]:=by
 unfold e9;rw[if_pos err17b,runs17b];rfl
theorem fill_part5 {T:TT}{h:HashB}{z:Int}{up down:ay}{A:Option Addr}{n c:Nat}{x1 x3 x4 x5 x6:PV}(h1:x1.val T=some (.agg (bd h.1).toArray)) (h3:x3.val T=some (.int .i64 z)) (h4:x4.val T=some (aP up)) (h5:x5.val T=some (aP down)) (h6:x6.val T=some (.slice A n c)) :
  dw T zP [(0,32,x1),(33,1,x3),(34,33,x4),(67,33,x5),(100,1,x6)] = some (bd h.1++([.int .i64 0]++([.int .i64 z]++(au up++(au down++([.slice A n c]++[.slice none 0 0])))))):=by
 have hb:=cz h
 have hu:=aa up
 have hd:=aa down
 have h0:=aa v0
 have e0:zP=[]++(List.replicate 32 (.int .u8 0)++([.int .i64 0]++([.int .i64 0]++(au v0++(au v0++([.slice none 0 0]++[.slice none 0 0])))))):=by unfold zP;simp only[List.append_assoc,List.nil_append];rfl
 have c1:(Value.agg (bd h.1).toArray).cells.toList=bd h.1:=rfl
 have c4:(aP up).cells.toList=au up:=rfl
 have c5:(aP down).cells.toList=au down:=rfl
 have c2:∀(k:IntKind) (z:Int),(Value.int k z).cells.toList=[.int k z]:=fun _ _=>rfl
 have c6:∀(A:Option Addr) (n c:Nat),(Value.slice A n c).cells.toList=[.slice A n c]:=fun _ _ _=>rfl
 rw[e0,cG (a:=[]) (n:=0) (k:=32) h1 rfl List.length_replicate (by rw[c1];exact hb),c1,List.nil_append,<- List.append_assoc (bd h.1) [Value.int .i64 0],
  cG (k:=1) (b:=[.int .i64 0]) h3 (by simp only[List.length_append,List.length_nil,List.length_cons];omega) rfl rfl,c2,
  cG h4 (by simp only[List.length_append,List.length_nil,List.length_cons];omega) h0 (by rw[c4];exact hu),c4,
  cG h5 (by simp only[List.length_append,List.length_nil,List.length_cons];omega) h0 (by rw[c5];exact hd),c5,cG (k:=1) (b:=[.slice none 0 0]) h6 (by simp only[List.length_append,List.length_nil,List.length_cons];omega) rfl rfl,c6]
 simp only[dw,List.append_assoc]
theorem p17_c (A:Option Addr) (c:Nat):bG (p17 A c)=bd (hb1 1).1++([.int .i64 0]++([.int .i64 1]++(au aU++(au bQ++([.slice A 3 c]++[.slice none 0 0]))))):=by
 rw[da];rfl
theorem p17_rd {w0:World}{S:SS}{r n:Nat}(h:[(r,AO.cells (strs [fE 97,fE 98,fE 99]) 9 n)]∈S):PartRd w0 S (p17 (some ⟨r,0,none⟩) 3):=
 ⟨Rd.own (E:=9) (tot:=n) (List.mem_flatten.2 ⟨_,h,List.mem_singleton.2 rfl⟩),Rd.nil,⟨(show(-9223372036854775808:Int)<=0/\(0:Int)<=9223372036854775807 by decide),(show(-9223372036854775808:Int)<=1/\(1:Int)<=4611686018427387904 by decide),(show 3<=1000000000 by decide),Nat.zero_le _,Nat.le_refl _,fun _=>rfl,okRoot,okEnd,fun v hv=>by cases hv⟩,(show 3<=100 by decide),Nat.zero_le _⟩
theorem given_fc {w0:World}{S:SS}:FC prog w0 22 [] S (fun v S'=>∃m sg,v=m.ptr/\S'=GS m++(sg::S)/\GG w0 [] m [k17]):=by
 refine FC.of known22 (by simp) ?_
 unfold pc22;simp only[bo];refine PW.s1 rfl (PW.cD (T':=[]) trivial (PW.ae (OL.l rfl (new_fc (X:=[])) ?_)));rintro _ _ ⟨m0,rfl,rfl,hm0,hg0,hl0⟩;have hgg:GG w0 [] m0 []:=⟨hm0,by rw[hg0];exact GP.Inv.nil,Sq.nil,by simp[bh],by omega⟩
 refine OL.n1 rfl (PW.k1 1 rfl (PW.ae (OL.dp rfl (OL.x (Yields.bldA (cs:=bd (hb1 1).1) rfl) (OL.x (Yields.build (cs:=au aU) rfl) (OL.x (Yields.build (cs:=au bQ) rfl) (OL.c (OW.fl (cs:=strs [fE 97,fE 98,fE 99]) rfl) ?_)))))));rintro _ _ ⟨r7,rfl,rfl⟩;refine OL.x (Yields.build (cs:=bG (p17 (some ⟨r7,0,none⟩) 3)) (by rw[p17_c];exact fill_part5 rfl rfl rfl rfl rfl)) ?_
 refine OL.l rfl (addF_fc (p:=p17 (some ⟨r7,0,none⟩) 3) hgg (p17_rd (n:=3) (.head _)) (show newC [] k17=true from new17) (show 4<=1000000 by decide) (by rw[hl0];exact(show 0+6<=500000000000 by decide))) ?_
 rintro _ _ ⟨m1,rfl,rfl,hg1,hl1,hr1⟩;exact OL.nil (PW.k1 1 rfl (PW.s2 rfl rfl (PW.k1 0 rfl (PW.ret (zR rfl ⟨m1,_,by rw[ptr_eq hr1],rfl,hg1⟩)))))
theorem line17_fc {w0:World}{S:SS}{z:Int}:FC prog w0 23 [.int .i64 z] S (fun v S'=>v=aP (v17 z)/\S'=S):=by
 refine FC.ofC known23 (by simp) ?_
 unfold pc23;simp only[bo];refine PW.ae (OL.c OW.al ?_);rintro _ _ ⟨r2,rfl,rfl⟩;refine OL.nil (PW.k2 0 2 rfl (PW.ae (OL.x (Yields.bldA (cs:=bd (hb1 1).1) rfl) (OL.dp rfl (OL.x (Yields.build (cs:=au (v17 z)) rfl) (OL.c (vtx_stk (k:=0) (u:=v17 z) rfl rfl rfl rfl) ?_))))));rintro _ _ rfl;refine OL.nil (PW.k1 2 rfl (PW.ret ?_));exact⟨.inr rfl,_,_,rfl,vtx_read (r:=r2) (v:=v17 z) (E:=27) (tot:=33) bF,_,Sub.drop (Sub.refl _),rfl,rfl⟩
theorem gs_l {a:dV}{s t u v:bD}{S:SS}:Sub (v::s::t::S) (s::t::(GS a++(u::v::S))):=Sub.ec [7,0,1] 8 (by decide) (s::t::(GS a++(u::v::S)))
theorem gs_n {a:dV}{s t u z v w x:bD}{S:SS}:Sub (v::w::S) (s::t::(GS a++(u::z::v::w::x::S))):=Sub.ec [8,9] 11 (by decide) (s::t::(GS a++(u::z::v::w::x::S)))
theorem chg_at {w0:World}{S:SS}{a:Addr}{l:List fk}(h:Rd w0 S (some a) (chgS l)) {k:Nat}(hk:k<l.length):∀(j:Nat) (v:Value),(chgR l[k])[j]? = some v->Cell w0 S ((a.add (k*105)).add j) v:=by
 intro j v hj;have hj2:j<105:=by have:=(List.getElem?_eq_some_iff.1 hj).1;rwa [chgR_len] at this
 rw[aZ];refine h.at ?_;unfold chgS;rw[fm chgR_len l (k*105+j) (by omega),show(k*105+j) / 105=k from by omega,show(k*105+j) % 105=j from by omega,getElem!_pos l k hk]
 exact hj
theorem chgS_len (l:List fk):(chgS l).length=l.length*105:=by unfold chgS;rw[List.length_flatMap];simp[chgR_len,List.map_const']
theorem chgS_some {w0:World}{S:SS}{A:Option Addr}{l:List fk}(h:Rd w0 S A (chgS l)) (hk:0<l.length):∃a,A=some a:=
 h.some (fun e=>by have:=chgS_len l;rw[e] at this;simp at this;omega)
theorem chgC_up {f u d:ay}{G L:Value}{j:Nat}{v:Value}(h:(au u)[j]? = some v):(ba f u d G L)[37+j]? = some v:=by
 have hj:j<33:=by have:=(List.getElem?_eq_some_iff.1 h).1;rwa [aa] at this
 have e:ba f u d G L=([Value.int .i64 5]++(au f++[Value.string ⟨#[]⟩,Value.int .i64 0,Value.int .u64 0]))++(au u++(au d++[G,L])):=by unfold ba;simp only[List.append_assoc]
 have hl:([Value.int .i64 5]++(au f++[Value.string ⟨#[]⟩,Value.int .i64 0,Value.int .u64 0])).length=37:=by simp only[List.length_append,aa];rfl
 rw[e,List.getElem?_append_right (by omega),hl,Nat.add_sub_cancel_left,List.getElem?_append_left (by rw[aa];exact hj)]
 exact h
theorem chgC_down {f u d:ay}{G L:Value}{j:Nat}{v:Value}(h:(au d)[j]? = some v):(ba f u d G L)[70+j]? = some v:=by
 have hj:j<33:=by have:=(List.getElem?_eq_some_iff.1 h).1;rwa [aa] at this
 have e:ba f u d G L=([Value.int .i64 5]++(au f++([Value.string ⟨#[]⟩,Value.int .i64 0,Value.int .u64 0]++au u)))++(au d++[G,L]):=by unfold ba;simp only[List.append_assoc]
 have hl:([Value.int .i64 5]++(au f++([Value.string ⟨#[]⟩,Value.int .i64 0,Value.int .u64 0]++au u))).length=70:=by simp only[List.length_append,aa];rfl
 rw[e,List.getElem?_append_right (by omega),hl,Nat.add_sub_cancel_left,List.getElem?_append_left (by rw[aa];exact hj)]
 exact h
theorem cell_up {w0:World}{S:SS}{r E tot:Nat}{f u d:ay}{G L:Value}(hm:(r,AO.cells (ba f u d G L) E tot)∈S.flatten):∀(j:Nat) (v:Value),(au u)[j]? = some v->Cell w0 S (((⟨r,0,none⟩:Addr).add 37).add j) v:=fun j v hj=>by
 have:=(Rd.own (w0:=w0) hm).at (chgC_up (f:=f) (d:=d) (G:=G) (L:=L) hj)
 rwa [<- aZ] at this
theorem cell_down {w0:World}{S:SS}{r E tot:Nat}{f u d:ay}{G L:Value}(hm:(r,AO.cells (ba f u d G L) E tot)∈S.flatten):∀(j:Nat) (v:Value),(au d)[j]? = some v->Cell w0 S (((⟨r,0,none⟩:Addr).add 70).add j) v:=fun j v hj=>by
 have:=(Rd.own (w0:=w0) hm).at (chgC_down (f:=f) (u:=u) (G:=G) (L:=L) hj)
 rwa [<- aZ] at this
theorem items17_fc {w0:World}{S:SS}{m:dV}(h:GG w0 [] m [k17]):ItemsFC w0 m.ptr I17 (GS m++S):=by
 have:=itemsFC_gg (S:=S) h over_nil (show 3<=60000 by decide)
 rwa [items17] at this
theorem sol17:∀x∈I17,x.block=false->0<x.lines.length:=by decide +kernel
theorem one_fc {w0:World}{S:SS}{W:Option Addr}{cw:Nat}{w:List ByteArray}{y:HunkP}(hw:Rd w0 S W (strs w)) (hwc:w.length<=cw) (hwl:w.length<=1000) (hz:∀s∈w,s.size<=1000000) (hE:errH I17 w=0) (hy:e9 I17 w=[y]) :
  FC prog w0 21 [.slice W w.length cw] S (fun v S'=>∃G cg A c aH,v=chgV v0 y.up y.down (.slice G y.gone.length cg) (.slice A y.lines.length c)/\S'=aH::S/\Rd w0 (aH::[]) A (strs y.lines)/\Rd w0 (aH::[]) G (aI y.gone)):=by
 refine FC.ofC known21 (by simp) ?_
 unfold pc21;simp only[bo];refine PW.ae (OL.c OW.al ?_);rintro _ _ ⟨r2,rfl,rfl⟩;change OL _ _ _ _ _ ([(r2,.cells cK 46 105)]::S) _;refine OL.nil (PW.k2 0 2 rfl (PW.ae (OL.x (Yields.build (cs:=au v0) rfl) (OL.l rfl (given_fc) ?_))));rintro _ _ ⟨m,sgl,rfl,rfl,hg⟩;refine OL.dp rfl ?_;refine OL.l rfl (hunks_fc (S:=GS m++(sgl::[(r2,.cells cK 46 105)]::S)) (file:=v0) (items17_fc hg) (by decide) sol17 (hw.mono (Over.trans (Over.cons (Over.cons (Over.refl S))) (Over.appR (fun q h=>h)))) hwc (by omega) (fun s hs=>by have:=hz s hs;omega)) ?_
 rintro v9 _ ⟨va,hs,sgh,jh,rfl,rfl,hsh,hok,hpl⟩;rw[hE];rw[hy] at hpl;obtain⟨x,rfl⟩:∃x,hs=[x]:=by
  match hs,hpl with
  |[x],_=>exact⟨x,rfl⟩
 obtain rfl:fk.pl x=y:=by simpa using hpl
 obtain⟨hox,hxf⟩:=hok x (by simp)
 obtain⟨Ah,ch,rfl,hnh,hch,hrh⟩:=aF (w0:=w0) hsh;obtain⟨ah,rfl⟩:=chgS_some (hrh []) (by simp)
 refine OL.p4 rfl rfl rfl rfl (OL.n1 rfl (PW.k3 2 3 4 rfl (PW.seq fun K1 hK1=>PW.ae (OL.dp rfl (OL.x (Yields.to (v':=.bool false) (Yields.pure rfl) rfl) (OL.dp rfl ?_))))))
 refine OL.ak rfl (.pure rfl) (OL.ak rfl (.pure rfl) (OL.ak rfl (.to (v':=.bool false) (Yields.pure rfl) rfl) (OL.n1 rfl (PW.k3 2 3 18 rfl (PW.ite (b:=false) rfl ?_)))));rw[if_neg Bool.false_ne_true];refine PW.skip (hK1 _ _ (PW.k2 2 3 rfl (PW.ae (OL.bZ (S':=[(r2,.cells cK 46 105)]::sgh::jh::S) gs_l (OL.dp rfl (OL.x (Yields.bO (j:=0) rfl rfl rfl Nat.zero_lt_one) (OL.x (Yields.aT rfl (chgR_len _) (chg_at (l:=[x]) (k:=0) (br (hrh []) (by simp)) Nat.zero_lt_one)) (OL.c (chg_stk (k:=0) (z:=cK) (f:=x.file) (u:=x.up) (d:=x.down) (A:=x.G) (a:=x.gone.length) (c:=x.gc) (B:=x.A) (b:=x.lines.length) (e:=x.c) rfl rfl rfl ep) ?_))))))))
 rintro _ _ rfl;refine OL.nil (PW.k1 2 rfl (PW.ret ?_));exact⟨.inr rfl,_,_,rfl,chg_read (E:=46) (tot:=105) bF,(sgh++jh)::S,(Sub.join).trans (Sub.drop (Sub.refl _)),x.G,x.gc,x.A,x.c,sgh++jh,by rw[hxf];rfl,rfl,hox.rdL.mono fun p hp=>by simp at hp ⊢;exact .inr hp,hox.rdG.mono fun p hp=>by simp at hp ⊢;exact .inr hp⟩
theorem awake_fc {w0:World}{S:SS}:FC prog w0 7 [] S (fun v S'=>v=.bool true/\S'=S):=by
 refine FC.ofD known7 (by simp) ?_
 unfold pc7;simp only[bo];refine PW.s1 rfl (PW.cD (T':=[]) trivial (PW.ae (OL.c (OW.fl (cs:=strs w17a) rfl) ?_)));rintro _ _ ⟨r4,rfl,rfl⟩;refine OL.l rfl (one_fc (w:=w17a) (y:=y17a) (Rd.own (E:=9) (tot:=4) bF) (show 4<=4 by decide) (show 4<=1000 by decide) (by decide +kernel) err17a hunks17a) ?_
 rintro _ _ ⟨G,cg,Ax,cx,jx,rfl,rfl,hrl,-⟩;obtain⟨ax,rfl⟩:=dg hrl Nat.zero_lt_one;refine OL.c OW.al ?_;rintro _ _ ⟨r1,rfl,rfl⟩;change OL _ _ _ _ _ ([(r1,.cells cK 46 105)]::jx::[(r4,.cells (strs w17a) 9 4)]::S) _;refine OL.c (chg_stk (k:=0) (z:=cK) (f:=v0) (u:=v17 1) (d:=v17 2) (A:=G) (a:=0) (c:=cg) (B:=some ax) (b:=1) (e:=cx) rfl rfl rfl ep) ?_;rintro _ _ rfl;refine OL.nil (PW.k1 1 rfl (PW.ae (OL.x (Yields.build (cs:=au v0) rfl) (OL.l rfl (given_fc) ?_))));rintro _ _ ⟨m,sgl,rfl,rfl,hg⟩;refine OL.c (OW.fl (cs:=strs w17b) rfl) ?_;rintro _ _ ⟨r9,rfl,rfl⟩;refine OL.l rfl (FC.bZ gs_a (hunks_fc (W:=some ⟨r9,0,none⟩) (cw:=3) (w:=w17b) (file:=v0) (S:=GS m++([(r9,.cells (strs w17b) 9 3)]::sgl::[(r1,.cells (ba v0 (v17 1) (v17 2) (.slice G 0 cg) (.slice (some ax) 1 cx)) 46 105)]::jx::[(r4,.cells (strs w17a) 9 4)]::S)) (items17_fc hg) (by decide) sol17 (Rd.own (E:=9) (tot:=3) (by simp)) (show 3<=3 by decide) (show 3<=100000 by decide) (by decide +kernel))) ?_
 rintro v10 _ ⟨va,hs,s1,j1,rfl,rfl,hsh,-,hpl⟩;rw[err17b];rw[hunks17b] at hpl;obtain rfl:hs=[]:=by simpa using hpl
 obtain⟨Ah,ch,rfl,-,-,-⟩:=aF (w0:=w0) hsh;refine OL.p4 rfl rfl rfl rfl (OL.bZ (S':=[(r1,.cells (ba v0 (v17 1) (v17 2) (.slice G 0 cg) (.slice (some ax) 1 cx)) 46 105)]::jx::S) gs_n (OL.n1 rfl (PW.k3 1 2 3 rfl (PW.seq fun K1 hK1=>PW.aQ mixed (QK.dp rfl (QK.x (Yields.ld rfl (az (j:=0) (c:=ba v0 (v17 1) (v17 2) (.slice G 0 cg) (.slice (some ax) 1 cx)) (E:=46) (tot:=105) bF rfl)) ?_))))))
 refine QK.x (Yields.to (v':=.bool true) (Yields.pure rfl) rfl) (QK.dp rfl (QK.ak rfl (.pure rfl) (QK.ak rfl (.aT rfl (aa _) (cell_up (f:=v0) (d:=v17 2) (G:=.slice G 0 cg) (L:=.slice (some ax) 1 cx) (E:=46) (tot:=105) bF)) (QK.call rfl rfl (line17_fc) ?_))));refine QK.ak rfl (.to (v':=.bool true) (Yields.eb (neg:=false) rfl rfl (aO _ _)) (congrArg Value.bool (by decide +kernel))) ?_
 refine QK.p2 rfl rfl (QK.ak rfl (.pure rfl) (QK.ak rfl (.aT rfl (aa _) (cell_down (f:=v0) (u:=v17 1) (G:=.slice G 0 cg) (L:=.slice (some ax) 1 cx) (E:=46) (tot:=105) bF)) (QK.call rfl rfl (line17_fc) (QK.nil ?_))));change OL _ _ _ [_,_,_,_,_,_,_,_,_,_,_,_,_,_,_,_,_,_,_,_,_,_,_,_,_,_,_,_,_,_,_] _ _ _;refine OL.ak rfl (.to (v':=.bool true) (Yields.eb (neg:=false) rfl rfl (aO _ _)) (congrArg Value.bool (by decide +kernel))) ?_
 refine OL.p2 rfl rfl (OL.ak rfl (.pure rfl) (OL.ak rfl (.ld rfl (az (j:=104) (c:=ba v0 (v17 1) (v17 2) (.slice G 0 cg) (.slice (some ax) 1 cx)) (E:=46) (tot:=105) bF (dQ ..).2)) (OL.ak rfl (.pure rfl) (OL.ak rfl (.to (v':=.bool true) (Yields.pure rfl) rfl) (OL.p2 rfl rfl (OL.ak rfl (.pure rfl) (OL.ak rfl (.ld rfl (az (j:=104) (c:=ba v0 (v17 1) (v17 2) (.slice G 0 cg) (.slice (some ax) 1 cx)) (E:=46) (tot:=105) bF (dQ ..).2)) (OL.ak rfl (.dY (j:=0) rfl rfl rfl Nat.zero_lt_one) (OL.ak rfl (.ld rfl (dD (l:=[fE 120]) (br hrl (by simp)) (by decide))) ?_)))))))))
 refine OL.ak rfl (.to (v':=.bool true) (Yields.pure rfl) (congrArg Value.bool (by decide +kernel))) ?_
 refine OL.p2 rfl rfl (OL.ak rfl (.pure rfl) (OL.ak rfl (.ld rfl (az (j:=103) (c:=ba v0 (v17 1) (v17 2) (.slice G 0 cg) (.slice (some ax) 1 cx)) (E:=46) (tot:=105) bF (dQ ..).1)) (OL.ak rfl (.pure rfl) (OL.ak rfl (.to (v':=.bool true) (Yields.pure rfl) rfl) (OL.p2 rfl rfl (OL.ak rfl (.pure rfl) (OL.ak rfl (.to (v':=.bool true) (Yields.pure rfl) rfl) (OL.p2 rfl rfl ?_))))))));exact OL.ak rfl (.pure rfl) (OL.ak rfl (.pure rfl) (OL.ak rfl (.to (v':=.bool true) (Yields.pure rfl) rfl) (OL.n2 rfl rfl (hK1 _ _ (PW.k1 0 rfl (PW.ret (zR rfl ⟨_,Sub.drop (Sub.drop (Sub.refl _)),rfl,rfl⟩)))))))
end Go.Proofs.Gr

namespace Go.Proofs.Gr
open Go.SL Go.RowKit Go.Proofs Go.GP Go.Proofs.Tryz
set_option maxHeartbeats 1000000
theorem begT_full {a b:List ByteArray}(hb:b.length<=a.length) (h:a.take b.length=b):begT a b=true:=by
 unfold begT;rw[decide_eq_true hb,decide_eq_true h];rfl
theorem begT_len {a b:List ByteArray}(h:a.length<b.length):begT a b=false:=by
 unfold begT;rw[decide_eq_false (by omega)];rfl
theorem begT_at {a b:List ByteArray}{k:Nat}(ha:k<a.length) (hb:k<b.length) (h:a[k]≠b[k]):begT a b=false:=by
 unfold begT;rw[decide_eq_false (p:=a.take b.length=b) (fun e=>h ?_),Bool.and_false]
 have:=congrArg (·[k]?) e
 simp only[List.getElem?_take,if_pos hb,List.getElem?_eq_getElem ha,List.getElem?_eq_getElem hb,Option.some.injEq] at this;exact this
theorem stands_fc {w0:World}{S:SS}{A B:Option Addr}{c d:Nat}{a b:List ByteArray}(hx:Rd w0 S A (strs a)) (hy:Rd w0 S B (strs b)) (ha:a.length<=1000000000000) (hb:b.length<=1000000000000) :
  FC prog w0 76 [.slice A a.length c,.slice B b.length d] S (fun u S'=>u=.bool (begT a b)/\S'=S):=by
 refine FC.of known76 (by simp) ?_
 unfold pc76;simp only[bo];refine PW.s1 rfl (PW.k2 0 1 rfl (PW.seq fun K1 hK1=>PW.ae (OL.p4 rfl rfl rfl rfl (OL.n1 rfl ?_))))
 refine PW.k3 0 1 10 rfl ?_;refine PW.cond rfl (fun c10=>?_) (fun c10=>?_)
 ·try simp only[aD] at c10
  exact PW.s1 rfl (PW.k1 4 rfl (PW.ret (zR rfl ⟨congrArg Value.bool (begT_len (by omega)).symm,rfl⟩)))
 try simp only[aD] at c10
 refine PW.skip (hK1 _ _ (PW.k2 0 1 rfl (PW.seq fun K2 hK2=>PW.s1 rfl (PW.k3 0 1 5 rfl (PW.block (PW.k3 0 1 5 rfl ?_))))))
 refine PW.aR (I:=fun m T S'=>∃(k:Nat),(k<=b.length/\b.length<=a.length/\m=b.length-k/\a.take k=b.take k)/\T=([(0,.slice A a.length c),(1,.slice B b.length d),(5,.int .i64 k)]:TT)/\S'=S) (m:=b.length) ⟨0,⟨by omega,by omega,by omega,rfl⟩,rfl,rfl⟩ ?_
 rintro m _ _ ⟨k,⟨hk,hab,hm,ht⟩,rfl,rfl⟩;refine PW.seq fun K3 hK3=>PW.s4 rfl rfl rfl rfl (PW.k4 0 1 5 14 rfl ?_)
 refine PW.cond rfl (fun c14=>?_) (fun c14=>?_)
 ·try simp only[aD] at c14
  have hkl:k<b.length:=by omega
  obtain⟨a0,rfl⟩:=dg hx (by omega)
  obtain⟨b0,rfl⟩:=dg hy (by omega)
  have hx2:=hx
  have hy2:=hy
  refine PW.skip (hK3 _ _ (PW.k3 0 1 5 rfl (PW.seq fun K4 hK4=>PW.block (PW.seq fun K5 hK5=>PW.aQ mixed (QK.p2 rfl rfl (QK.x (Yields.dY rfl rfl rfl (by omega)) (QK.x (Yields.ld rfl (dD hx2 (by omega))) (QK.dp rfl ?_))))))))
  refine QK.dp rfl (QK.x (Yields.dY rfl rfl rfl (by omega)) (QK.x (Yields.ld rfl (dD hy2 hkl)) (QK.nil ?_)))
  change OL _ _ _ [_] _ _ _;refine OL.n1 rfl (hK5 _ _ (PW.k4 0 1 5 25 rfl ?_));refine PW.cond rfl (fun c25=>?_) (fun c25=>?_)
  ·skip;refine PW.s1 rfl (PW.k1 4 rfl ?_);refine PW.ret (zR rfl ?_);refine⟨congrArg Value.bool (begT_at (by omega) hkl fun e=>?_).symm,rfl⟩
   rw[e] at c25;simp at c25
  skip;refine PW.skip (hK4 _ _ (PW.k3 0 1 5 rfl (PW.ops (OL.dp rfl (OL.x (Yields.ao rfl rfl (by omega) (by omega)) (OL.n1 rfl ?_))))))
  refine af.mk (T'':=[(0,_),(1,_),(5,_)]) (wi rfl) ?_;have he:a[k]'(by omega)=b[k]:=by
   have h1:(a[k]'(by omega)).toList=b[k].toList:=by simpa using c25
   exact toL_inj.1 h1
  exact⟨b.length-(k+1),by omega,k+1,⟨by omega,hab,rfl,by rw[aA hkl,aA (show k<a.length by omega),ht,he]⟩,rfl,rfl⟩
 try simp only[aD] at c14
 refine PW.exit (hK2 _ _ (PW.cD (T':=[]) trivial (PW.s1 rfl (PW.k1 4 rfl ?_))));refine PW.ret (zR rfl ?_);have hke:k=b.length:=by omega
 refine⟨congrArg Value.bool (begT_full hab ?_).symm,rfl⟩;rw[hke,List.take_length] at ht;exact ht
theorem vertices_fc {w0:World}{S:SS}{A B:Option Addr}{c d:Nat}{a b:List ay}(hx:Rd w0 S A (aI a)) (hy:Rd w0 S B (aI b)) (ha:a.length<=1000000000000) (hb:b.length<=1000000000000) :
  FC prog w0 12 [.slice A a.length c,.slice B b.length d] S (fun u S'=>u=.bool (decide (a=b))/\S'=S):=by
 refine FC.of known12 (by simp) ?_
 unfold pc12;simp only[bo];refine PW.s1 rfl (PW.k2 0 1 rfl (PW.seq fun K1 hK1=>PW.ae (OL.p4 rfl rfl rfl rfl (OL.n1 rfl ?_))))
 refine PW.k3 0 1 10 rfl ?_;refine PW.cond rfl (fun c10=>?_) (fun c10=>?_)
 ·try simp only[aD] at c10
  refine PW.s1 rfl (PW.k1 4 rfl ?_);refine PW.ret (zR rfl ?_);refine⟨congrArg Value.bool (Eq.symm (decide_eq_false fun e=>?_)),rfl⟩
  subst e;exact absurd rfl c10
 try simp only[aD] at c10
 refine PW.skip (hK1 _ _ (PW.k2 0 1 rfl (PW.seq fun K2 hK2=>PW.s1 rfl (PW.k3 0 1 5 rfl (PW.block (PW.k3 0 1 5 rfl ?_))))))
 refine PW.aR (I:=fun m T S'=>∃(k:Nat),(k<=a.length/\a.length=b.length/\m=a.length-k/\a.take k=b.take k)/\T=([(0,.slice A a.length c),(1,.slice B b.length d),(5,.int .i64 k)]:TT)/\S'=S) (m:=a.length) ⟨0,⟨by omega,by omega,by omega,rfl⟩,rfl,rfl⟩ ?_
 rintro m _ _ ⟨k,⟨hk,hab,hm,ht⟩,rfl,rfl⟩;refine PW.seq fun K3 hK3=>PW.s4 rfl rfl rfl rfl (PW.k4 0 1 5 14 rfl ?_)
 refine PW.cond rfl (fun c14=>?_) (fun c14=>?_)
 ·try simp only[aD] at c14
  have hkl:k<a.length:=by omega
  obtain⟨a0,rfl⟩:=bE hx (by omega)
  obtain⟨b0,rfl⟩:=bE hy (by omega)
  have hx2:=hx
  have hy2:=hy
  refine PW.skip (hK3 _ _ (PW.k3 0 1 5 rfl (PW.seq fun K4 hK4=>PW.block (PW.seq fun K5 hK5=>PW.aQ mixed (QK.p2 rfl rfl (QK.x (Yields.bO rfl rfl rfl (by omega)) (QK.x (Yields.aT rfl (aa _) (bS hx2 hkl)) (QK.dp rfl ?_))))))))
  refine QK.dp rfl (QK.x (Yields.bO rfl rfl rfl (by omega)) (QK.x (Yields.aT rfl (aa _) (bS hy2 (by omega))) (QK.nil ?_)))
  change OL _ _ _ [_] _ _ _;refine OL.x (Yields.eb (neg:=true) rfl rfl (aO _ _)) (OL.nil (hK5 _ _ (PW.k4 0 1 5 25 rfl ?_)));refine PW.cond rfl (fun c25=>?_) (fun c25=>?_)
  ·skip;refine PW.s1 rfl (PW.k1 4 rfl ?_);refine PW.ret (zR rfl ?_);refine⟨congrArg Value.bool (Eq.symm (decide_eq_false fun e=>?_)),rfl⟩
   subst e;simp at c25
  skip;refine PW.skip (hK4 _ _ (PW.k3 0 1 5 rfl (PW.ops (OL.dp rfl (OL.x (Yields.ao rfl rfl (by omega) (by omega)) (OL.n1 rfl ?_))))))
  refine af.mk (T'':=[(0,_),(1,_),(5,_)]) (wi rfl) ?_;have he:a[k] = b[k]'(by omega):=by simpa using c25
  exact⟨a.length-(k+1),by omega,k+1,⟨by omega,hab,rfl,by rw[aA hkl,aA (show k<b.length by omega),ht,he]⟩,rfl,rfl⟩
 try simp only[aD] at c14
 refine PW.exit (hK2 _ _ (PW.cD (T':=[]) trivial (PW.s1 rfl (PW.k1 4 rfl ?_))));refine PW.ret (zR rfl ?_);have hke:k=a.length:=by omega
 refine⟨congrArg Value.bool (Eq.symm (decide_eq_true ?_)),rfl⟩;rw[hke,List.take_length,hab,List.take_length] at ht;exact ht
def putP (l:List ay) (v:ay):List ay:=l.takeWhile (fun x=>cy x v)++v::l.dropWhile (fun x=>cy x v)
theorem takeWhile_at {α:Type}{p:α->Bool}:∀{l:List α}{k:Nat},k<=l.length->(∀x∈l.take k,p x=true)->(∀h:k<l.length,p l[k] = false)->l.takeWhile p=l.take k/\l.dropWhile p=l.drop k
 |[],k,hk,_,_=>by simp
 |a::l,0,_,_,h2=>by
  have:=h2 (by simp)
  simp only[List.getElem_cons_zero] at this;simp[List.takeWhile_cons,List.dropWhile_cons,this]
 |a::l,k+1,hk,h1,h2=>by
  have ha:p a=true:=h1 a (by simp)
  have:=takeWhile_at (p:=p) (l:=l) (k:=k) (by simp only[List.length_cons] at hk;omega) (fun x hx=>h1 x (by simp[hx])) (fun h=>by have:=h2 (by simp only[List.length_cons];omega);simpa using this)
  simp[List.takeWhile_cons,List.dropWhile_cons,ha,this.1,this.2]
theorem putP_at {l:List ay}{v:ay}{k:Nat}(hk:k<=l.length) (h1:∀x∈l.take k,cy x v=true) (h2:∀h:k<l.length,cy l[k] v=false):putP l v=l.take k++v::l.drop k:=by
 unfold putP;rw[(takeWhile_at hk h1 h2).1,(takeWhile_at hk h1 h2).2]
theorem vtxs_preK {w0:World}{S:SS}{A:Option Addr}{l:List ay}{k:Nat}(hk:k<=l.length) (h:Rd w0 S A (aI l)):Rd w0 S A (aI (l.take k)):=
 h.pre (by rw[<- vtxs_take l k hk];exact List.take_prefix _ _)
theorem cutV33 {A:Option Addr}{cap i:Nat}{l:List ay}(hi:i<=l.length) (hl:l.length<=cap) (hA:A=none->cap=0) :
  ∃A' c',cutV A cap 33 i l.length=.slice A' (l.drop i).length c'/\(A'=none->c'=0)/\∀(w0:World) (S:SS),Rd w0 S A (aI l)->Rd w0 S A' (aI (l.drop i)):=by
 have hlen:(l.drop i).length=l.length-i:=List.length_drop
 unfold cutV;rw[<- hlen];refine⟨_,_,rfl,?_,fun w0 S h=>?_⟩
 ·split
  ·rename_i e;intro _;omega
  intro e;cases A with
  |none=>have:=hA rfl;omega
  |some a=>cases e
 split
 ·have:l.drop i=[]:=List.eq_nil_of_length_eq_zero (by omega)
  rw[this];exact Rd.nil
 intro q v hq;rw[<- vtxs_drop l i hi,List.getElem?_drop] at hq;obtain⟨a,rfl,hc⟩:=h _ _ hq;exact⟨a.add (i*33),rfl,by rw[aZ];exact hc⟩
theorem rput_fc {w0:World}{S:SS}{A:Option Addr}{c:Nat}{l:List ay}{v:ay}(hx:Rd w0 S A (aI l)) (hc:l.length<=c) (hA:A=none->c=0) (hb:l.length<=1000000000000) :
  FC prog w0 81 [.slice A l.length c,aP v] S (fun u S'=>∃sg,S'=sg::S/\aV 27 33 u (putP l v).length (aI (putP l v)) sg):=by
 refine FC.ofD known81 (by simp) ?_
 unfold pc81;simp only[bo];refine PW.ae (OL.c (OW.bx rfl) ?_);rintro _ _ ⟨r3,rfl,rfl⟩;rw[bB,aa];refine OL.n1 rfl (PW.k2 0 3 rfl (PW.s1 rfl (PW.k3 0 3 5 rfl (PW.seq fun K1 hK1=>PW.block (PW.k3 0 3 5 rfl ?_)))))
 refine PW.aR (I:=fun m T S'=>∃(k:Nat),(k<=l.length/\m=l.length-k/\∀x∈l.take k,cy x v=true)/\T=([(0,.slice A l.length c),(3,.pointer (some ⟨r3,0,none⟩)),(5,.int .i64 k)]:TT)/\S'=[(r3,.cells (au v) 27 33)]::S) (m:=l.length) ⟨0,⟨by omega,by omega,fun x hx=>by simp at hx⟩,rfl,rfl⟩ ?_
 rintro m _ _ ⟨k,⟨hk,hm,hall⟩,rfl,rfl⟩;refine PW.seq fun K2 hK2=>PW.seq fun K3 hK3=>PW.aQ mixed (QK.p3 rfl rfl rfl ?_)
 refine QK.bool trivial (Yields.pure rfl) (fun g10=>?_) (fun g10=>?_)
 ·try simp only[aD] at g10
  have hkl:k<l.length:=by omega
  obtain⟨a0,rfl⟩:=bE hx (by omega)
  have hx2:=hx.cons (s:=[(r3,.cells (au v) 27 33)])
  refine QK.dp rfl (QK.ak rfl (.pure rfl) (QK.ak rfl (.pure rfl) (QK.ak rfl (.bO rfl rfl rfl (by omega)) (QK.ak rfl (.aT rfl (aa _) (bS hx2 hkl)) (QK.ak rfl (.aT rfl (aa _) (av bF)) (QK.nil ?_))))))
  change OL _ _ _ [_,_] _ _ _;refine OL.call rfl rfl (rLess_fc) ?_;rintro _ Sx ⟨rfl,hSx⟩;rw[hSx];clear hSx;refine OL.n1 rfl (hK3 _ _ (PW.k4 0 3 5 18 rfl ?_));refine PW.cond rfl (fun c18=>?_) (fun c18=>?_)
  ·skip;refine PW.skip (hK2 _ _ (PW.k3 0 3 5 rfl (PW.block (PW.ops (OL.dp rfl (OL.x (Yields.ao rfl rfl (by omega) (by omega)) (OL.n1 rfl ?_)))))))
   refine af.mk (T'':=[(0,_),(3,_),(5,_)]) (wi rfl) ?_;exact⟨l.length-(k+1),by omega,k+1,⟨by omega,rfl,fun x hx=>by
    rw[aA hkl,List.mem_append] at hx;rcases hx with h|h
    ·exact hall x h
    rw[List.mem_singleton.1 h];exact c18⟩,rfl,rfl⟩
  skip;refine PW.exit (hK1 _ _ (PW.k3 0 3 5 rfl (PW.s1 rfl (PW.k4 0 3 5 6 rfl (PW.ae ?_)))));have hpt:putP l v=l.take k++v::l.drop k:=putP_at hk hall (by first|exact fun h=>absurd h (by omega)|exact fun h=>by simpa using c18)
  have htk:(l.take k).length=k:=by rw[List.length_take];omega
  refine OL.bZ (S':=[]::[(r3,.cells (au v) 27 33)]::S) (Sub.cL (Sub.refl _)) (OL.p3 rfl rfl rfl ?_);refine OL.x (Yields.to (v':=.slice _ (l.take k).length c) (Yields.slS (l:=0) (h:=k) rfl rfl rfl (.inr ⟨rfl,rfl⟩) (.inl rfl) (by omega) (by omega)) ((cutV0 _ _ _ _).trans (congrArg (fun z=>Value.slice _ z c) htk.symm))) ?_
  refine OL.c (OW.appW (k:=0) (xs:=[]) (news:=aI (l.take k)) rfl rfl (aV.nil 27 33) rfl (bT _) (by decide) (vtxs_preK hk hx.cons.cons) hA (vtxs_one _) (by omega) (by unfold maxLen;omega)) ?_
  rintro v25 _ ⟨sg25,rfl,hs25⟩;refine OL.n1 rfl (PW.k4 0 3 5 6 rfl (PW.ae (OL.dp rfl (OL.x (Yields.aT rfl (aa _) (av dm)) (OL.c (OW.fl (cs:=au v) (fill_one rfl rfl)) ?_)))));rintro _ _ ⟨r28,rfl,rfl⟩;rw[aa];refine OL.c (OW.appW (k:=1) (news:=au v) rfl rfl hs25 rfl (aa _) (by decide) (Rd.own (E:=27) (tot:=33) bF) (fun h=>by cases h) (bL _) (by omega) (by unfold maxLen;omega)) ?_
  rintro v29 _ ⟨sg29,rfl,hs29⟩;refine OL.n1 rfl (PW.k3 0 5 6 rfl (PW.ae (OL.p3 rfl rfl rfl ?_)));obtain⟨A2,c2,hcut2,hn2,hr2⟩:=cutV33 (cap:=c) hk hc hA;have hdl:(l.drop k).length=l.length-k:=List.length_drop
  refine OL.x (Yields.to (v':=.slice A2 (l.drop k).length c2) (Yields.slS (l:=k) (h:=l.length) rfl rfl rfl (.inl rfl) (.inr ⟨rfl,rfl⟩) hk hc) hcut2) ?_;refine OL.c (OW.appW (k:=1) (news:=aI (l.drop k)) rfl rfl hs29 rfl (bT _) (by decide) (hr2 _ _ hx.cons.cons.cons) hn2 (vtxs_one _) (by omega) (by unfold maxLen;omega)) ?_
  rintro v34 _ ⟨sg34,rfl,hs34⟩;refine OL.n1 rfl (PW.k1 4 rfl ?_);refine PW.ret (zR rfl ?_);have he:[]++aI (l.take k)++au v++aI (l.drop k)=aI (putP l v):=by
   rw[hpt,dc,vtxs_cons,List.nil_append,List.append_assoc]
  rw[he] at hs34;exact⟨sg34::S,Sub.ec [1] 3 (by decide) ([(r28,.cells (au v) 27 33)]::sg34::[(r3,.cells (au v) 27 33)]::S),sg34,rfl,slv_len hs34 (by rw[hpt,List.length_append,List.length_cons];omega)⟩
 try simp only[aD] at g10
 refine QK.dp rfl (QK.off rfl rfl (QK.off rfl rfl (QK.off rfl rfl (QK.off rfl rfl (QK.off rfl rfl (QK.nil ?_))))));change OL _ _ _ [_,_] _ _ _;refine OL.off rfl rfl (OL.n1 rfl (hK3 _ _ (PW.k4 0 3 5 18 rfl (PW.ite (b:=false) rfl ?_))));rw[if_neg Bool.false_ne_true];refine PW.exit (hK1 _ _ (PW.k3 0 3 5 rfl (PW.s1 rfl (PW.k4 0 3 5 6 rfl (PW.ae ?_)))));have hpt:putP l v=l.take k++v::l.drop k:=putP_at hk hall (by first|exact fun h=>absurd h (by omega)|exact fun h=>by simpa using c18)
 have htk:(l.take k).length=k:=by rw[List.length_take];omega
 refine OL.bZ (S':=[]::[(r3,.cells (au v) 27 33)]::S) (Sub.cL (Sub.refl _)) (OL.p3 rfl rfl rfl ?_);refine OL.x (Yields.to (v':=.slice _ (l.take k).length c) (Yields.slS (l:=0) (h:=k) rfl rfl rfl (.inr ⟨rfl,rfl⟩) (.inl rfl) (by omega) (by omega)) ((cutV0 _ _ _ _).trans (congrArg (fun z=>Value.slice _ z c) htk.symm))) ?_
 refine OL.c (OW.appW (k:=0) (xs:=[]) (news:=aI (l.take k)) rfl rfl (aV.nil 27 33) rfl (bT _) (by decide) (vtxs_preK hk hx.cons.cons) hA (vtxs_one _) (by omega) (by unfold maxLen;omega)) ?_
 rintro v25 _ ⟨sg25,rfl,hs25⟩;refine OL.n1 rfl (PW.k4 0 3 5 6 rfl (PW.ae (OL.dp rfl (OL.x (Yields.aT rfl (aa _) (av dm)) (OL.c (OW.fl (cs:=au v) (fill_one rfl rfl)) ?_)))));rintro _ _ ⟨r28,rfl,rfl⟩;rw[aa];refine OL.c (OW.appW (k:=1) (news:=au v) rfl rfl hs25 rfl (aa _) (by decide) (Rd.own (E:=27) (tot:=33) bF) (fun h=>by cases h) (bL _) (by omega) (by unfold maxLen;omega)) ?_
 rintro v29 _ ⟨sg29,rfl,hs29⟩;refine OL.n1 rfl (PW.k3 0 5 6 rfl (PW.ae (OL.p3 rfl rfl rfl ?_)));obtain⟨A2,c2,hcut2,hn2,hr2⟩:=cutV33 (cap:=c) hk hc hA;have hdl:(l.drop k).length=l.length-k:=List.length_drop
 refine OL.x (Yields.to (v':=.slice A2 (l.drop k).length c2) (Yields.slS (l:=k) (h:=l.length) rfl rfl rfl (.inl rfl) (.inr ⟨rfl,rfl⟩) hk hc) hcut2) ?_;refine OL.c (OW.appW (k:=1) (news:=aI (l.drop k)) rfl rfl hs29 rfl (bT _) (by decide) (hr2 _ _ hx.cons.cons.cons) hn2 (vtxs_one _) (by omega) (by unfold maxLen;omega)) ?_
 rintro v34 _ ⟨sg34,rfl,hs34⟩;refine OL.n1 rfl (PW.k1 4 rfl ?_);refine PW.ret (zR rfl ?_);have he:[]++aI (l.take k)++au v++aI (l.drop k)=aI (putP l v):=by
  rw[hpt,dc,vtxs_cons,List.nil_append,List.append_assoc]
 rw[he] at hs34;exact⟨sg34::S,Sub.ec [1] 3 (by decide) ([(r28,.cells (au v) 27 33)]::sg34::[(r3,.cells (au v) 27 33)]::S),sg34,rfl,slv_len hs34 (by rw[hpt,List.length_append,List.length_cons];omega)⟩
open Go.MyPlain
structure bj where
 op:Int
 at_:Nat
 line:ByteArray
deriving Inhabited
def markC (x:bj):List Value:=[.int .i64 x.op,.int .i64 (x.at_:Int),.string x.line]
def ee (l:List bj):List Value:=l.flatMap markC
theorem markC_len (x:bj):(markC x).length=3:=rfl
theorem markS_len (l:List bj):(ee l).length=l.length*3:=by unfold ee;rw[List.length_flatMap];simp[markC_len,List.map_const']
theorem markS_app (a b:List bj):ee (a++b)=ee a++ee b:=by unfold ee;rw[List.flatMap_append]
theorem markS_one (l:List bj):(ee l).all (·.oneCell')=true:=by
 rw[List.all_eq_true];intro v hv;obtain⟨a,_,h⟩:=List.mem_flatMap.1 hv;simp only[markC,List.mem_cons,List.not_mem_nil,or_false] at h;rcases h with rfl|rfl|rfl<;>rfl
theorem mark_snoc {v:Value}{l:List bj}{x:bj}{seg:bD}(h:aV 96 3 v (l.length+1) (ee l++markC x) seg):aV 96 3 v (l++[x]).length (ee (l++[x])) seg:=by
 rw[List.length_append,markS_app,show ee [x] = markC x by simp[ee]];exact h
theorem mark_at {w0:World}{S:SS}{a:Addr}{l:List bj}(h:Rd w0 S (some a) (ee l)) {k:Nat}(hk:k<l.length):∀(j:Nat) (v:Value),(markC l[k])[j]? = some v->Cell w0 S ((a.add (k*3)).add j) v:=by
 intro j v hj;have hj2:j<3:=by have:=(List.getElem?_eq_some_iff.1 hj).1;rwa [markC_len] at this
 rw[aZ];refine h.at ?_;unfold ee;rw[fm markC_len l (k*3+j) (by omega),show(k*3+j) / 3=k from by omega,show(k*3+j) % 3=j from by omega,getElem!_pos l k hk]
 exact hj
theorem markS_some {w0:World}{S:SS}{A:Option Addr}{l:List bj}(h:Rd w0 S A (ee l)) (hk:0<l.length):∃a,A=some a:=
 h.some (fun e=>by have:=markS_len l;rw[e] at this;simp at this;omega)
def ek (ls:List ByteArray) (st:Nat×List bj) (t:Int×Int×Int):Nat×List bj:=
 if t.1=2 then(st.1,st.2++[⟨2,st.1,ls[t.2.2.toNat]!⟩]) else(st.1+1,st.2++[⟨t.1,st.1,⟨#[]⟩⟩])
def secM (I:List aB) (s:Sec):List bj:=((scr (db I s.fr s.to) s.lines).foldl (ek s.lines) (s.fr,[])).2
theorem foldM_snoc {ls:List ByteArray}{L:List (Int×Int×Int)}{k:Nat}(hk:k<L.length) (st:Nat×List bj):(L.take (k+1)).foldl (ek ls) st=ek ls ((L.take k).foldl (ek ls) st) L[k]:=by
 rw[aA hk,List.foldl_append];rfl
theorem txts_app {I:List aB}{fr i:Nat}(hf:fr<=i) (hi:i<I.length):db I fr (i+1)=db I fr i++[txtI I[i]]:=by
 unfold db;rw[aA hi,List.drop_append_of_le_length (by rw[List.length_take];omega),List.map_append];rfl
theorem txts_len3 {I:List aB}{fr i:Nat}(hi:i<=I.length):(db I fr i).length=i-fr:=by
 unfold db;rw[List.length_map,List.length_drop,List.length_take];omega
section
variable {w0:World}{P:Program}{n r:Nat}{T:TT}{S:SS}{x v:PV}
theorem mark_st {op:Int}{i:Nat}{s:ByteArray}{z:List Value}(hx:x.val T=some (.pointer (some ⟨r,0,none⟩))) (hv:v.val T=some (.agg #[.int .i64 op,.int .i64 (i:Int),.string s])) (hz:z.length=3) :
  OW P w0 n (.st 3 x v) T ([(r,.cells z 96 3)]::S) (fun _ S'=>S'=[(r,.cells (markC ⟨op,i,s⟩) 96 3)]::S):=by
 refine(OW.st (k:=0) (c:=z) (u:=.agg #[.int .i64 op,.int .i64 (i:Int),.string s]) hx hv rfl (show(Value.agg #[.int .i64 op,.int .i64 (i:Int),.string s]).cells.size=3 from rfl) (by omega) rfl).mono ?_
 rintro _ _ rfl;rw[show(Value.agg #[.int .i64 op,.int .i64 (i:Int),.string s]).cells.toList=markC ⟨op,i,s⟩ from rfl,eP (by rw[hz];rfl)]
 rfl
theorem mark_stL {op:Int}{i:Nat}{s t:ByteArray}(hx:x.val T=some (.pointer (some ⟨r,2,none⟩))) (hv:v.val T=some (.string t)) :
  OW P w0 n (.st 1 x v) T ([(r,.cells (markC ⟨op,i,s⟩) 96 3)]::S) (fun _ S'=>S'=[(r,.cells (markC ⟨op,i,t⟩) 96 3)]::S):=by
 refine(OW.st (k:=0) (c:=markC ⟨op,i,s⟩) (u:=.string t) hx hv rfl (show(Value.string t).cells.size=1 from rfl) (by rw[markC_len];omega) rfl).mono ?_
 rintro _ _ rfl;rfl
end
theorem section_fc {w0:World}{S:SS}{A B:Option Addr}{c d:Nat}{aC:List bg}{s:Sec}(hx:Rd w0 S A (bl aC)) (hr:∀x∈aC,ItemRd w0 S x) (hsol:∀x∈aC,x.block=false->0<x.lines.length) (hls:Rd w0 S B (strs s.lines)) (hf:s.fr<=s.to) (ht:s.to<=aC.length) (hn:aC.length<=1000) (hll:s.lines.length<=1000) :
  FC prog w0 80 [.slice A aC.length c,.int .i64 (s.fr:Int),.int .i64 (s.to:Int),.slice B s.lines.length d] S (fun u S'=>∃v sg,u=.tuple #[v,.int .i64 0]/\S'=sg::S/\aV 96 3 v (secM (b8 aC) s).length (ee (secM (b8 aC) s)) sg/\(secM (b8 aC) s).length<=2000):=by
 have hpl:(b8 aC).length=aC.length:=List.length_map _
 have htl:(db (b8 aC) s.fr s.to).length<=1000:=by rw[txts_len3 (by omega)];omega
 refine FC.ofD known80 (by simp) ?_
 unfold pc80;simp only[bo];refine PW.s2 rfl rfl (PW.k4 0 1 2 3 rfl (PW.s1 rfl (PW.k5 0 1 2 3 10 rfl (PW.seq fun K1 hK1=>PW.ae (OL.bZ (S':=[]::S) (Sub.cL (Sub.refl _)) ?_)))))
 refine OL.n2 rfl rfl (PW.k6 0 1 2 3 10 11 rfl (PW.block (PW.k6 0 1 2 3 10 11 rfl ?_)));refine PW.aR (I:=fun m T S'=>∃(i:Nat) (v:Value) (sg:bD),(s.fr<=i/\i<=s.to/\m=s.to-i/\aV 9 1 v (db (b8 aC) s.fr i).length (strs (db (b8 aC) s.fr i)) sg)/\T=([(0,.slice A aC.length c),(1,.int .i64 (s.fr:Int)),(2,.int .i64 (s.to:Int)),(3,.slice B s.lines.length d),(10,v),(11,.int .i64 (i:Int))]:TT)/\S'=sg::S) (m:=s.to-s.fr) ⟨s.fr,_,[],⟨Nat.le_refl _,hf,rfl,by rw[show db (b8 aC) s.fr s.fr=[] from List.eq_nil_of_length_eq_zero (by rw[txts_len3 (by omega)];omega)];exact aV.nil 9 1⟩,rfl,rfl⟩ ?_
 rintro m _ _ ⟨i,v,sg,⟨hfi,hit,hm,hsg⟩,rfl,rfl⟩;refine PW.seq fun K2 hK2=>PW.s3 rfl rfl rfl (PW.k7 0 1 2 3 10 11 21 rfl ?_)
 refine PW.cond rfl (fun c21=>?_) (fun c21=>?_)
 ·try simp only[aD] at c21
  have hil:i<aC.length:=by omega
  have hvl:(db (b8 aC) s.fr i).length<=1000:=by rw[txts_len3 (by omega)];omega
  obtain⟨a0,rfl⟩:=cA hx (by omega)
  have hr2:=hx.cons (s:=sg)
  have hte:=txts_app (I:=b8 aC) (fr:=s.fr) (i:=i) hfi (by omega)
  have hgi:(b8 aC)[i]'(by omega)=aC[i].pl:=by unfold b8;rw[List.getElem_map]
  rw[hgi] at hte;refine PW.skip (hK2 _ _ (PW.k6 0 1 2 3 10 11 rfl (PW.seq fun K3 hK3=>PW.block (PW.ae (OL.p2 rfl rfl (OL.x (Yields.bO rfl rfl rfl (by omega)) (OL.dp rfl (OL.x (Yields.ld rfl (bz hr2 hil 1 _ rfl)) (OL.nil ?_)))))))))
  refine PW.k7 0 1 2 3 10 11 28 rfl ?_;refine PW.cond rfl (fun c28=>?_) (fun c28=>?_)
  ·skip;refine PW.ops (OL.dp rfl ?_);apply OL.bV (k:=0)
   ·rfl
   ·rfl
   ·rfl
   ·rfl
   ·rfl
   ·rfl
   ·exact hsg
   ·rfl
   ·omega
   ·unfold maxLen;omega
   intro v31 sgn hsn;refine OL.n1 rfl (hK3 _ _ (PW.k6 0 1 2 3 10 11 rfl (PW.ops (OL.dp rfl (OL.x (Yields.ao rfl rfl (by omega) (by omega)) (OL.n1 rfl ?_))))))
   refine af.mk (T'':=[(0,_),(1,_),(2,_),(3,_),(10,_),(11,_)]) (wi rfl) ?_;have he:txtI aC[i].pl=neverB:=by unfold txtI;rw[show aC[i].pl.block=aC[i].block from rfl,c28];rfl
   exact⟨s.to-(i+1),by omega,i+1,_,sgn,⟨by omega,by omega,rfl,by rw[hte,he];exact bt (z:=neverB) hsn⟩,rfl,rfl⟩
  skip;have hpos:=hsol _ (List.getElem_mem hil) c28
  have hrl:=(hr _ (List.getElem_mem hil)).rdL
  obtain⟨b0,hb0⟩:=bR hrl hpos;have hrl2:Rd w0 (sg::S) (some b0) (lines aC[i].lines):=by rw[<- hb0];exact hrl.cons
  refine PW.ops (OL.p3 rfl rfl rfl (OL.x (Yields.bO rfl rfl rfl (by omega)) (OL.dp rfl (OL.x (Yields.ld rfl (bz hr2 hil 0 _ rfl)) ?_))))
  rw[hb0];refine OL.x (Yields.bO (j:=0) rfl rfl rfl hpos) (OL.dp rfl (OL.x (Yields.ld rfl (fA (k:=0) hrl2 hpos)) ?_));apply OL.bV (k:=0)
  ·rfl
  ·rfl
  ·rfl
  ·rfl
  ·rfl
  ·rfl
  ·exact hsg
  ·rfl
  ·omega
  ·unfold maxLen;omega
  intro v42 sgn hsn;refine OL.n1 rfl (hK3 _ _ (PW.k6 0 1 2 3 10 11 rfl (PW.ops (OL.dp rfl (OL.x (Yields.ao rfl rfl (by omega) (by omega)) (OL.n1 rfl ?_))))))
  refine af.mk (T'':=[(0,_),(1,_),(2,_),(3,_),(10,_),(11,_)]) (wi rfl) ?_;have he:txtI aC[i].pl=aC[i].lines[0].text:=by unfold txtI;rw[show aC[i].pl.block=aC[i].block from rfl,c28];show aC[i].lines[0]!.text=_;rw[getElem!_pos _ 0 hpos]
  exact⟨s.to-(i+1),by omega,i+1,_,sgn,⟨by omega,by omega,rfl,by rw[hte,he];exact bt hsn⟩,rfl,rfl⟩
 try simp only[aD] at c21
 have hie:i=s.to:=by omega
 rw[hie] at hsg;obtain⟨At,ct,rfl,hnt,hct,hrt⟩:=aF (w0:=w0) hsg;refine PW.exit (hK1 _ _ (PW.k3 1 3 10 rfl (PW.ae (OL.p2 rfl rfl (OL.l rfl (My.rdiff_fc (xs:=db (b8 aC) s.fr s.to) (ys:=s.lines) (hrt _) hls.cons (by omega) (by omega)) ?_)))))
 rintro _ _ ⟨u,sgs,rfl,rfl,hss⟩;obtain⟨L,hL⟩:∃z,z=scr (db (b8 aC) s.fr s.to) s.lines:=⟨_,rfl⟩;rw[<- hL] at hss;have hLl:L.length<=2000:=by have:=scr_length (db (b8 aC) s.fr s.to) s.lines;rw[<- hL] at this;omega
 obtain⟨Au,cu,rfl,hnu,hcu,hru⟩:=aF (w0:=w0) hss;refine OL.p4 rfl rfl rfl rfl (OL.n1 rfl (PW.k4 1 3 12 13 rfl (PW.seq fun K4 hK4=>PW.ae (OL.dp rfl (OL.x (Yields.to (v':=.bool false) (Yields.pure rfl) rfl) (OL.nil ?_))))))
 refine PW.k5 1 3 12 13 50 rfl (PW.ite (b:=false) rfl ?_);rw[if_neg Bool.false_ne_true];refine PW.skip (hK4 _ _ (PW.k3 1 3 12 rfl (PW.s1 rfl (PW.k4 1 3 12 14 rfl (PW.ae (OL.bZ (S':=[]::sgs::S) (Sub.cL (Sub.cons (Sub.drop (Sub.refl _)))) (OL.n2 rfl rfl ?_)))))));refine PW.k4 3 12 14 15 rfl (PW.seq fun K5 hK5=>PW.s1 rfl (PW.k5 3 12 14 15 16 rfl (PW.block (PW.k5 3 12 14 15 16 rfl ?_))))
 refine PW.aR (I:=fun m T S'=>∃(k:Nat) (v:Value) (sg:bD),(k<=L.length/\m=L.length-k/\aV 96 3 v ((L.take k).foldl (ek s.lines) (s.fr,[])).2.length (ee ((L.take k).foldl (ek s.lines) (s.fr,[])).2) sg/\((L.take k).foldl (ek s.lines) (s.fr,[])).1<=s.fr+k/\((L.take k).foldl (ek s.lines) (s.fr,[])).2.length=k)/\T=([(3,.slice B s.lines.length d),(12,.slice Au L.length cu),(14,v),(15,.int .i64 (((L.take k).foldl (ek s.lines) (s.fr,[])).1:Int)),(16,.int .i64 k)]:TT)/\S'=sg::sgs::S) (m:=L.length) ⟨0,_,[],⟨by omega,rfl,aV.nil 96 3,Nat.le_refl _,rfl⟩,rfl,rfl⟩ ?_
 rintro m _ _ ⟨k,v,sg,⟨hk,hm,hsg,hat,hol⟩,rfl,rfl⟩;refine PW.seq fun K6 hK6=>PW.s4 rfl rfl rfl rfl (PW.k6 3 12 14 15 16 56 rfl ?_)
 refine PW.cond rfl (fun c56=>?_) (fun c56=>?_)
 ·try simp only[aD] at c56
  have hkl:k<L.length:=by omega
  obtain⟨a1,rfl⟩:=(hru []).some (My.stsC_ne (by omega))
  have hru2:Rd w0 (sg::sgs::S) (some a1) (My.stsC L):=(hru S).cons
  obtain⟨st,hst⟩:∃z,z=(L.take k).foldl (ek s.lines) (s.fr,[]):=⟨_,rfl⟩;rw[<- hst] at hsg hat hol ⊢;have hfs:=foldM_snoc (ls:=s.lines) hkl (s.fr,[])
  rw[<- hst] at hfs;refine PW.skip (hK6 _ _ (PW.k5 3 12 14 15 16 rfl (PW.seq fun K7 hK7=>PW.block (PW.ae (OL.p2 rfl rfl (OL.x (Yields.bO rfl rfl rfl (by omega)) (OL.dp rfl ?_)))))))
  refine OL.x (Yields.ld rfl (My.st_at (k:=k) (l:=L) hru2 hkl 0 (show 0<3 by decide) rfl)) ?_
  refine OL.dp rfl (OL.x (Yields.build (cs:=markC ⟨L[k].1,st.1,⟨#[]⟩⟩) rfl) (OL.c OW.al ?_));rintro _ _ ⟨r17,rfl,rfl⟩;change OL _ _ _ _ _ ([(r17,.cells [.int .i64 0,.int .i64 0,.string ⟨#[]⟩] 96 3)]::sg::sgs::S) _;refine OL.c (mark_st rfl rfl rfl) ?_;rintro _ _ rfl;refine OL.nil (PW.k6 3 12 14 15 16 17 rfl (PW.seq fun K8 hK8=>PW.ae (OL.dp rfl (OL.x (Yields.ld rfl (az (j:=0) (c:=markC ⟨L[k].1,st.1,⟨#[]⟩⟩) (E:=96) (tot:=3) bF rfl)) (OL.n1 rfl (PW.k7 3 12 14 15 16 17 68 rfl ?_))))))
  refine PW.cond rfl (fun c68=>?_) (fun c68=>?_)
  ·skip
   replace c68:L[k].1=2:=by simpa using c68
   obtain⟨b,hb,hbl⟩:=scr_new (xs:=db (b8 aC) s.fr s.to) (ys:=s.lines) (t:=L[k]) (by rw[<- hL];exact List.getElem_mem hkl) c68
   obtain⟨aL,rfl⟩:=dg hls (by omega)
   have hls2:Rd w0 ([(r17,.cells (markC ⟨L[k].1,st.1,⟨#[]⟩⟩) 96 3)]::sg::sgs::S) (some aL) (strs s.lines):=hls.cons.cons.cons
   refine PW.ops (OL.p3 rfl rfl rfl (OL.x (Yields.bO rfl rfl rfl (by omega)) (OL.dp rfl ?_)))
   refine OL.x (Yields.ld rfl (My.st_at (k:=k) (l:=L) hru2.cons hkl 2 (show 2<3 by decide) rfl)) ?_
   refine OL.x (Yields.dY (j:=b) rfl rfl hb hbl) (OL.x (Yields.ld rfl (dD hls2 hbl)) (OL.dp rfl (OL.c (mark_stL rfl rfl) ?_)));rintro _ _ rfl;refine OL.nil (hK8 _ _ (PW.k6 3 12 14 15 16 17 rfl (PW.ops (OL.dp rfl (OL.x (Yields.aT rfl rfl (av (E:=96) (tot:=3) bF)) ?_)))));apply OL.bV (k:=1)
   ·rfl
   ·rfl
   ·rfl
   ·rfl
   ·rfl
   ·rfl
   ·exact hsg
   ·rfl
   ·omega
   ·unfold maxLen;omega
   intro v83 sgn hsn;refine OL.n1 rfl (hK7 _ _ (PW.k5 3 12 14 15 16 rfl (PW.ops (OL.dp rfl (OL.x (Yields.ao rfl rfl (by omega) (by omega)) (OL.n1 rfl ?_))))))
   refine af.dE (Sub.drop (Sub.refl _)) (T'':=[(3,_),(12,_),(14,_),(15,_),(16,_)]) (wi rfl) ?_;have he:ek s.lines st L[k] = (st.1,st.2++[⟨2,st.1,s.lines[b]⟩]):=by
    unfold ek;rw[if_pos c68,hb,Int.toNat_natCast,getElem!_pos _ b hbl]
   rw[he] at hfs;refine⟨L.length-(k+1),by omega,k+1,v83,sgn,⟨by omega,rfl,?_,?_,?_⟩,?_,rfl⟩
   ·rw[hfs];rw[c68] at hsn;exact mark_snoc hsn
   ·rw[hfs];show st.1<=_;omega
   ·rw[hfs];show(st.2++_).length=_;rw[List.length_append,hol];rfl
   rw[hfs];rfl
  skip
  replace c68:¬L[k].1=2:=by simpa using c68
  refine PW.ops (OL.dp rfl (OL.x (Yields.ao rfl rfl (by omega) (by omega)) (OL.n1 rfl (hK8 _ _ (PW.k6 3 12 14 15 16 17 rfl (PW.ops (OL.dp rfl (OL.x (Yields.aT rfl rfl (av (E:=96) (tot:=3) bF)) ?_))))))))
  apply OL.bV (k:=1)
  ·rfl
  ·rfl
  ·rfl
  ·rfl
  ·rfl
  ·rfl
  ·exact hsg
  ·rfl
  ·omega
  ·unfold maxLen;omega
  intro v83 sgn hsn;refine OL.n1 rfl (hK7 _ _ (PW.k5 3 12 14 15 16 rfl (PW.ops (OL.dp rfl (OL.x (Yields.ao rfl rfl (by omega) (by omega)) (OL.n1 rfl ?_))))))
  refine af.dE (Sub.drop (Sub.refl _)) (T'':=[(3,_),(12,_),(14,_),(15,_),(16,_)]) (wi rfl) ?_;have he:ek s.lines st L[k] = (st.1+1,st.2++[⟨L[k].1,st.1,⟨#[]⟩⟩]):=by
   unfold ek;rw[if_neg c68]
  rw[he] at hfs;refine⟨L.length-(k+1),by omega,k+1,v83,sgn,⟨by omega,rfl,?_,?_,?_⟩,?_,rfl⟩
  ·rw[hfs];exact mark_snoc hsn
  ·rw[hfs];show st.1+1<=_;omega
  ·rw[hfs];show(st.2++_).length=_;rw[List.length_append,hol];rfl
  rw[hfs];rfl
 try simp only[aD] at c56
 refine PW.exit (hK5 _ _ (PW.k1 14 rfl (PW.s3 rfl rfl rfl (PW.k2 8 9 rfl ?_))));refine PW.ret (zR rfl ?_);have hke:k=L.length:=by omega
 rw[hke,List.take_length,hL] at hsg;have hml:(secM (b8 aC) s).length<=2000:=by
  have:((L.take k).foldl (ek s.lines) (s.fr,[])).2.length=k:=hol
  rw[hke,List.take_length] at this;unfold secM;rw[<- hL];omega
 exact⟨sg::S,Sub.ec [0] 2 (by decide) (sg::sgs::S),v,sg,rfl,rfl,hsg,hml⟩
end Go.Proofs.Gr

namespace Go.Proofs.Gr
open Go.SL Go.RowKit Go.Proofs Go.GP Go.Proofs.Tryz
set_option maxHeartbeats 1000000
open Go.MyPlain
def tokL:Tok->ByteArray
 |.free s=>s
 |.blk _=>⟨#[]⟩
def tokB:Tok->Int
 |.free _=>-1
 |.blk k=>(k:Int)
def tokC (t:Tok):List Value:=[.string (tokL t),.int .i64 (tokB t)]
def fD (l:List Tok):List Value:=l.flatMap tokC
theorem tokC_len (t:Tok):(tokC t).length=2:=rfl
theorem toksS_len (l:List Tok):(fD l).length=l.length*2:=by unfold fD;rw[List.length_flatMap];simp[tokC_len,List.map_const']
theorem toksS_app (a b:List Tok):fD (a++b)=fD a++fD b:=by unfold fD;rw[List.flatMap_append]
theorem tok_snoc {v:Value}{l:List Tok}{x:Tok}{seg:bD}(h:aV 91 2 v (l.length+1) (fD l++tokC x) seg):aV 91 2 v (l++[x]).length (fD (l++[x])) seg:=by
 rw[List.length_append,toksS_app,show fD [x] = tokC x by simp[fD]];exact h
theorem tok_at {w0:World}{S:SS}{a:Addr}{l:List Tok}(h:Rd w0 S (some a) (fD l)) {k:Nat}(hk:k<l.length):∀(j:Nat) (v:Value),(tokC l[k])[j]? = some v->Cell w0 S ((a.add (k*2)).add j) v:=by
 intro j v hj;have hj2:j<2:=by have:=(List.getElem?_eq_some_iff.1 hj).1;rwa [tokC_len] at this
 rw[aZ];refine h.at ?_;have:∀(l:List Tok) (k:Nat) (hk:k<l.length),(fD l)[k*2+j]? = (tokC l[k])[j]?:=by
  intro l
  induction l with
  |nil=>intro k hk;cases hk
  |cons t l ih=>
   intro k hk;rw[show fD (t::l)=tokC t++fD l from rfl]
   cases k with
   |zero=>rw[List.getElem?_append_left (by rw[tokC_len];omega)];simp
   |succ k=>
    rw[List.getElem?_append_right (by rw[tokC_len];omega),tokC_len,show(k+1)*2+j-2=k*2+j by omega,ih k (by simp only[List.length_cons] at hk;omega)]
    simp
 rw[this l k hk];exact hj
theorem toksS_some {w0:World}{S:SS}{A:Option Addr}{l:List Tok}(h:Rd w0 S A (fD l)) (hk:0<l.length):∃a,A=some a:=
 h.some (fun e=>by have:=toksS_len l;rw[e] at this;simp at this;omega)
theorem tok_free {t:Tok}(h:tokB t<0):∃s,t=.free s:=by
 cases t with
 |free s=>exact⟨s,rfl⟩
 |blk k=>exact absurd h (show ¬((k:Int)<0) by omega)
theorem tok_blk {t:Tok}(h:¬tokB t<0):∃k,t=.blk k:=by
 cases t with
 |free s=>exact absurd (show(-1:Int)<0 by decide) h
 |blk k=>exact⟨k,rfl⟩
def cW (I:List aB):List Tok->Nat->List ByteArray->List bj
 |[],fr,cur=>secM I ⟨fr,I.length,cur⟩
 |.free s::r,fr,cur=>cW I r fr (cur++[s])
 |.blk k::r,fr,cur=>secM I ⟨fr,k,cur⟩++⟨0,k,⟨#[]⟩⟩::cW I r (k+1) []
def okT (n:Nat):List Tok->Nat->Prop
 |[],_=>True
 |.free _::r,fr=>okT n r fr
 |.blk k::r,fr=>fr<=k/\k<n/\okT n r (k+1)
def freeN:List Tok->Nat
 |[]=>0
 |.free _::r=>freeN r+1
 |.blk _::r=>freeN r
theorem marks_fc {w0:World}{S:SS}{A B:Option Addr}{c d:Nat}{aC:List bg}{tk:List Tok}(hx:Rd w0 S A (bl aC)) (hr:∀x∈aC,ItemRd w0 S x) (hsol:∀x∈aC,x.block=false->0<x.lines.length) (htk:Rd w0 S B (fD tk)) (hok:okT aC.length tk 0) (hfn:freeN tk<=256) (hn:aC.length<=1000) (hnt:tk.length<=2000) :
  FC prog w0 34 [.slice A aC.length c,.slice B tk.length d] S (fun u S'=>∃v sg,u=.tuple #[v,.int .i64 0]/\S'=sg::S/\aV 96 3 v (cW (b8 aC) tk 0 []).length (ee (cW (b8 aC) tk 0 [])) sg/\(cW (b8 aC) tk 0 []).length<=10000000):=by
 have hpl:(b8 aC).length=aC.length:=List.length_map _
 obtain⟨e,hen⟩:∃e,e=aC.length:=⟨_,rfl⟩;refine FC.ofD known34 (by simp) ?_
 unfold pc34;simp only[bo];refine PW.bZ (S':=[]::[]::S) (Sub.cL (Sub.cL (Sub.refl _))) (PW.s2 rfl rfl (PW.k2 0 1 rfl (PW.s1 rfl (PW.k3 0 1 6 rfl (PW.ae (OL.dp rfl ?_))))));refine OL.nil (PW.k4 0 1 6 7 rfl (PW.s1 rfl (PW.k5 0 1 6 7 8 rfl (PW.seq fun K1 hK1=>PW.s1 rfl (PW.k6 0 1 6 7 8 9 rfl (PW.block ?_))))))
 refine PW.k6 0 1 6 7 8 9 rfl ?_;refine PW.aR (I:=fun m T S'=>∃(i:Nat) (v:Value) (sg:bD) (out:List bj) (vl:Value) (sl:bD) (cur:List ByteArray) (fr:Nat),(i<=tk.length+1/\m=tk.length+1-i/\aV 96 3 v out.length (ee out) sg/\aV 9 1 vl cur.length (strs cur) sl/\(i<=tk.length->out++cW (b8 aC) (tk.drop i) fr cur=cW (b8 aC) tk 0 []/\okT aC.length (tk.drop i) fr/\fr<=aC.length/\cur.length+freeN (tk.drop i)<=256)/\(i=tk.length+1->out=cW (b8 aC) tk 0 [])/\out.length<=2001*i/\fr<=1001)/\T=([(0,.slice A aC.length c),(1,.slice B tk.length d),(6,v),(7,vl),(8,.int .i64 (fr:Int)),(9,.int .i64 (i:Int))]:TT)/\S'=sg::sl::S) (m:=tk.length+1) ⟨0,_,[],[],_,[],[],0,⟨by omega,rfl,aV.nil 96 3,aV.nil 9 1,fun _=>⟨rfl,hok,Nat.zero_le _,by simpa using hfn⟩,fun h=>by omega,Nat.le_refl _,by omega⟩,rfl,rfl⟩ ?_
 rintro m _ _ ⟨i,v,sg,out,vl,sl,cur,fr,⟨hi,hm,hout,hcur,hin,hdone,hol,hfr1⟩,rfl,rfl⟩;refine PW.seq fun K2 hK2=>PW.ae ?_
 obtain⟨Bl,dl,rfl,hnl,hcl,hrl⟩:=aF (w0:=w0) hcur;refine OL.n4 rfl rfl rfl rfl (PW.k7 0 1 6 7 8 9 16 rfl ?_);refine PW.cond rfl (fun c16=>?_) (fun c16=>?_)
 ·try simp only[aD] at c16
  refine PW.skip (hK2 _ _ (PW.k6 0 1 6 7 8 9 rfl (PW.seq fun K3 hK3=>PW.block (PW.seq fun K4 hK4=>PW.ae (OL.p3 rfl rfl rfl ?_)))))
  refine OL.bool trivial (Yields.pure rfl) (fun g22=>?_) (fun g22=>?_)
  ·try simp only[aD] at g22
   have hil:i<tk.length:=by omega
   obtain⟨b0,rfl⟩:=toksS_some htk (by omega)
   have htk2:Rd w0 (sg::sl::S) (some b0) (fD tk):=htk.cons.cons
   obtain⟨hmt,hok2,hfr,hfn2⟩:=hin (by omega)
   rw[List.drop_eq_getElem_cons hil] at hmt hok2 hfn2;obtain⟨k',hkn⟩:∃z,z=aC.length:=⟨_,rfl⟩;refine OL.dp rfl (OL.ak rfl (.pure rfl) (OL.ak rfl (.pure rfl) (OL.ak rfl (.bO rfl rfl rfl (by omega)) (OL.ak rfl (.pure rfl) (OL.ak rfl (.ld rfl (tok_at htk2 hil 1 _ rfl)) (OL.ak rfl (.pure rfl) (OL.n1 rfl (PW.k7 0 1 6 7 8 9 30 rfl ?_))))))))
   refine PW.cond rfl (fun c30=>?_) (fun c30=>?_)
   ·skip
    replace c30:tokB tk[i]<0:=by simpa using c30
    obtain⟨s,hs⟩:=tok_free c30;rw[hs] at hmt hok2 hfn2;simp only[freeN] at hfn2;refine PW.ae (OL.p3 rfl rfl rfl (OL.x (Yields.bO rfl rfl rfl (by omega)) (OL.dp rfl ?_)))
    refine OL.x (Yields.to (v':=.string s) (Yields.ld rfl (tok_at htk2 hil 0 _ rfl)) (by rw[hs];rfl)) ?_
    apply OL.bV (k:=1)
    ·rfl
    ·rfl
    ·rfl
    ·rfl
    ·rfl
    ·rfl
    ·exact hcur
    ·rfl
    ·omega
    ·unfold maxLen;omega
    intro v38 sgn hsn;refine OL.n1 rfl (PW.k6 0 1 6 7 8 9 rfl (PW.exit (hK3 _ _ (PW.k6 0 1 6 7 8 9 rfl (PW.ops (OL.dp rfl (OL.x (Yields.ao rfl rfl (by omega) (by omega)) (OL.n1 rfl ?_))))))))
    refine af.mk (T'':=[(0,_),(1,_),(6,_),(7,_),(8,_),(9,_)]) (wi rfl) ?_;exact⟨tk.length+1-(i+1),by omega,i+1,_,sg,out,_,sgn,cur++[s],fr,⟨by omega,rfl,hout,bt hsn,fun _=>⟨hmt,hok2,hfr,by rw[List.length_append];simp only[List.length_cons,List.length_nil];omega⟩,fun h=>by omega,by omega,hfr1⟩,rfl,rfl⟩
   skip
   replace c30:¬tokB tk[i]<0:=by simpa using c30
   obtain⟨k,hk⟩:=tok_blk c30;rw[hk] at hmt hok2 hfn2;obtain⟨hfk,hkl',hok3⟩:=hok2;have hkl:k<=aC.length:=by omega
   simp only[freeN] at hfn2;have hcl2:cur.length<=256:=by omega
   refine PW.skip (hK4 _ _ (PW.k6 0 1 6 7 8 9 rfl (PW.ae (OL.dp rfl ?_))))
   first|refine OL.x (Yields.to (v':=.int .i64 (k':Int)) (Yields.pure rfl) (by rw[hkn])) ?_|refine OL.x (Yields.to (v':=.int .i64 (k:Int)) (Yields.pure rfl) (by rw[hkn])) ?_
   refine OL.n1 rfl (PW.k7 0 1 6 7 8 9 10 rfl (PW.seq fun K5 hK5=>PW.ae (OL.p3 rfl rfl rfl ?_)))
   refine OL.bool trivial (Yields.pure rfl) (fun g44=>?_) (fun g44=>?_)
   ·try simp only[aD] at g44
    refine OL.nil (PW.k8 0 1 6 7 8 9 10 44 rfl (PW.ite (b:=true) rfl ?_));rw[if_pos rfl];refine PW.ops (OL.p2 rfl rfl (OL.x (Yields.bO rfl rfl rfl (by omega)) (OL.dp rfl ?_)))
    refine OL.x (Yields.to (v':=.int .i64 (k:Int)) (Yields.ld rfl (tok_at htk2 hil 1 _ rfl)) (by rw[hk];rfl)) ?_
    refine OL.n1 rfl (hK5 _ _ (PW.k7 0 1 6 7 8 9 10 rfl (PW.ae (OL.p4 rfl rfl rfl rfl ?_))));refine OL.l rfl (section_fc (s:=⟨fr,k,cur⟩) hx.cons.cons (fun x hx=>(hr x hx).mono (Over.refl _).cons.cons) hsol (br (hrl []) (by simp)) hfk hkl hn (show cur.length<=1000 by omega)) ?_
    rintro _ _ ⟨vo,so,rfl,rfl,hso,hsl⟩;obtain⟨own,hown⟩:∃z,z=secM (b8 aC) ⟨fr,k,cur⟩:=⟨_,rfl⟩;rw[<- hown] at hso hsl;obtain⟨Ao,co,rfl,hno,hco,hro⟩:=aF (w0:=w0) hso;refine OL.p4 rfl rfl rfl rfl (OL.n1 rfl (PW.k7 0 1 6 9 10 11 12 rfl (PW.seq fun K6 hK6=>PW.ae (OL.dp rfl (OL.x (Yields.to (v':=.bool false) (Yields.pure rfl) rfl) (OL.nil ?_))))))
    refine PW.k8 0 1 6 9 10 11 12 59 rfl (PW.ite (b:=false) rfl ?_);rw[if_neg Bool.false_ne_true];refine PW.skip (hK6 _ _ (PW.k6 0 1 6 9 10 11 rfl (PW.ae (OL.p2 rfl rfl ?_))));refine OL.c (OW.appW (k:=1) (news:=ee own) rfl rfl hout rfl (markS_len _) (by decide) (hro _) hno (markS_one _) (by omega) (by unfold maxLen;omega)) ?_
    rintro v63 _ ⟨sg63,rfl,hs63⟩;refine OL.n1 rfl (PW.k5 0 1 6 9 10 rfl (PW.seq fun K7 hK7=>PW.ae (OL.p3 rfl rfl rfl ?_)))
    refine OL.bool trivial (Yields.pure rfl) (fun g67=>?_) (fun g67=>?_)
    ·try simp only[aD] at g67
     refine OL.nil (PW.k6 0 1 6 9 10 67 rfl (PW.ite (b:=true) rfl ?_));rw[if_pos rfl];refine PW.ops (OL.p2 rfl rfl (OL.x (Yields.build (cs:=markC ⟨0,k,⟨#[]⟩⟩) rfl) ?_));apply OL.bV (k:=1)
     ·rfl
     ·rfl
     ·rfl
     ·rfl
     ·rfl
     ·rfl
     ·exact hs63
     ·rfl
     ·omega
     ·unfold maxLen;omega
     intro v72 sg63 hs63;refine OL.n1 rfl (hK7 _ _ (PW.k5 0 1 6 9 10 rfl (PW.ae (OL.bZ (S':=sg63::[]::S) (Sub.drop (Sub.cons (Sub.cL (Sub.drop (Sub.refl _))))) (OL.n1 rfl (PW.k6 0 1 6 7 9 10 rfl (PW.ops (OL.dp rfl (OL.x (Yields.ao rfl rfl (by omega) (by omega)) ?_)))))))))
     refine OL.n1 rfl (hK3 _ _ (PW.k6 0 1 6 7 8 9 rfl (PW.ops (OL.dp rfl (OL.x (Yields.ao rfl rfl (by omega) (by omega)) (OL.n1 rfl ?_))))))
     refine af.mk (T'':=[(0,_),(1,_),(6,_),(7,_),(8,_),(9,_)]) (wi rfl) ?_;have hl3:(out++own++[(⟨0,k,⟨#[]⟩⟩:bj)]).length=out.length+own.length+1:=by simp only[List.length_append,List.length_cons,List.length_nil]
     exact⟨tk.length+1-(i+1),by omega,i+1,_,sg63,out++own++[⟨0,k,⟨#[]⟩⟩],_,[],[],k+1,⟨by omega,rfl,mark_snoc (l:=out++own) (x:=⟨0,k,⟨#[]⟩⟩) (by rw[List.length_append,markS_app];exact hs63),aV.nil 9 1,fun _=>⟨by rw[<- hmt,cW,<- hown];simp only[List.append_assoc,List.cons_append,List.nil_append],hok3,by omega,by simp only[List.length_nil];omega⟩,fun h=>by omega,by omega,by omega⟩,rfl,rfl⟩
    (try simp only[aD] at g67)<;>(exfalso;first|omega|(simp at g67;done)|(revert g67;simp;done))
   (try simp only[aD] at g44)<;>(exfalso;first|omega|(simp at g44;done)|(revert g44;simp;done))
  try simp only[aD] at g22
  have hie:i=tk.length:=by omega
  obtain⟨hmt,hok2,hfr,hfn2⟩:=hin (by omega)
  rw[hie,List.drop_length] at hmt hok2 hfn2;obtain⟨k',hkn⟩:∃z,z=aC.length:=⟨_,rfl⟩;obtain⟨k,hke⟩:∃z,z=k':=⟨_,rfl⟩;subst hke;have hfk:fr<=k:=by omega
  have hkl:k<=aC.length:=by omega
  have hcl2:cur.length<=256:=by omega
  refine OL.dp rfl (OL.off rfl rfl (OL.off rfl rfl (OL.off rfl rfl (OL.off rfl rfl (OL.off rfl rfl (OL.off rfl rfl (OL.n1 rfl (PW.k7 0 1 6 7 8 9 30 rfl (PW.ite (b:=false) rfl ?_)))))))));rw[if_neg Bool.false_ne_true];refine PW.skip (hK4 _ _ (PW.k6 0 1 6 7 8 9 rfl (PW.ae (OL.dp rfl ?_))))
  first|refine OL.x (Yields.to (v':=.int .i64 (k':Int)) (Yields.pure rfl) (by rw[hkn])) ?_|refine OL.x (Yields.to (v':=.int .i64 (k:Int)) (Yields.pure rfl) (by rw[hkn])) ?_
  refine OL.n1 rfl (PW.k7 0 1 6 7 8 9 10 rfl (PW.seq fun K8 hK8=>PW.ae (OL.p3 rfl rfl rfl ?_)))
  refine OL.bool trivial (Yields.pure rfl) (fun g44=>?_) (fun g44=>?_)
  ·(try simp only[aD] at g44)<;>(exfalso;first|omega|(simp at g44;done)|(revert g44;simp;done))
  try simp only[aD] at g44
  refine OL.nil (PW.k8 0 1 6 7 8 9 10 44 rfl (PW.ite (b:=false) rfl ?_));rw[if_neg Bool.false_ne_true];refine PW.skip (hK8 _ _ (PW.k7 0 1 6 7 8 9 10 rfl (PW.ae (OL.p4 rfl rfl rfl rfl ?_))));refine OL.l rfl (section_fc (s:=⟨fr,k,cur⟩) hx.cons.cons (fun x hx=>(hr x hx).mono (Over.refl _).cons.cons) hsol (br (hrl []) (by simp)) hfk hkl hn (show cur.length<=1000 by omega)) ?_
  rintro _ _ ⟨vo,so,rfl,rfl,hso,hsl⟩;obtain⟨own,hown⟩:∃z,z=secM (b8 aC) ⟨fr,k,cur⟩:=⟨_,rfl⟩;rw[<- hown] at hso hsl;obtain⟨Ao,co,rfl,hno,hco,hro⟩:=aF (w0:=w0) hso;refine OL.p4 rfl rfl rfl rfl (OL.n1 rfl (PW.k7 0 1 6 9 10 11 12 rfl (PW.seq fun K9 hK9=>PW.ae (OL.dp rfl (OL.x (Yields.to (v':=.bool false) (Yields.pure rfl) rfl) (OL.nil ?_))))))
  refine PW.k8 0 1 6 9 10 11 12 59 rfl (PW.ite (b:=false) rfl ?_);rw[if_neg Bool.false_ne_true];refine PW.skip (hK9 _ _ (PW.k6 0 1 6 9 10 11 rfl (PW.ae (OL.p2 rfl rfl ?_))));refine OL.c (OW.appW (k:=1) (news:=ee own) rfl rfl hout rfl (markS_len _) (by decide) (hro _) hno (markS_one _) (by omega) (by unfold maxLen;omega)) ?_
  rintro v63 _ ⟨sg63,rfl,hs63⟩;refine OL.n1 rfl (PW.k5 0 1 6 9 10 rfl (PW.seq fun K10 hK10=>PW.ae (OL.p3 rfl rfl rfl ?_)))
  refine OL.bool trivial (Yields.pure rfl) (fun g67=>?_) (fun g67=>?_)
  ·(try simp only[aD] at g67)<;>(exfalso;first|omega|(simp at g67;done)|(revert g67;simp;done))
  try simp only[aD] at g67
  refine OL.nil (PW.k6 0 1 6 9 10 67 rfl (PW.ite (b:=false) rfl ?_));rw[if_neg Bool.false_ne_true];refine PW.skip (hK10 _ _ (PW.k5 0 1 6 9 10 rfl (PW.ae (OL.bZ (S':=sg63::[]::S) (Sub.drop (Sub.cons (Sub.cL (Sub.drop (Sub.refl _))))) (OL.n1 rfl (PW.k6 0 1 6 7 9 10 rfl (PW.ops (OL.dp rfl (OL.x (Yields.ao rfl rfl (by omega) (by omega)) (OL.dp rfl ?_))))))))))
  refine OL.nil (hK3 _ _ (PW.k6 0 1 6 7 8 9 rfl (PW.ops (OL.dp rfl (OL.x (Yields.ao rfl rfl (by omega) (by omega)) (OL.n1 rfl ?_))))))
  refine af.mk (T'':=[(0,_),(1,_),(6,_),(7,_),(8,_),(9,_)]) (wi rfl) ?_;exact⟨tk.length+1-(i+1),by omega,i+1,_,sg63,out++own,_,[],[],k+1,⟨by omega,rfl,(by rw[List.length_append,markS_app];exact hs63),aV.nil 9 1,fun h=>by omega,fun _=>by rw[<- hmt,cW,hown,hkn,hpl],by rw[List.length_append];omega,by omega⟩,rfl,rfl⟩
 try simp only[aD] at c16
 refine PW.exit (hK1 _ _ (PW.k1 6 rfl (PW.s3 rfl rfl rfl (PW.k2 4 5 rfl ?_))));refine PW.ret (zR rfl ?_);have hie:i=tk.length+1:=by omega
 have hfin:=hdone hie
 rw[hfin] at hout hol;exact⟨sg::S,Sub.ec [0] 2 (by decide) (sg::sl::S),v,sg,rfl,rfl,hout,by omega⟩
end Go.Proofs.Gr

namespace Go.Proofs.Gr
open Go.SL Go.RowKit Go.Proofs Go.GP Go.Proofs.Tryz
set_option maxHeartbeats 1000000
open Go.MyPlain
theorem pli_at {aC:List bg}{q:Nat}(h:q<aC.length):(b8 aC)[q]! = aC[q].pl:=by
 have:(b8 aC)[q]? = some aC[q].pl:=by unfold b8;rw[List.getElem?_map,List.getElem?_eq_getElem h];rfl
 rw[List.getElem!_eq_getElem?_getD,this];rfl
theorem begT_le {a b:List ByteArray}(h:begT a b=true):b.length<=a.length:=by
 unfold begT at h;rw[Bool.and_eq_true] at h;exact of_decide_eq_true h.1
theorem tokens_fc {w0:World}{S:SS}{A B:Option Addr}{c d:Nat}{aC:List bg}{w:List ByteArray}(hx:Rd w0 S A (bl aC)) (hr:∀x∈aC,ItemRd w0 S x) (hw:Rd w0 S B (strs w)) (hwc:w.length<=d) (hn:aC.length<=1000) (hwl:w.length<=100000) :
  FC prog w0 32 [.slice A aC.length c,.slice B w.length d] S (fun u S'=>∃sg,S'=sg::S/\aV 91 2 u (dq (b8 aC) 0 w).length (fD (dq (b8 aC) 0 w)) sg):=by
 have hpl:(b8 aC).length=aC.length:=List.length_map _
 refine FC.ofD known32 (by simp) ?_
 unfold pc32;simp only[bo];refine PW.nilseg (PW.s1 rfl (PW.k2 0 1 rfl (PW.s1 rfl (PW.k3 0 1 5 rfl (PW.s1 rfl ?_)))));refine PW.k4 0 1 5 6 rfl (PW.seq fun K1 hK1=>PW.s1 rfl (PW.k5 0 1 5 6 7 rfl (PW.block (PW.k5 0 1 5 6 7 rfl ?_))))
 refine PW.aR (I:=fun m T S'=>∃(i:Nat) (v:Value) (sg:bD) (out:List Tok) (lst:Int) (fr:Nat),(i<=w.length/\m=w.length-i/\aV 91 2 v out.length (fD out) sg/\out++dq (b8 aC) fr (w.drop i)=dq (b8 aC) 0 w/\fr<=aC.length/\lst=(fr:Int)-1/\out.length<=i)/\T=([(0,.slice A aC.length c),(1,.slice B w.length d),(5,v),(6,.int .i64 lst),(7,.int .i64 (i:Int))]:TT)/\S'=sg::S) (m:=w.length) ⟨0,_,[],[],_,0,⟨by omega,rfl,aV.nil 91 2,rfl,Nat.zero_le _,rfl,Nat.le_refl _⟩,rfl,rfl⟩ ?_
 rintro m _ _ ⟨i,v,sg,out,lst,fr,⟨hi,hm,hout,htk,hfr,hlst,hol⟩,rfl,rfl⟩;refine PW.seq fun K2 hK2=>PW.s4 rfl rfl rfl rfl (PW.k6 0 1 5 6 7 13 rfl ?_)
 refine PW.cond rfl (fun c13=>?_) (fun c13=>?_)
 ·try simp only[aD] at c13
  have hil:i<w.length:=by omega
  have hdl:(w.drop i).length=w.length-i:=List.length_drop
  obtain⟨b0,rfl⟩:=dg hw (by omega)
  have hw2:Rd w0 (sg::S) (some b0) (strs w):=hw.cons
  refine PW.skip (hK2 _ _ (PW.k5 0 1 5 6 7 rfl (PW.block (PW.s1 rfl (PW.k6 0 1 5 6 7 8 rfl (PW.seq fun K3 hK3=>PW.ae (OL.dp rfl (OL.x (Yields.to (v':=.int .i64 (fr:Int)) (Yields.ao rfl rfl (by omega) (by omega)) (congrArg (Value.int .i64) (by omega))) ?_))))))))
  refine OL.n1 rfl (PW.k7 0 1 5 6 7 8 9 rfl (PW.block (PW.k7 0 1 5 6 7 8 9 rfl ?_)));refine PW.aR (I:=fun mm T S'=>∃(j:Nat) (f:Option Nat),(j<=aC.length/\mm=aC.length-j/\(f=none->recAt (b8 aC) fr (w.drop i)=recAt (b8 aC) j (w.drop i))/\(∀q,f=some q->recAt (b8 aC) fr (w.drop i)=some q))/\T=([(0,.slice A aC.length c),(1,.slice (some b0) w.length d),(5,v),(6,.int .i64 lst),(7,.int .i64 (i:Int)),(8,.int .i64 (optI f)),(9,.int .i64 (j:Int))]:TT)/\S'=sg::S) (m:=aC.length-fr) ⟨fr,none,⟨hfr,rfl,fun _=>rfl,fun q h=>by cases h⟩,rfl,rfl⟩ ?_
  rintro mm _ _ ⟨j,f,⟨hj,hmm,hf1,hf2⟩,rfl,rfl⟩;refine PW.seq fun K4 hK4=>PW.ae (OL.p3 rfl rfl rfl ?_)
  refine OL.bool trivial (Yields.pure rfl) (fun g19=>?_) (fun g19=>?_)
  ·try simp only[aD] at g19
   have hjl:j<aC.length:=by omega
   refine OL.dp rfl (OL.ak rfl (.pure rfl) (OL.ak rfl (.pure rfl) (OL.n1 rfl (PW.k8 0 1 5 6 7 8 9 23 rfl ?_))));refine PW.cond rfl (fun c23=>?_) (fun c23=>?_)
   ·skip;obtain rfl:=optI_neg (of_decide_eq_true c23);obtain⟨a0,rfl⟩:=cA hx (by omega)
    have hr2:Rd w0 (sg::S) (some a0) (bl aC):=hx.cons
    have hgj:(b8 aC)[j]'(by omega)=aC[j].pl:=by unfold b8;rw[List.getElem_map]
    refine PW.skip (hK4 _ _ (PW.k7 0 1 5 6 7 8 9 rfl (PW.seq fun K5 hK5=>PW.block (PW.seq fun K6 hK6=>?_))))
    refine PW.dy (Ss:=Over (sg::S)) (fr:=false) [(0,0),(1,0),(2,0),(3,0),(4,0),(5,0),(6,0),(7,0),(8,0),(9,0),(10,0),(11,0),(12,0),(13,2),(14,2)] mixed (by decide +kernel) (Over.refl _) (fun h=>by cases h) ?_
    refine GL.dp rfl ?_;refine GL.dp rfl ?_;refine GL.ak trivial (fun Sx hSx=>Yields.bO rfl rfl rfl (by omega)) ?_
    refine GL.dp rfl ?_;refine GL.ak trivial (fun Sx hSx=>Yields.ld rfl (bz (hx.mono fun q hq=>hSx q ((Over.refl S).cons q hq)) hjl 1 _ rfl)) ?_
    refine GL.bool trivial (fun Sx hSx=>Yields.pure rfl) (fun g31=>?_) (fun g31=>?_)
    ·try simp only[aD] at g31
     refine GL.ak rfl (fun Sx hSx=>Yields.pure rfl) ?_
     refine GL.ak rfl (fun Sx hSx=>Yields.pure rfl) ?_
     obtain⟨A3,c3,hcut,hc3,hr3⟩:=cutW (cap:=d) (show i<=w.length by omega) hwc
     refine GL.ak rfl (fun Sx hSx=>Yields.to (v':=.slice A3 (w.drop i).length c3) (Yields.slS (l:=i) (h:=w.length) rfl rfl rfl (.inl rfl) (.inr ⟨rfl,rfl⟩) (by omega) hwc) hcut) ?_
     refine GL.ak rfl (fun Sx hSx=>Yields.pure rfl) ?_
     refine GL.ak rfl (fun Sx hSx=>Yields.pure rfl) ?_
     refine GL.ak rfl (fun Sx hSx=>Yields.bO rfl rfl rfl (by omega)) ?_
     refine GL.ak rfl (fun Sx hSx=>Yields.aT rfl (cU _) (bz (hx.mono fun q hq=>hSx q ((Over.refl S).cons q hq)) hjl)) ?_
     refine GL.lo rfl (OW.mono (OW.fl (cs:=bl [aC[j]]) rfl) ?_);rintro _ _ ⟨r39,rfl,rfl⟩;refine⟨(Over.refl _).cons,?_⟩;refine GL.lo rfl (OW.mono (OW.call rfl (rTextI_fc (l:=[aC[j]]) (Rd.own (E:=147) (tot:=3) bF) (fun x hx=>by rw[List.mem_singleton.1 hx];exact(hr _ (List.getElem_mem hjl)).mono (Over.refl _).cons.cons) (show 1<=1000000 by decide))) ?_)
     rintro v40 _ ⟨sgt,rfl,hst,htl⟩;rw[textI_one] at hst htl;obtain⟨At,ct,rfl,-,-,hrt⟩:=aF (w0:=w0) hst;refine⟨(Over.refl _).cons.cons,?_⟩;change OL _ _ _ [_,_] _ _ _;refine OL.call rfl rfl (stands_fc (a:=w.drop i) (hr3 _ _ hw.cons.cons.cons) (br (hrt []) (by simp)) (by omega) (by omega)) ?_
     rintro _ Sx ⟨rfl,hSx⟩;rw[hSx];clear hSx;refine OL.n1 rfl (hK6 _ _ (PW.k8 0 1 5 6 7 8 9 42 rfl ?_));refine PW.cond rfl (fun c42=>?_) (fun c42=>?_)
     ·skip;refine PW.ops (OL.n2 rfl rfl (hK5 _ _ (PW.k7 0 1 5 6 7 8 9 rfl (PW.ops (OL.dp rfl (OL.x (Yields.ao rfl rfl (by omega) (by omega)) (OL.n1 rfl ?_)))))))
      refine af.dE (Sub.drop (Sub.drop (Sub.refl _))) (T'':=[(0,_),(1,_),(5,_),(6,_),(7,_),(8,_),(9,_)]) (wi rfl) ?_;have hhe:=recAt_here (I:=b8 aC) (fr:=j) (w:=w.drop i) (by omega) (by rw[hgj];show(aC[j].block && _)=true;rw[g31,Bool.true_and];exact c42)
      exact⟨aC.length-(j+1),by omega,j+1,some j,⟨by omega,rfl,fun h=>(by cases h),fun q h=>(by cases h;rw[hf1 rfl,hhe])⟩,rfl,rfl⟩
     skip;refine PW.skip (hK5 _ _ (PW.k7 0 1 5 6 7 8 9 rfl (PW.ops (OL.dp rfl (OL.x (Yields.ao rfl rfl (by omega) (by omega)) (OL.n1 rfl ?_))))))
     refine af.dE (Sub.drop (Sub.drop (Sub.refl _))) (T'':=[(0,_),(1,_),(5,_),(6,_),(7,_),(8,_),(9,_)]) (wi rfl) ?_;have hnx:=recAt_next (I:=b8 aC) (fr:=j) (w:=w.drop i) (by omega) (by rw[hgj];show(aC[j].block && _)=false;rw[g31,Bool.true_and];exact c42)
     exact⟨aC.length-(j+1),by omega,j+1,none,⟨by omega,rfl,fun _=>by rw[hf1 rfl,hnx],fun q h=>by cases h⟩,rfl,rfl⟩
    try simp only[aD] at g31
    refine GL.off rfl rfl ?_;refine GL.off rfl rfl ?_;refine GL.off rfl rfl ?_;refine GL.off rfl rfl ?_;refine GL.off rfl rfl ?_;refine GL.off rfl rfl ?_;refine GL.off rfl rfl ?_;refine GL.off rfl rfl ?_;refine GL.off rfl rfl ?_;change OL _ _ _ [_,_] _ _ _;refine OL.off rfl rfl (OL.n1 rfl (hK6 _ _ (PW.k8 0 1 5 6 7 8 9 42 rfl (PW.ite (b:=false) rfl ?_))));rw[if_neg Bool.false_ne_true];refine PW.skip (hK5 _ _ (PW.k7 0 1 5 6 7 8 9 rfl (PW.ops (OL.dp rfl (OL.x (Yields.ao rfl rfl (by omega) (by omega)) (OL.n1 rfl ?_))))))
    refine af.dE (Sub.refl _) (T'':=[(0,_),(1,_),(5,_),(6,_),(7,_),(8,_),(9,_)]) (wi rfl) ?_;have hnx:=recAt_next (I:=b8 aC) (fr:=j) (w:=w.drop i) (by omega) (by rw[hgj];show(aC[j].block && _)=false;rw[g31,Bool.false_and])
    exact⟨aC.length-(j+1),by omega,j+1,none,⟨by omega,rfl,fun _=>by rw[hf1 rfl,hnx],fun q h=>by cases h⟩,rfl,rfl⟩
   skip;obtain⟨q,rfl⟩:=optI_pos (of_decide_eq_false c23);have hfin:recAt (b8 aC) fr (w.drop i)=some q:=hf2 q rfl
   refine PW.exit (hK3 _ _ (PW.k6 0 1 5 6 7 8 rfl (PW.seq fun K7 hK7=>PW.s2 rfl rfl (PW.k7 0 1 5 6 7 8 45 rfl ?_))))
   refine PW.cond rfl (fun c45=>?_) (fun c45=>?_)
   ·skip;have hfn:=optI_neg (of_decide_eq_true c45)
    rw[hfn] at hfin;refine PW.ae (OL.p3 rfl rfl rfl (OL.x (Yields.dY rfl rfl rfl (by omega)) (OL.x (Yields.ld rfl (dD hw2 hil)) (OL.x (Yields.build (cs:=tokC (.free w[i])) rfl) ?_))))
    apply OL.bV (k:=0)
    ·rfl
    ·rfl
    ·rfl
    ·rfl
    ·rfl
    ·rfl
    ·exact hout
    ·rfl
    ·omega
    ·unfold maxLen;omega
    intro v53 sgn hsn;refine OL.n1 rfl (PW.k5 0 1 5 6 7 rfl (PW.ae (OL.dp rfl (OL.x (Yields.ao rfl rfl (by omega) (by omega)) (OL.n1 rfl (PW.k5 0 1 5 6 7 rfl (PW.exit ?_)))))))
    refine af.dE (Sub.refl _) (T'':=[(0,_),(1,_),(5,_),(6,_),(7,_)]) (wi rfl) ?_;have hdw:w.drop i=w[i]::w.drop (i+1):=List.drop_eq_getElem_cons hil
    rw[hdw,toks_free (by rw[<- hdw];exact hfin)] at htk
    exact⟨w.length-(i+1),by omega,i+1,_,sgn,out++[.free w[i]],lst,fr,⟨by omega,rfl,tok_snoc hsn,by rw[List.append_assoc];exact htk,hfr,hlst,by rw[List.length_append];simp only[List.length_cons,List.length_nil];omega⟩,rfl,rfl⟩
   skip;obtain⟨q,hq⟩:=optI_pos (of_decide_eq_false c45);rw[hq] at hfin ⊢;obtain⟨hfq,hqn,hqb,hqt⟩:=eI hfin;have hqn2:q<aC.length:=by omega
   have hgq:(b8 aC)[q]! = aC[q].pl:=pli_at hqn2
   rw[hgq] at hqb hqt;have hq2:=oneT_pos hqb
   have hq3:=begT_le hqt
   obtain⟨a0,rfl⟩:=cA hx (by omega)
   refine PW.skip (hK7 _ _ (PW.k5 0 1 5 7 8 rfl (PW.ae (OL.p2 rfl rfl (OL.x (Yields.build (cs:=tokC (.blk q)) rfl) ?_)))));apply OL.bV (k:=0)
   ·rfl
   ·rfl
   ·rfl
   ·rfl
   ·rfl
   ·rfl
   ·exact hout
   ·rfl
   ·omega
   ·unfold maxLen;omega
   intro v60 sgn hsn;refine OL.n1 rfl (PW.k5 0 1 5 7 8 rfl (PW.ae (OL.p3 rfl rfl rfl (OL.x (Yields.bO (j:=q) rfl rfl rfl hqn2) (OL.x (Yields.aT rfl (cU _) (bz hx.cons hqn2)) (OL.c (OW.fl (cs:=bl [aC[q]]) rfl) ?_))))));rintro _ _ ⟨r66,rfl,rfl⟩;refine OL.l rfl (rTextI_fc (l:=[aC[q]]) (Rd.own (E:=147) (tot:=3) bF) (fun x hx=>by rw[List.mem_singleton.1 hx];exact(hr _ (List.getElem_mem hqn2)).mono (Over.refl _).cons.cons) (show 1<=1000000 by decide)) ?_
   rintro v67 _ ⟨sgt,rfl,hst,htl⟩;rw[textI_one] at hst;obtain⟨At,ct,rfl,-,-,-⟩:=aF (w0:=w0) hst;refine OL.dp rfl (OL.x (Yields.to (v':=.int .i64 ((i+(dT aC[q].pl).length:Nat):Int)) (Yields.ao rfl rfl (by omega) (by omega)) rfl) (OL.n1 rfl (PW.k5 0 1 5 7 8 rfl (PW.ops (OL.n2 rfl rfl ?_)))))
   refine af.dE (Sub.drop (Sub.drop (Sub.refl _))) (T'':=[(0,_),(1,_),(5,_),(6,_),(7,_)]) (wi rfl) ?_;rw[toks_blk (by omega) hfin,hgq,List.drop_drop] at htk
   exact⟨w.length-(i+(dT aC[q].pl).length),by omega,i+(dT aC[q].pl).length,_,sgn,out++[.blk q],_,q+1,⟨by omega,rfl,tok_snoc hsn,by rw[List.append_assoc];exact htk,by omega,(by show(q:Int)=_;omega),by rw[List.length_append];simp only[List.length_cons,List.length_nil];omega⟩,rfl,rfl⟩
  try simp only[aD] at g19
  have hje:j=aC.length:=by omega
  have hfin:recAt (b8 aC) fr (w.drop i)=f:=by
   cases f with
   |none=>rw[hf1 rfl,hje];exact recAt_end (by omega)
   |some q=>exact hf2 q rfl
  refine OL.dp rfl (OL.off rfl rfl (OL.off rfl rfl (OL.n1 rfl (PW.k8 0 1 5 6 7 8 9 23 rfl (PW.ite (b:=false) rfl ?_)))));rw[if_neg Bool.false_ne_true];refine PW.exit (hK3 _ _ (PW.k6 0 1 5 6 7 8 rfl (PW.seq fun K8 hK8=>PW.s2 rfl rfl (PW.k7 0 1 5 6 7 8 45 rfl ?_))))
  refine PW.cond rfl (fun c45=>?_) (fun c45=>?_)
  ·skip;have hfn:=optI_neg (of_decide_eq_true c45)
   rw[hfn] at hfin;refine PW.ae (OL.p3 rfl rfl rfl (OL.x (Yields.dY rfl rfl rfl (by omega)) (OL.x (Yields.ld rfl (dD hw2 hil)) (OL.x (Yields.build (cs:=tokC (.free w[i])) rfl) ?_))))
   apply OL.bV (k:=0)
   ·rfl
   ·rfl
   ·rfl
   ·rfl
   ·rfl
   ·rfl
   ·exact hout
   ·rfl
   ·omega
   ·unfold maxLen;omega
   intro v53 sgn hsn;refine OL.n1 rfl (PW.k5 0 1 5 6 7 rfl (PW.ae (OL.dp rfl (OL.x (Yields.ao rfl rfl (by omega) (by omega)) (OL.n1 rfl (PW.k5 0 1 5 6 7 rfl (PW.exit ?_)))))))
   refine af.dE (Sub.refl _) (T'':=[(0,_),(1,_),(5,_),(6,_),(7,_)]) (wi rfl) ?_;have hdw:w.drop i=w[i]::w.drop (i+1):=List.drop_eq_getElem_cons hil
   rw[hdw,toks_free (by rw[<- hdw];exact hfin)] at htk
   exact⟨w.length-(i+1),by omega,i+1,_,sgn,out++[.free w[i]],lst,fr,⟨by omega,rfl,tok_snoc hsn,by rw[List.append_assoc];exact htk,hfr,hlst,by rw[List.length_append];simp only[List.length_cons,List.length_nil];omega⟩,rfl,rfl⟩
  skip;obtain⟨q,hq⟩:=optI_pos (of_decide_eq_false c45);rw[hq] at hfin ⊢;obtain⟨hfq,hqn,hqb,hqt⟩:=eI hfin;have hqn2:q<aC.length:=by omega
  have hgq:(b8 aC)[q]! = aC[q].pl:=pli_at hqn2
  rw[hgq] at hqb hqt;have hq2:=oneT_pos hqb
  have hq3:=begT_le hqt
  obtain⟨a0,rfl⟩:=cA hx (by omega)
  refine PW.skip (hK8 _ _ (PW.k5 0 1 5 7 8 rfl (PW.ae (OL.p2 rfl rfl (OL.x (Yields.build (cs:=tokC (.blk q)) rfl) ?_)))));apply OL.bV (k:=0)
  ·rfl
  ·rfl
  ·rfl
  ·rfl
  ·rfl
  ·rfl
  ·exact hout
  ·rfl
  ·omega
  ·unfold maxLen;omega
  intro v60 sgn hsn;refine OL.n1 rfl (PW.k5 0 1 5 7 8 rfl (PW.ae (OL.p3 rfl rfl rfl (OL.x (Yields.bO (j:=q) rfl rfl rfl hqn2) (OL.x (Yields.aT rfl (cU _) (bz hx.cons hqn2)) (OL.c (OW.fl (cs:=bl [aC[q]]) rfl) ?_))))));rintro _ _ ⟨r66,rfl,rfl⟩;refine OL.l rfl (rTextI_fc (l:=[aC[q]]) (Rd.own (E:=147) (tot:=3) bF) (fun x hx=>by rw[List.mem_singleton.1 hx];exact(hr _ (List.getElem_mem hqn2)).mono (Over.refl _).cons.cons) (show 1<=1000000 by decide)) ?_
  rintro v67 _ ⟨sgt,rfl,hst,htl⟩;rw[textI_one] at hst;obtain⟨At,ct,rfl,-,-,-⟩:=aF (w0:=w0) hst;refine OL.dp rfl (OL.x (Yields.to (v':=.int .i64 ((i+(dT aC[q].pl).length:Nat):Int)) (Yields.ao rfl rfl (by omega) (by omega)) rfl) (OL.n1 rfl (PW.k5 0 1 5 7 8 rfl (PW.ops (OL.n2 rfl rfl ?_)))))
  refine af.dE (Sub.drop (Sub.drop (Sub.refl _))) (T'':=[(0,_),(1,_),(5,_),(6,_),(7,_)]) (wi rfl) ?_;rw[toks_blk (by omega) hfin,hgq,List.drop_drop] at htk
  exact⟨w.length-(i+(dT aC[q].pl).length),by omega,i+(dT aC[q].pl).length,_,sgn,out++[.blk q],_,q+1,⟨by omega,rfl,tok_snoc hsn,by rw[List.append_assoc];exact htk,by omega,(by show(q:Int)=_;omega),by rw[List.length_append];simp only[List.length_cons,List.length_nil];omega⟩,rfl,rfl⟩
 try simp only[aD] at c13
 refine PW.exit (hK1 _ _ (PW.k1 5 rfl (PW.s2 rfl rfl (PW.k1 4 rfl ?_))));refine PW.ret (zR rfl ?_);have hie:i=w.length:=by omega
 rw[hie,List.drop_length,toks_nil,List.append_nil] at htk;rw[htk] at hout;exact⟨_,Sub.refl _,sg,rfl,hout⟩
end Go.Proofs.Gr

namespace Go.Proofs.Gr
open Go.SL Go.RowKit Go.Proofs Go.GP Go.Proofs.Tryz
set_option maxHeartbeats 1000000
open Go.MyPlain
def dC (I:List aB) (x:bj):Bool:=decide (x.op=0) && !I[x.at_]!.block
def upM (I:List aB) (M:List bj) (i:Nat):ay:=((((M.take i).filter (dC I)).getLast?).map fun x=>headV I[x.at_]!).getD aU
def downM (I:List aB) (M:List bj) (j:Nat):ay:=((((M.drop j).filter (dC I)).head?).map fun x=>headV I[x.at_]!).getD bQ
theorem upM_yes {I:List aB}{M:List bj}{i:Nat}(hi:i<M.length) (h:dC I M[i] = true):upM I M (i+1)=headV I[M[i].at_]!:=by
 unfold upM;rw[aA hi,List.filter_append,List.filter_cons,if_pos h,List.filter_nil,List.getLast?_append];rfl
theorem upM_no {I:List aB}{M:List bj}{i:Nat}(hi:i<M.length) (h:dC I M[i] = false):upM I M (i+1)=upM I M i:=by
 unfold upM;rw[aA hi,List.filter_append,List.filter_cons,if_neg (by simp[h]),List.filter_nil,List.append_nil]
theorem downM_yes {I:List aB}{M:List bj}{i:Nat}(hi:i<M.length) (h:dC I M[i] = true):downM I M i=headV I[M[i].at_]!:=by
 unfold downM;rw[List.drop_eq_getElem_cons hi,List.filter_cons,if_pos h];rfl
theorem downM_no {I:List aB}{M:List bj}{i:Nat}(hi:i<M.length) (h:dC I M[i] = false):downM I M i=downM I M (i+1):=by
 unfold downM;rw[List.drop_eq_getElem_cons hi,List.filter_cons,if_neg (by simp[h])]
theorem downM_end {I:List aB}{M:List bj}:downM I M M.length=bQ:=by unfold downM;rw[List.drop_length];rfl
def stepH (I:List aB) (st:List ByteArray×List ay) (x:bj):List ByteArray×List ay:=
 if x.op=2 then(st.1++[x.line],st.2) else(st.1,(I[x.at_]!.lines.map aG.v).foldl putP st.2)
def foldH (I:List aB) (M:List bj) (a i:Nat):List ByteArray×List ay:=((M.take i).drop a).foldl (stepH I) ([],[])
theorem foldH_snoc {I:List aB}{M:List bj}{a i:Nat}(ha:a<=i) (hi:i<M.length):foldH I M a (i+1)=stepH I (foldH I M a i) M[i]:=by
 unfold foldH;rw[aA hi,List.drop_append_of_le_length (by rw[List.length_take];omega),List.foldl_append];rfl
theorem foldH_zero {I:List aB}{M:List bj}{a:Nat}:foldH I M a a=([],[]):=by
 unfold foldH;rw[List.drop_eq_nil_of_le (by rw[List.length_take];omega)];rfl
theorem putP_len (l:List ay) (v:ay):(putP l v).length=l.length+1:=by
 unfold putP;have:=congrArg List.length (List.takeWhile_append_dropWhile (p:=fun x=>cy x v) (l:=l))
 rw[List.length_append] at this;rw[List.length_append,List.length_cons];omega
theorem chg_lines (f u d:ay) (G L L':Value):setAt (ba f u d G L) 104 [L'] = ba f u d G L':=by
 have:=fI (a:=[.int .i64 5]++(au f++([.string ⟨#[]⟩,.int .i64 0,.int .u64 0]++(au u++(au d++[G]))))) (b:=[L]) (c:=ba f u d G L) (d:=[]) (e:=[L']) (n:=104) (by unfold ba;simp only[List.append_assoc];rfl) (by simp only[List.length_append,aa];rfl) rfl
 rw[this];unfold ba;simp only[List.append_assoc];rfl
theorem fill_chg3 {T:TT}{u d:ay}{x y z:PV}(h0:x.val T=some (.int .i64 5)) (h1:y.val T=some (aP u)) (h2:z.val T=some (aP d)) :
  dw T cK [(0,1,x),(37,33,y),(70,33,z)] = some (ba v0 u d (.slice none 0 0) (.slice none 0 0)):=by
 have hu:=aa u
 have hd:=aa d
 have hz:=aa v0
 have e0:cK=[]++([.int .i64 0]++((au v0++[.string ⟨#[]⟩,.int .i64 0,.int .u64 0])++(au v0++(au v0++[.slice none 0 0,.slice none 0 0])))):=by
  unfold cK;rw[show z33=au v0 from rfl]
  simp only[List.append_assoc,List.nil_append]
 have c1:(Value.int .i64 5).cells.toList=[.int .i64 5]:=rfl
 have c4:(aP u).cells.toList=au u:=rfl
 have c5:(aP d).cells.toList=au d:=rfl
 rw[e0,cG (a:=[]) (n:=0) (k:=1) (b:=[.int .i64 0]) h0 rfl rfl rfl,c1,List.nil_append,<- List.append_assoc [Value.int .i64 5],
  cG (k:=33) (b:=au v0) h1 (by simp only[List.length_append,hz,List.length_cons,List.length_nil]) hz (by rw[c4];exact hu),c4,
  cG (k:=33) (b:=au v0) h2 (by simp only[List.length_append,hz,hu,List.length_cons,List.length_nil]) hz (by rw[c5];exact hd),c5]
 simp only[dw,ba,List.append_assoc]
section
variable {w0:World}{S:SS}{P:Program}{n r:Nat}{T:TT}{x y:PV}{f u d:ay}{G L:Value}
theorem chg_stL {A:Option Addr}{a c k:Nat}(hk:S[k]? = some [(r,.cells (ba f u d G L) 46 105)]) (hx:x.val T=some (.pointer (some ⟨r,104,none⟩))) (hv:y.val T=some (.slice A a c)) :
  OW P w0 n (.st 1 x y) T S (fun _ S'=>S'=S.set k [(r,.cells (ba f u d G (.slice A a c)) 46 105)]):=by
 refine(OW.st (k:=k) (c:=ba f u d G L) (u:=.slice A a c) hx hv hk rfl (by rw[cO];exact(by decide:104+1<=105)) rfl).mono ?_
 rintro _ _ rfl;rw[show(Value.slice A a c).cells.toList=[.slice A a c] from rfl,chg_lines]
end
theorem rhunk_fc {w0:World}{S:SS}{A B:Option Addr}{c d a b:Nat}{aC:List bg}{M:List bj}(hx:Rd w0 S A (bl aC)) (hr:∀x∈aC,ItemRd w0 S x) (hsol:∀x∈aC,x.block=false->0<x.lines.length) (hM:Rd w0 S B (ee M)) (hat:∀x∈M,x.op≠2->x.at_<aC.length) (hab:a<=b) (hb:b<=M.length) (hn:aC.length<=1000) (hml:M.length<=10000000) :
  FC prog w0 35 [.slice A aC.length c,.slice B M.length d,.int .i64 (a:Int),.int .i64 (b:Int)] S (fun u S'=>∃G cg L cl jk,u=chgV v0 (upM (b8 aC) M a) (downM (b8 aC) M b) (.slice G (foldH (b8 aC) M a b).2.length cg) (.slice L (foldH (b8 aC) M a b).1.length cl)/\S'=jk::S/\Rd w0 (jk::[]) L (strs (foldH (b8 aC) M a b).1)/\Rd w0 (jk::[]) G (aI (foldH (b8 aC) M a b).2)):=by
 refine FC.ofC known35 (by simp) ?_
 unfold pc35;simp only[bo];refine PW.ae (OL.c OW.al ?_);rintro _ _ ⟨r8,rfl,rfl⟩;change OL _ _ _ _ _ ([(r8,.cells cK 46 105)]::S) _;refine OL.nil (PW.k5 0 1 2 3 8 rfl (PW.ae (OL.q rfl (de) (OL.q rfl (dI) (OL.x (Yields.build (cs:=ba v0 aU bQ (.slice none 0 0) (.slice none 0 0)) (fill_chg3 rfl rfl rfl)) (OL.c OW.al ?_))))));rintro _ _ ⟨r9,rfl,rfl⟩;change OL _ _ _ _ _ ([(r9,.cells cK 46 105)]::[(r8,.cells cK 46 105)]::S) _;refine OL.c (chg_stk (k:=0) rfl rfl rfl ep) ?_;rintro _ _ rfl;refine OL.bZ (S':=[(r9,.cells (ba v0 aU bQ (.slice none 0 0) (.slice none 0 0)) 46 105)]::[]::[]::[(r8,.cells cK 46 105)]::S) (Sub.cons (Sub.cL (Sub.cL (Sub.refl _)))) (OL.nil (PW.k6 0 1 2 3 8 9 rfl (PW.seq fun K1 hK1=>PW.s1 rfl (PW.k7 0 1 2 3 8 9 10 rfl (PW.block (PW.k7 0 1 2 3 8 9 10 rfl ?_))))))
 refine PW.aR (I:=fun m T S'=>∃(i:Nat),(i<=a/\m=a-i)/\T=([(0,.slice A aC.length c),(1,.slice B M.length d),(2,.int .i64 (a:Int)),(3,.int .i64 (b:Int)),(8,.pointer (some ⟨r8,0,none⟩)),(9,.pointer (some ⟨r9,0,none⟩)),(10,.int .i64 (i:Int))]:TT)/\S'=[(r9,.cells (ba v0 (upM (b8 aC) M i) bQ (.slice none 0 0) (.slice none 0 0)) 46 105)]::[]::[]::[(r8,.cells cK 46 105)]::S) (m:=a) ⟨0,⟨by omega,rfl⟩,rfl,rfl⟩ ?_
 rintro m _ _ ⟨i,⟨hia,hm⟩,rfl,rfl⟩;refine PW.seq fun K2 hK2=>PW.s3 rfl rfl rfl (PW.k8 0 1 2 3 8 9 10 20 rfl ?_)
 refine PW.cond rfl (fun c20=>?_) (fun c20=>?_)
 ·try simp only[aD] at c20
  have hil:i<M.length:=by omega
  obtain⟨am,rfl⟩:=markS_some hM (by omega)
  obtain⟨ai,hai⟩:∃z,z=A:=⟨_,rfl⟩;have hM2:Rd w0 ([(r9,.cells (ba v0 (upM (b8 aC) M i) bQ (.slice none 0 0) (.slice none 0 0)) 46 105)]::[]::[]::[(r8,.cells cK 46 105)]::S) (some am) (ee M):=hM.cons.cons.cons.cons
  refine PW.skip (hK2 _ _ (PW.k7 0 1 2 3 8 9 10 rfl (PW.seq fun K3 hK3=>PW.block (PW.ae (OL.p2 rfl rfl (OL.x (Yields.bO rfl rfl rfl (by omega)) (OL.dp rfl (OL.x (Yields.ld rfl (mark_at hM2 hil 0 _ rfl)) ?_))))))))
  refine OL.bool trivial (Yields.pure rfl) (fun g28=>?_) (fun g28=>?_)
  ·try simp only[aD] at g28
   have hal:M[i].at_<aC.length:=hat _ (List.getElem_mem hil) (by omega)
   obtain⟨a0,rfl⟩:=cA hx (by omega)
   have hx2:=(hx.cons (s:=[(r8,.cells cK 46 105)])).cons (s:=[]) |>.cons (s:=[]) |>.cons (s:=[(r9,.cells (ba v0 (upM (b8 aC) M i) bQ (.slice none 0 0) (.slice none 0 0)) 46 105)])
   refine OL.dp rfl (OL.ak rfl (.pure rfl) (OL.ak rfl (.pure rfl) (OL.ak rfl (.pure rfl) (OL.ak rfl (.bO rfl rfl rfl (by omega)) (OL.ak rfl (.pure rfl) (OL.ak rfl (.ld rfl (mark_at hM2 hil 1 _ rfl)) (OL.ak rfl (.bO (j:=M[i].at_) rfl rfl rfl hal) (OL.ak rfl (.pure rfl) (OL.ak rfl (.ld rfl (bz hx2 hal 1 _ rfl)) (OL.ak rfl (.pure rfl) (OL.dp rfl ?_)))))))))))
   refine OL.nil (PW.k8 0 1 2 3 8 9 10 40 rfl ?_);refine PW.cond rfl (fun c40=>?_) (fun c40=>?_)
   ·skip;have hnb:aC[M[i].at_].block=false:=by simpa using c40
    have hpos:=hsol _ (List.getElem_mem hal) hnb
    have hrl:=(hr _ (List.getElem_mem hal)).rdL
    obtain⟨b0,hb0⟩:=bR hrl hpos;rw[hb0] at hrl;have hrl2:Rd w0 ([(r9,.cells (ba v0 (upM (b8 aC) M i) bQ (.slice none 0 0) (.slice none 0 0)) 46 105)]::[]::[]::[(r8,.cells cK 46 105)]::S) (some b0) (lines aC[M[i].at_].lines):=hrl.cons.cons.cons.cons
    have hsm:dC (b8 aC) M[i] = true:=by unfold dC;rw[decide_eq_true (by omega),pli_at hal,show aC[M[i].at_].pl.block=aC[M[i].at_].block from rfl,hnb];rfl
    have hhd:headV (b8 aC)[M[i].at_]! = aC[M[i].at_].lines[0].v:=by rw[pli_at hal];unfold headV;show aC[M[i].at_].lines[0]!.v=_;rw[getElem!_pos _ 0 hpos]
    refine PW.ops (OL.p3 rfl rfl rfl (OL.x (Yields.bO rfl rfl rfl (by omega)) (OL.dp rfl (OL.x (Yields.ld rfl (mark_at hM2 hil 1 _ rfl)) (OL.x (Yields.bO (j:=M[i].at_) rfl rfl rfl hal) (OL.dp rfl (OL.x (Yields.ld rfl (bz hx2 hal 0 _ rfl)) ?_)))))))
    rw[hb0];refine OL.x (Yields.bO (j:=0) rfl rfl rfl hpos) (OL.dp rfl (OL.x (Yields.aT rfl (aa _) (fJ (k:=0) hrl2 hpos)) (OL.dp rfl (OL.c (chg_stU rfl rfl) ?_))));rintro _ _ rfl;rw[<- hhd,<- upM_yes hil hsm];refine OL.nil (hK3 _ _ (PW.k7 0 1 2 3 8 9 10 rfl (PW.ops (OL.dp rfl (OL.x (Yields.ao rfl rfl (by omega) (by omega)) (OL.n1 rfl ?_))))))
    refine af.mk (T'':=[(0,_),(1,_),(2,_),(3,_),(8,_),(9,_),(10,_)]) (wi rfl) ?_;exact⟨a-(i+1),by omega,i+1,⟨by omega,rfl⟩,rfl,rfl⟩
   skip;have hsm:dC (b8 aC) M[i] = false:=by unfold dC;rw[pli_at hal,show aC[M[i].at_].pl.block=aC[M[i].at_].block from rfl,show aC[M[i].at_].block=true from by simpa using c40];simp
   refine PW.skip (hK3 _ _ (PW.k7 0 1 2 3 8 9 10 rfl (PW.ops (OL.dp rfl (OL.x (Yields.ao rfl rfl (by omega) (by omega)) (OL.n1 rfl ?_))))))
   refine af.mk (T'':=[(0,_),(1,_),(2,_),(3,_),(8,_),(9,_),(10,_)]) (wi rfl) ?_;rw[<- upM_no hil hsm];exact⟨a-(i+1),by omega,i+1,⟨by omega,rfl⟩,rfl,rfl⟩
  try simp only[aD] at g28
  have hsm:dC (b8 aC) M[i] = false:=by unfold dC;rw[decide_eq_false (by omega)];rfl
  refine OL.dp rfl (OL.off rfl rfl (OL.off rfl rfl (OL.off rfl rfl (OL.off rfl rfl (OL.off rfl rfl (OL.off rfl rfl (OL.off rfl rfl (OL.off rfl rfl (OL.off rfl rfl (OL.off rfl rfl (OL.dp rfl ?_)))))))))));refine OL.nil (PW.k8 0 1 2 3 8 9 10 40 rfl (PW.ite (b:=false) rfl ?_));rw[if_neg Bool.false_ne_true];refine PW.skip (hK3 _ _ (PW.k7 0 1 2 3 8 9 10 rfl (PW.ops (OL.dp rfl (OL.x (Yields.ao rfl rfl (by omega) (by omega)) (OL.n1 rfl ?_))))))
  refine af.mk (T'':=[(0,_),(1,_),(2,_),(3,_),(8,_),(9,_),(10,_)]) (wi rfl) ?_;rw[<- upM_no hil hsm];exact⟨a-(i+1),by omega,i+1,⟨by omega,rfl⟩,rfl,rfl⟩
 try simp only[aD] at c20
 rw[show i=a by omega]
 obtain⟨U,hU⟩:∃z,z=upM (b8 aC) M a:=⟨_,rfl⟩;rw[<- hU,<- downM_end (I:=b8 aC) (M:=M)];refine PW.exit (hK1 _ _ (PW.k6 0 1 2 3 8 9 rfl (PW.seq fun K4 hK4=>PW.ae (OL.p2 rfl rfl (OL.x (Yields.to (v':=.int .i64 ((M.length:Int)-1)) (Yields.cH rfl rfl (by omega) (by omega)) rfl) (OL.n1 rfl (PW.k7 0 1 2 3 8 9 11 rfl (PW.block ?_))))))))
 refine PW.k7 0 1 2 3 8 9 11 rfl ?_;refine PW.aR (I:=fun m T S'=>∃(j:Nat) (z:Int),(b<=j/\j<=M.length/\m=j-b/\z=(j:Int)-1)/\T=([(0,.slice A aC.length c),(1,.slice B M.length d),(2,.int .i64 (a:Int)),(3,.int .i64 (b:Int)),(8,.pointer (some ⟨r8,0,none⟩)),(9,.pointer (some ⟨r9,0,none⟩)),(11,.int .i64 z)]:TT)/\S'=[(r9,.cells (ba v0 U (downM (b8 aC) M j) (.slice none 0 0) (.slice none 0 0)) 46 105)]::[]::[]::[(r8,.cells cK 46 105)]::S) (m:=M.length-b) ⟨M.length,_,⟨hb,Nat.le_refl _,rfl,rfl⟩,rfl,rfl⟩ ?_
 rintro m _ _ ⟨j,z,⟨hbj,hjM,hm,hz⟩,rfl,rfl⟩;refine PW.seq fun K5 hK5=>PW.s3 rfl rfl rfl (PW.k8 0 1 2 3 8 9 11 59 rfl ?_)
 refine PW.cond rfl (fun c59=>?_) (fun c59=>?_)
 ·try simp only[aD] at c59
  obtain⟨i,rfl⟩:∃i,j=i+1:=⟨j-1,by omega⟩
  have hzi:z=(i:Int):=by omega
  subst hzi;have hil:i<M.length:=by omega
  obtain⟨am,rfl⟩:=markS_some hM (by omega)
  obtain⟨ai,hai⟩:∃z,z=A:=⟨_,rfl⟩;have hM2:Rd w0 ([(r9,.cells (ba v0 U (downM (b8 aC) M (i+1)) (.slice none 0 0) (.slice none 0 0)) 46 105)]::[]::[]::[(r8,.cells cK 46 105)]::S) (some am) (ee M):=hM.cons.cons.cons.cons
  refine PW.skip (hK5 _ _ (PW.k7 0 1 2 3 8 9 11 rfl (PW.seq fun K6 hK6=>PW.block (PW.ae (OL.p2 rfl rfl (OL.x (Yields.bO rfl rfl rfl (by omega)) (OL.dp rfl (OL.x (Yields.ld rfl (mark_at hM2 hil 0 _ rfl)) ?_))))))))
  refine OL.bool trivial (Yields.pure rfl) (fun g67=>?_) (fun g67=>?_)
  ·try simp only[aD] at g67
   have hal:M[i].at_<aC.length:=hat _ (List.getElem_mem hil) (by omega)
   obtain⟨a0,rfl⟩:=cA hx (by omega)
   have hx2:=(hx.cons (s:=[(r8,.cells cK 46 105)])).cons (s:=[]) |>.cons (s:=[]) |>.cons (s:=[(r9,.cells (ba v0 U (downM (b8 aC) M (i+1)) (.slice none 0 0) (.slice none 0 0)) 46 105)])
   refine OL.dp rfl (OL.ak rfl (.pure rfl) (OL.ak rfl (.pure rfl) (OL.ak rfl (.pure rfl) (OL.ak rfl (.bO rfl rfl rfl (by omega)) (OL.ak rfl (.pure rfl) (OL.ak rfl (.ld rfl (mark_at hM2 hil 1 _ rfl)) (OL.ak rfl (.bO (j:=M[i].at_) rfl rfl rfl hal) (OL.ak rfl (.pure rfl) (OL.ak rfl (.ld rfl (bz hx2 hal 1 _ rfl)) (OL.ak rfl (.pure rfl) (OL.dp rfl ?_)))))))))))
   refine OL.nil (PW.k8 0 1 2 3 8 9 11 79 rfl ?_);refine PW.cond rfl (fun c79=>?_) (fun c79=>?_)
   ·skip;have hnb:aC[M[i].at_].block=false:=by simpa using c79
    have hpos:=hsol _ (List.getElem_mem hal) hnb
    have hrl:=(hr _ (List.getElem_mem hal)).rdL
    obtain⟨b0,hb0⟩:=bR hrl hpos;rw[hb0] at hrl;have hrl2:Rd w0 ([(r9,.cells (ba v0 U (downM (b8 aC) M (i+1)) (.slice none 0 0) (.slice none 0 0)) 46 105)]::[]::[]::[(r8,.cells cK 46 105)]::S) (some b0) (lines aC[M[i].at_].lines):=hrl.cons.cons.cons.cons
    have hsm:dC (b8 aC) M[i] = true:=by unfold dC;rw[decide_eq_true (by omega),pli_at hal,show aC[M[i].at_].pl.block=aC[M[i].at_].block from rfl,hnb];rfl
    have hhd:headV (b8 aC)[M[i].at_]! = aC[M[i].at_].lines[0].v:=by rw[pli_at hal];unfold headV;show aC[M[i].at_].lines[0]!.v=_;rw[getElem!_pos _ 0 hpos]
    refine PW.ops (OL.p3 rfl rfl rfl (OL.x (Yields.bO rfl rfl rfl (by omega)) (OL.dp rfl (OL.x (Yields.ld rfl (mark_at hM2 hil 1 _ rfl)) (OL.x (Yields.bO (j:=M[i].at_) rfl rfl rfl hal) (OL.dp rfl (OL.x (Yields.ld rfl (bz hx2 hal 0 _ rfl)) ?_)))))))
    rw[hb0];refine OL.x (Yields.bO (j:=0) rfl rfl rfl hpos) (OL.dp rfl (OL.x (Yields.aT rfl (aa _) (fJ (k:=0) hrl2 hpos)) (OL.dp rfl (OL.c (chg_stD rfl rfl) ?_))));rintro _ _ rfl;rw[<- hhd,<- downM_yes hil hsm];refine OL.nil (hK6 _ _ (PW.k7 0 1 2 3 8 9 11 rfl (PW.ops (OL.dp rfl (OL.x (Yields.to (v':=.int .i64 ((i:Int)-1)) (Yields.cH rfl rfl (by omega) (by omega)) rfl) (OL.n1 rfl ?_))))))
    refine af.mk (T'':=[(0,_),(1,_),(2,_),(3,_),(8,_),(9,_),(11,_)]) (wi rfl) ?_;exact⟨i-b,by omega,i,_,⟨by omega,by omega,rfl,rfl⟩,rfl,rfl⟩
   skip;have hsm:dC (b8 aC) M[i] = false:=by unfold dC;rw[pli_at hal,show aC[M[i].at_].pl.block=aC[M[i].at_].block from rfl,show aC[M[i].at_].block=true from by simpa using c79];simp
   refine PW.skip (hK6 _ _ (PW.k7 0 1 2 3 8 9 11 rfl (PW.ops (OL.dp rfl (OL.x (Yields.to (v':=.int .i64 ((i:Int)-1)) (Yields.cH rfl rfl (by omega) (by omega)) rfl) (OL.n1 rfl ?_))))))
   refine af.mk (T'':=[(0,_),(1,_),(2,_),(3,_),(8,_),(9,_),(11,_)]) (wi rfl) ?_;rw[<- downM_no hil hsm];exact⟨i-b,by omega,i,_,⟨by omega,by omega,rfl,rfl⟩,rfl,rfl⟩
  try simp only[aD] at g67
  have hsm:dC (b8 aC) M[i] = false:=by unfold dC;rw[decide_eq_false (by omega)];rfl
  refine OL.dp rfl (OL.off rfl rfl (OL.off rfl rfl (OL.off rfl rfl (OL.off rfl rfl (OL.off rfl rfl (OL.off rfl rfl (OL.off rfl rfl (OL.off rfl rfl (OL.off rfl rfl (OL.off rfl rfl (OL.dp rfl ?_)))))))))));refine OL.nil (PW.k8 0 1 2 3 8 9 11 79 rfl (PW.ite (b:=false) rfl ?_));rw[if_neg Bool.false_ne_true];refine PW.skip (hK6 _ _ (PW.k7 0 1 2 3 8 9 11 rfl (PW.ops (OL.dp rfl (OL.x (Yields.to (v':=.int .i64 ((i:Int)-1)) (Yields.cH rfl rfl (by omega) (by omega)) rfl) (OL.n1 rfl ?_))))))
  refine af.mk (T'':=[(0,_),(1,_),(2,_),(3,_),(8,_),(9,_),(11,_)]) (wi rfl) ?_;rw[<- downM_no hil hsm];exact⟨i-b,by omega,i,_,⟨by omega,by omega,rfl,rfl⟩,rfl,rfl⟩
 try simp only[aD] at c59
 rw[show j=b by omega]
 obtain⟨D,hD⟩:∃z,z=downM (b8 aC) M b:=⟨_,rfl⟩;rw[<- hD];refine PW.exit (hK4 _ _ (PW.k6 0 1 2 3 8 9 rfl (PW.seq fun K7 hK7=>PW.s2 rfl rfl (PW.k6 0 1 3 8 9 12 rfl (PW.block (PW.k6 0 1 3 8 9 12 rfl ?_))))))
 refine PW.aR (I:=fun m T S'=>∃(i:Nat) (G L:Value) (sG sL:bD) (st:List ByteArray×List ay),(a<=i/\i<=b/\m=b-i/\aV 27 33 G st.2.length (aI st.2) sG/\aV 9 1 L st.1.length (strs st.1) sL/\st=foldH (b8 aC) M a i/\st.1.length<=i/\st.2.length<=60000*i)/\T=([(0,.slice A aC.length c),(1,.slice B M.length d),(3,.int .i64 (b:Int)),(8,.pointer (some ⟨r8,0,none⟩)),(9,.pointer (some ⟨r9,0,none⟩)),(12,.int .i64 (i:Int))]:TT)/\S'=[(r9,.cells (ba v0 U D G L) 46 105)]::sG::sL::[(r8,.cells cK 46 105)]::S) (m:=b-a) ⟨a,_,_,[],[],([],[]),⟨Nat.le_refl _,hab,rfl,aV.nil 27 33,aV.nil 9 1,foldH_zero.symm,Nat.zero_le _,Nat.zero_le _⟩,rfl,rfl⟩ ?_
 rintro m _ _ ⟨i,G,L,sG,sL,st,⟨hai,hib,hm,hG,hL,hst,hl1,hl2⟩,rfl,rfl⟩;refine PW.seq fun K8 hK8=>PW.s3 rfl rfl rfl (PW.k7 0 1 3 8 9 12 96 rfl ?_)
 refine PW.cond rfl (fun c96=>?_) (fun c96=>?_)
 ·try simp only[aD] at c96
  have hil:i<M.length:=by omega
  have hfs:=foldH_snoc (I:=b8 aC) hai hil
  rw[<- hst] at hfs;obtain⟨am,rfl⟩:=markS_some hM (by omega)
  have hM2:Rd w0 ([(r9,.cells (ba v0 U D G L) 46 105)]::sG::sL::[(r8,.cells cK 46 105)]::S) (some am) (ee M):=hM.cons.cons.cons.cons
  refine PW.skip (hK8 _ _ (PW.k6 0 1 3 8 9 12 rfl (PW.seq fun K9 hK9=>PW.block (PW.seq fun K10 hK10=>PW.ae (OL.p2 rfl rfl (OL.x (Yields.bO rfl rfl rfl (by omega)) (OL.dp rfl (OL.x (Yields.ld rfl (mark_at hM2 hil 0 _ rfl)) ?_))))))))
  refine OL.n1 rfl (PW.k7 0 1 3 8 9 12 104 rfl ?_);refine PW.cond rfl (fun c104=>?_) (fun c104=>?_)
  ·skip
   replace c104:M[i].op=2:=by simpa using c104
   rw[stepH,if_pos c104] at hfs;refine PW.seq fun K11 hK11=>?_
   refine PW.dy (Ss:=Over ([(r9,.cells (ba v0 U D G L) 46 105)]::sG::sL::[(r8,.cells cK 46 105)]::S)) (fr:=false) [(0,0),(1,0),(2,0),(3,0),(4,0),(5,0),(6,0),(7,2)] mixed (by decide +kernel) (Over.refl _) (fun h=>by cases h) ?_
   refine GL.dp rfl ?_;refine GL.ak trivial (fun Sx hSx=>Yields.ld rfl (az (j:=104) (c:=ba v0 U D G L) (E:=46) (tot:=105) (hSx _ bF) (dQ ..).2)) ?_
   refine GL.dp rfl ?_;refine GL.dp rfl ?_;refine GL.ak trivial (fun Sx hSx=>Yields.bO rfl rfl rfl (by omega)) ?_
   refine GL.dp rfl ?_;refine GL.ak trivial (fun Sx hSx=>Yields.ld rfl (mark_at (hM.mono fun q hq=>hSx q ((Over.refl S).cons.cons.cons.cons q hq)) hil 2 _ rfl)) ?_
   refine GL.lo trivial (OW.mono (OW.fl (cs:=[.string M[i].line]) rfl) ?_);rintro _ _ ⟨r112,rfl,rfl⟩;refine⟨(Over.refl _).cons,?_⟩;change OL _ _ _ [_,_,_] _ _ _;refine OL.c (OW.appW (k:=3) (news:=[.string M[i].line]) rfl rfl hL rfl rfl (by decide) (Rd.own (E:=9) (tot:=1) bF) (fun h=>by cases h) rfl (by omega) (by unfold maxLen;omega)) ?_
   rintro v113 _ ⟨sL2,rfl,hL2⟩;obtain⟨A9,c9,rfl,-,-,-⟩:=aF (w0:=w0) hL2;refine OL.dp rfl (OL.c (chg_stL (k:=1) rfl rfl rfl) ?_);rintro _ _ rfl;change OL _ _ _ _ _ ([(r112,.cells [.string M[i].line] 9 1)]::[(r9,.cells (ba v0 U D G (.slice A9 (st.1.length+1) c9)) 46 105)]::sG::sL2::[(r8,.cells cK 46 105)]::S) _;refine OL.nil (hK11 _ _ (PW.k6 0 1 3 8 9 12 rfl (PW.exit (hK9 _ _ (PW.k6 0 1 3 8 9 12 rfl (PW.ops (OL.dp rfl (OL.x (Yields.ao rfl rfl (by omega) (by omega)) (OL.n1 rfl ?_)))))))))
   refine af.dE (Sub.drop (Sub.refl _)) (T'':=[(0,_),(1,_),(3,_),(8,_),(9,_),(12,_)]) (wi rfl) ?_;exact⟨b-(i+1),by omega,i+1,G,_,sG,sL2,(st.1++[M[i].line],st.2),⟨by omega,by omega,rfl,hG,bt hL2,hfs.symm,by rw[List.length_append];simp only[List.length_cons,List.length_nil];omega,by show st.2.length<=_;omega⟩,rfl,rfl⟩
  skip
  replace c104:¬M[i].op=2:=by simpa using c104
  rw[stepH,if_neg c104] at hfs;have hal:M[i].at_<aC.length:=hat _ (List.getElem_mem hil) c104
  obtain⟨a0,rfl⟩:=cA hx (by omega)
  have hx2:Rd w0 ([(r9,.cells (ba v0 U D G L) 46 105)]::sG::sL::[(r8,.cells cK 46 105)]::S) (some a0) (bl aC):=hx.cons.cons.cons.cons
  refine PW.skip (hK10 _ _ (PW.k6 0 1 3 8 9 12 rfl (PW.ae (OL.p3 rfl rfl rfl (OL.x (Yields.bO rfl rfl rfl (by omega)) (OL.dp rfl (OL.x (Yields.ld rfl (mark_at hM2 hil 1 _ rfl)) (OL.x (Yields.bO (j:=M[i].at_) rfl rfl rfl hal) (OL.x (Yields.aT rfl (cU _) (bz hx2 hal)) ?_)))))))))
  refine OL.c OW.al ?_;rintro _ _ ⟨r13,rfl,rfl⟩;change OL _ _ _ _ _ ([(r13,.cells [.slice none 0 0,.bool false,.slice none 0 0] 147 3)]::[(r9,.cells (ba v0 U D G L) 46 105)]::sG::sL::[(r8,.cells cK 46 105)]::S) _;refine OL.c (item_stE (u:=aC[M[i].at_]) (z:=[.slice none 0 0,.bool false,.slice none 0 0]) rfl rfl rfl) ?_;rintro _ _ rfl;obtain⟨t,ht⟩:∃t,t=aC[M[i].at_]:=⟨_,rfl⟩;rw[<- ht];have htr:ItemRd w0 S t:=by rw[ht];exact hr _ (List.getElem_mem hal)
  have htp:(b8 aC)[M[i].at_]! = t.pl:=by rw[ht];exact pli_at hal
  refine OL.nil (PW.k7 0 1 3 8 9 12 13 rfl (PW.s1 rfl (PW.k8 0 1 3 8 9 12 13 14 rfl (PW.block (PW.k8 0 1 3 8 9 12 13 14 rfl ?_)))));refine PW.aR (I:=fun mm T S'=>∃(j:Nat) (G2:Value) (sG2:bD) (gn:List ay),(j<=t.lines.length/\mm=t.lines.length-j/\aV 27 33 G2 gn.length (aI gn) sG2/\gn=((t.lines.take j).map aG.v).foldl putP st.2/\gn.length=st.2.length+j)/\T=([(0,.slice (some a0) aC.length c),(1,.slice (some am) M.length d),(3,.int .i64 (b:Int)),(8,.pointer (some ⟨r8,0,none⟩)),(9,.pointer (some ⟨r9,0,none⟩)),(12,.int .i64 (i:Int)),(13,.pointer (some ⟨r13,0,none⟩)),(14,.int .i64 (j:Int))]:TT)/\S'=[(r13,.cells (bA t) 147 3)]::[(r9,.cells (ba v0 U D G2 L) 46 105)]::sG2::sL::[(r8,.cells cK 46 105)]::S) (m:=t.lines.length) ⟨0,G,sG,st.2,⟨Nat.zero_le _,rfl,hG,rfl,rfl⟩,rfl,rfl⟩ ?_
  rintro mm _ _ ⟨j,G2,sG2,gn,⟨hjt,hmm,hG2,hgn,hgl⟩,rfl,rfl⟩;refine PW.seq fun K12 hK12=>PW.ae (OL.p2 rfl rfl (OL.x (Yields.ld rfl (az (j:=0) (c:=bA t) (E:=147) (tot:=3) bF rfl)) (OL.n2 rfl rfl (PW.k9 0 1 3 8 9 12 13 14 127 rfl ?_))))
  refine PW.cond rfl (fun c127=>?_) (fun c127=>?_)
  ·try simp only[aD] at c127
   have hjl:j<t.lines.length:=by omega
   have htn:=htr.nL
   obtain⟨Ag,cg,rfl,hng,hcg,hrg⟩:=aF (w0:=w0) hG2;obtain⟨b0,hb0⟩:=bR htr.rdL (by omega)
   have hrl3:Rd w0 ([(r13,.cells (bA t) 147 3)]::[(r9,.cells (ba v0 U D (.slice Ag gn.length cg) L) 46 105)]::sG2::sL::[(r8,.cells cK 46 105)]::S) (some b0) (lines t.lines):=by rw[<- hb0];exact htr.rdL.cons.cons.cons.cons.cons
   have hgs:(((t.lines.take (j+1)).map aG.v).foldl putP st.2)=putP gn t.lines[j].v:=by rw[aA hjl,List.map_append,List.foldl_append,<- hgn];rfl
   refine PW.skip (hK12 _ _ (PW.k8 0 1 3 8 9 12 13 14 rfl (PW.seq fun K13 hK13=>PW.block (PW.aQ mixed (QK.dp rfl (QK.x (Yields.ld rfl (az (j:=103) (c:=ba v0 U D _ L) (E:=46) (tot:=105) dm (dQ ..).1)) (QK.dp rfl (QK.x (Yields.ld rfl (az (j:=0) (c:=bA t) (E:=147) (tot:=3) bF rfl)) (QK.dp rfl ?_)))))))))
   rw[hb0];refine QK.x (Yields.bO rfl rfl rfl hjl) (QK.dp rfl (QK.x (Yields.aT rfl (aa _) (fJ hrl3 hjl)) (QK.nil ?_)));change OL _ _ _ [_,_,_] _ _ _;refine OL.l rfl (rput_fc (l:=gn) (v:=t.lines[j].v) (br (hrg []) (by simp)) hcg hng (by omega)) ?_
   rintro v138 _ ⟨sg3,rfl,hg3⟩;obtain⟨A7,c7,rfl,-,-,-⟩:=aF (w0:=w0) hg3;refine OL.dp rfl (OL.c (chg_stG (k:=2) rfl rfl rfl) ?_);rintro _ _ rfl;change OL _ _ _ _ _ (sg3::[(r13,.cells (bA t) 147 3)]::[(r9,.cells (ba v0 U D (.slice A7 (putP gn t.lines[j].v).length c7) L) 46 105)]::sG2::sL::[(r8,.cells cK 46 105)]::S) _;refine OL.nil (hK13 _ _ (PW.k8 0 1 3 8 9 12 13 14 rfl (PW.ops (OL.dp rfl (OL.x (Yields.ao rfl rfl (by omega) (by omega)) (OL.n1 rfl ?_))))))
   refine af.dE (Sub.ec [1,2,0,4] 5 (by decide) (sg3::[(r13,.cells (bA t) 147 3)]::[(r9,.cells (ba v0 U D (.slice A7 (putP gn t.lines[j].v).length c7) L) 46 105)]::sG2::sL::[(r8,.cells cK 46 105)]::S)) (T'':=[(0,_),(1,_),(3,_),(8,_),(9,_),(12,_),(13,_),(14,_)]) (wi rfl) ?_
   exact⟨t.lines.length-(j+1),by omega,j+1,_,sg3,putP gn t.lines[j].v,⟨by omega,rfl,hg3,hgs.symm,by rw[putP_len];omega⟩,rfl,rfl⟩
  try simp only[aD] at c127
  have hje:j=t.lines.length:=by omega
  have htn:=htr.nL
  rw[hje,List.take_length,show t.lines=t.pl.lines from rfl,<- htp] at hgn
  rw[<- hgn] at hfs;refine PW.exit (hK9 _ _ (PW.k6 0 1 3 8 9 12 rfl (PW.ops (OL.dp rfl (OL.x (Yields.ao rfl rfl (by omega) (by omega)) (OL.n1 rfl ?_))))))
  refine af.dE (Sub.drop (Sub.refl _)) (T'':=[(0,_),(1,_),(3,_),(8,_),(9,_),(12,_)]) (wi rfl) ?_;exact⟨b-(i+1),by omega,i+1,G2,L,sG2,sL,(st.1,gn),⟨by omega,by omega,rfl,hG2,hL,hfs.symm,by show st.1.length<=_;omega,by show gn.length<=_;omega⟩,rfl,rfl⟩
 try simp only[aD] at c96
 rw[show i=b by omega] at hst
 obtain⟨Ag,cg,rfl,-,-,hrg⟩:=aF (w0:=w0) hG;obtain⟨Al,cl,rfl,-,-,hrl⟩:=aF (w0:=w0) hL;refine PW.exit (hK7 _ _ (PW.k2 8 9 rfl (PW.ae (OL.x (Yields.aT rfl (cO ..) (av (c:=ba v0 U D _ _) (E:=46) (tot:=105) bF)) (OL.c (chg_stk (k:=3) (z:=cK) (u:=U) (d:=D) rfl rfl rfl ep) ?_)))));rintro _ _ rfl;refine OL.nil (PW.k1 8 rfl (PW.ret ?_));exact⟨.inr rfl,_,_,rfl,chg_read (E:=46) (tot:=105) zM3,(sG++sL)::S,(Sub.join).trans (Sub.drop (Sub.cons (Sub.cons (Sub.drop (Sub.refl _))))),Ag,cg,Al,cl,sG++sL,by rw[hU,hD,hst],rfl,by rw[<- hst];exact(hrl []).mono fun p hp=>by simp at hp ⊢;exact .inr hp,by rw[<- hst];exact(hrg []).mono fun p hp=>by simp at hp ⊢;exact .inl hp⟩
end Go.Proofs.Gr
