/- Walks. -/
import Derived.Test.YtbejcoeajlhmcaaGreatPart7
set_option linter.unusedVariables false
set_option linter.unusedSimpArgs false
set_option linter.unusedSectionVars false

namespace Go.Proofs.Gr
open Go.SL Go.RowKit Go.Proofs Go.GP Go.Proofs.Tryz
set_option maxHeartbeats 1000000
open Go.MyPlain
def fineT (l:List Tok):Bool:=l.all fun t=>match t with|.free s=>Ln.isP s|.blk _=>true
theorem freeN_app (a b:List Tok):freeN (a++b)=freeN a+freeN b:=by
 induction a with
 |nil=>simp[freeN]
 |cons t a ih=>cases t<;>simp only[List.cons_append,freeN,ih]<;>omega
theorem fineT_app (a b:List Tok):fineT (a++b)=(fineT a && fineT b):=by unfold fineT;rw[List.all_append]
def errT (l:List Tok):Int:=if 256<freeN l then 3 else if fineT l then 0 else 4
def nxtM (M:List bj) (i:Nat):Nat:=i+((M.drop i).takeWhile fun x=>decide (x.op≠0)).length
inductive Grp (M:List bj):Nat->List (Nat×Nat)->Prop
 |done {i:Nat}(h:M.length<=i):Grp M i []
 |step {i:Nat}{l:List (Nat×Nat)}(h:i<M.length) (k:Grp M (nxtM M i+1) l):Grp M i ((if i<nxtM M i then [(i,nxtM M i)] else [])++l)
def hkM (I:List aB) (M:List bj) (p:Nat×Nat):HunkP:=⟨upM I M p.1,downM I M p.2,(foldH I M p.1 p.2).1,(foldH I M p.1 p.2).2⟩
theorem nxtM_at {M:List bj}{i k:Nat}(hi:i<=k) (hk:k<=M.length) (h1:∀j (hj:j<M.length),i<=j->j<k->M[j].op≠0) (h2:∀h:k<M.length,M[k].op=0):nxtM M i=k:=by
 unfold nxtM;have hl:(M.drop i).length=M.length-i:=List.length_drop
 have:=(takeWhile_at (p:=fun x:bj=>decide (x.op≠0)) (l:=M.drop i) (k:=k-i) (by omega) (fun x hx=>by
  obtain⟨j,hj,rfl⟩:=List.getElem_of_mem hx;rw[List.length_take] at hj;rw[List.getElem_take,List.getElem_drop];exact decide_eq_true (h1 _ (by omega) (by omega) (by omega))) (fun h=>by
  rw[List.getElem_drop];have h3:=h2 (by omega)
  rw[decide_eq_false];simp only[show i+(k-i)=k by omega,ne_eq,Decidable.not_not]
  exact h3)).1
 rw[this,List.length_take];omega
theorem chg_stF {w0:World}{P:Program}{n r:Nat}{T:TT}{x y:PV}{f u d v:ay}{G L:Value}{S:SS}(hx:x.val T=some (.pointer (some ⟨r,1,none⟩))) (hv:y.val T=some (aP v)) :
  OW P w0 n (.st 33 x y) T ([(r,.cells (ba f u d G L) 46 105)]::S) (fun _ S'=>S'=[(r,.cells (ba v u d G L) 46 105)]::S):=by
 refine(OW.st (k:=0) (c:=ba f u d G L) (u:=aP v) hx hv rfl ((List.size_toArray).trans (aa v)) (by rw[cO];decide) (bL v)).mono ?_
 rintro _ _ rfl;rw[bB,chg_file];rfl
def RItemsFC (w0:World) (A:Option Addr) (n c:Nat) (I:List aB) (S:SS):Prop:=∀s:bD,FC prog w0 31 [.slice A n c] (s::S) (fun v S'=>∃aC seg aH,S'=seg::aH::s::S/\aC.map bg.pl=I/\aV 147 3 v aC.length (bl aC) seg/\∀x∈aC,dP w0 aH x)
structure RChgOk (w0:World) (j:bD) (x:fk):Prop where
 rdG:Rd w0 (j::[]) x.G (aI x.gone)
 rdL:Rd w0 (j::[]) x.A (strs x.lines)
theorem RChgOk.more {w0:World}{j j':bD}{x:fk}(h:RChgOk w0 j x) (hs:∀p∈j,p∈j'):RChgOk w0 j' x:=
 ⟨h.rdG.mono fun p hp=>by simp at hp ⊢;exact hs p hp,h.rdL.mono fun p hp=>by simp at hp ⊢;exact hs p hp⟩
theorem okT_toks {I:List aB}:∀(f fr:Nat) (w:List ByteArray),okT I.length (eY I f fr w) fr
 |0,_,_=>trivial
 |_+1,_,[]=>trivial
 |f+1,fr,s::w=>by
  simp only[eY];cases e:recAt I fr (s::w) with
  |none=>simp only[okT];exact okT_toks f fr w
  |some k=>
   have:=eI e
   simp only[okT];exact⟨this.1,this.2.1,okT_toks f (k+1) _⟩
theorem toksF_len {I:List aB}:∀(f fr:Nat) (w:List ByteArray),(eY I f fr w).length<=f
 |0,_,_=>Nat.le_refl _
 |_+1,_,[]=>Nat.zero_le _
 |f+1,fr,s::w=>by
  simp only[eY];cases e:recAt I fr (s::w) with
  |none=>simp only[List.length_cons];have:=toksF_len (I:=I) f fr w;omega
  |some k=>simp only[List.length_cons];have:=toksF_len (I:=I) f (k+1) ((s::w).drop (dT I[k]!).length);omega
theorem toksF_mem {I:List aB}{t:ByteArray}:∀(f fr:Nat) (w:List ByteArray),Tok.free t∈eY I f fr w->t∈w
 |0,_,_,h=>by cases h
 |_+1,_,[],h=>by cases h
 |f+1,fr,s::w,h=>by
  simp only[eY] at h;cases e:recAt I fr (s::w) with
  |none=>
   rw[e] at h;simp only[List.mem_cons,Tok.free.injEq] at h;rcases h with rfl|h
   ·exact List.mem_cons_self
   exact List.mem_cons_of_mem _ (toksF_mem f fr w h)
  |some k=>
   rw[e] at h;simp only[List.mem_cons,reduceCtorEq,false_or] at h;exact List.mem_of_mem_drop (toksF_mem f (k+1) _ h)
theorem secM_at {I:List aB}{s:Sec}(hf:s.fr<=s.to) (ht:s.to<=I.length):∀x∈secM I s,x.op≠2->x.at_<I.length:=by
 have key:∀(l:List (Int×Int×Int)) (st:Nat×List bj),(∀x∈st.2,x.op≠2->x.at_<I.length)->st.1+(l.filter bM).length<=I.length->(∀x∈(l.foldl (ek s.lines) st).2,x.op≠2->x.at_<I.length):=by
  intro l
  induction l with
  |nil=>intro st h _;exact h
  |cons t l ih=>
   intro st h hb;rw[List.foldl_cons];by_cases e:t.1=2
   ·have et:bM t=false:=by unfold bM;simp[e]
    rw[List.filter_cons,if_neg (by simp[et])] at hb
    refine ih _ ?_ ?_
    ·unfold ek;rw[if_pos e];intro x hx;rcases List.mem_append.1 hx with h1|h1
     ·exact h x h1
     rw[List.mem_singleton.1 h1];intro hh;exact absurd rfl hh
    unfold ek;rw[if_pos e];exact hb
   have et:bM t=true:=by unfold bM;simp[e]
   rw[List.filter_cons,if_pos et,List.length_cons] at hb;refine ih _ ?_ ?_
   ·unfold ek;rw[if_neg e];intro x hx;rcases List.mem_append.1 hx with h1|h1
    ·exact h x h1
    rw[List.mem_singleton.1 h1];intro _;show st.1<_;omega
   unfold ek;rw[if_neg e];show st.1+1+_<=_;omega
 refine key _ _ (fun x hx=>by cases hx) ?_
 rw[scr_takes,txts_len3 ht]
 show s.fr+_<=_
 omega
theorem marksT_at {I:List aB}:∀(tk:List Tok) (fr:Nat) (cur:List ByteArray),fr<=I.length->okT I.length tk fr->∀x∈cW I tk fr cur,x.op≠2->x.at_<I.length
 |[],fr,cur,h,_=>secM_at (s:=⟨fr,I.length,cur⟩) h (Nat.le_refl _)
 |.free s::r,fr,cur,h,ho=>marksT_at r fr (cur++[s]) h ho
 |.blk k::r,fr,cur,h,ho=>by
  intro x hx;simp only[cW,List.mem_append,List.mem_cons] at hx;rcases hx with h1|rfl|h1
  ·exact secM_at (s:=⟨fr,k,cur⟩) ho.1 (Nat.le_of_lt ho.2.1) x h1
  ·intro _;exact ho.2.1
  exact marksT_at r (k+1) [] ho.2.1 ho.2.2 x h1
theorem rhunks_fc {w0:World}{S:SS}{A B:Option Addr}{n c d:Nat}{I:List aB}{file:ay}{w:List ByteArray}(HI:RItemsFC w0 A n c I S) (hn:I.length<=1000) (hsol:∀x∈I,x.block=false->0<x.lines.length) (hw:Rd w0 S B (strs w)) (hwc:w.length<=d) (hwl:w.length<=2000) (hz:∀s∈w,s.size<=1000000000000000) :
  FC prog w0 10 [aP file,.slice A n c,.slice B w.length d] S (fun u S'=>∃v hs sg aH,u=.tuple #[v,.int .i64 (errT (dq I 0 w))]/\S'=sg::aH::S/\aV 46 105 v hs.length (chgS hs) sg/\(∀x∈hs,RChgOk w0 aH x/\x.file=file)/\(errT (dq I 0 w)≠0->hs=[])/\(errT (dq I 0 w)=0->∃acc,Grp (cW I (dq I 0 w) 0 []) 0 acc/\hs.map fk.pl=acc.map (hkM I (cW I (dq I 0 w) 0 [])))):=by
 refine FC.ofD known10 (by simp) ?_
 unfold pc10;simp only[bo];refine PW.ae (OL.c (OW.bx rfl) ?_);rintro _ _ ⟨r3,rfl,rfl⟩;rw[bB,aa];refine OL.n2 rfl rfl (PW.k3 1 2 3 rfl (PW.ae (OL.dp rfl (OL.l rfl (HI _) ?_))));rintro v20 _ ⟨aC,sgI,jI,rfl,rfl,hsI,hokI⟩;rw[List.length_map] at hn;obtain⟨Ai,ci,rfl,hnI,hcI,hrI⟩:=aF (w0:=w0) hsI;rw[show aC.map bg.pl=b8 aC from rfl]
 have hsol2:∀x∈aC,x.block=false->0<x.lines.length:=fun x hx hb=>hsol x.pl (List.mem_map_of_mem hx) hb
 have hpl:(b8 aC).length=aC.length:=List.length_map _
 refine OL.n1 rfl (PW.k3 2 3 8 rfl (PW.ae (OL.p2 rfl rfl ?_)));refine OL.l rfl (tokens_fc (br (hrI []) (by simp)) (fun x hx=>(hokI x hx).rd (by simp)) (hw.cons.cons.cons) hwc hn (by omega)) ?_
 rintro v23 _ ⟨sgT,rfl,hsT⟩;have hokt:okT aC.length (dq (b8 aC) 0 w) 0:=by rw[<- hpl];exact okT_toks _ _ _
 have htl:(dq (b8 aC) 0 w).length<=w.length:=toksF_len _ _ _
 have htm:∀s,Tok.free s∈dq (b8 aC) 0 w->s.size<=1000000000000000:=fun s hs=>hz s (toksF_mem _ _ _ hs)
 obtain⟨tk,htk⟩:∃z,z=dq (b8 aC) 0 w:=⟨_,rfl⟩;rw[<- htk] at hsT hokt htl htm ⊢;obtain⟨At,ct,rfl,hnt,hct,hrT⟩:=aF (w0:=w0) hsT;refine OL.n1 rfl (PW.k3 3 8 9 rfl (PW.s1 rfl (PW.k4 3 8 9 10 rfl (PW.s1 rfl (PW.k5 3 8 9 10 11 rfl (PW.seq fun K1 hK1=>?_))))))
 refine PW.s1 rfl (PW.k6 3 8 9 10 11 12 rfl (PW.block (PW.k6 3 8 9 10 11 12 rfl ?_)));refine PW.aR (I:=fun m T S'=>∃(i nn:Nat) (ff:Bool),(i<=tk.length/\m=tk.length-i/\nn=freeN (tk.take i)/\ff=fineT (tk.take i)/\nn<=i)/\T=([(3,.pointer (some ⟨r3,0,none⟩)),(8,.slice Ai aC.length ci),(9,.slice At tk.length ct),(10,.int .i64 (nn:Int)),(11,.bool ff),(12,.int .i64 (i:Int))]:TT)/\S'=sgT::sgI::jI::[(r3,.cells (au file) 27 33)]::S) (m:=tk.length) ⟨0,0,true,⟨Nat.zero_le _,rfl,rfl,rfl,Nat.le_refl _⟩,rfl,rfl⟩ ?_
 rintro m _ _ ⟨i,nn,ff,⟨hi,hm,hnn,hff,hni⟩,rfl,rfl⟩;refine PW.seq fun K2 hK2=>PW.s4 rfl rfl rfl rfl (PW.k7 3 8 9 10 11 12 27 rfl ?_)
 refine PW.cond rfl (fun c27=>?_) (fun c27=>?_)
 ·try simp only[aD] at c27
  have hil:i<tk.length:=by omega
  obtain⟨b0,rfl⟩:=toksS_some (hrT []) (by omega)
  have htk2:Rd w0 (sgT::sgI::jI::[(r3,.cells (au file) 27 33)]::S) (some b0) (fD tk):=br (hrT []) (by simp)
  have hts:=aA hil
  refine PW.skip (hK2 _ _ (PW.k6 3 8 9 10 11 12 rfl (PW.seq fun K3 hK3=>PW.block (PW.ae (OL.p2 rfl rfl (OL.x (Yields.bO rfl rfl rfl (by omega)) (OL.dp rfl (OL.x (Yields.ld rfl (tok_at htk2 hil 1 _ rfl)) (OL.dp rfl ?_)))))))))
  refine OL.nil (PW.k7 3 8 9 10 11 12 35 rfl ?_);refine PW.cond rfl (fun c35=>?_) (fun c35=>?_)
  ·skip;obtain⟨s,hs⟩:=tok_free (of_decide_eq_true c35);rw[hs] at hts;refine PW.ae (OL.dp rfl (OL.x (Yields.to (v':=.int .i64 ((nn+1:Nat):Int)) (Yields.ao rfl rfl (by omega) (by omega)) rfl) (OL.n1 rfl (PW.k6 3 8 9 10 11 12 rfl (PW.ops (OL.dp rfl ?_))))))
   refine OL.bool trivial (Yields.pure rfl) (fun g39=>?_) (fun g39=>?_)
   ·try simp only[aD] at g39
    refine OL.ak rfl (.pure rfl) (OL.ak rfl (.pure rfl) (OL.ak rfl (.bO rfl rfl rfl (by omega)) (OL.ak rfl (.pure rfl) ?_)))
    refine OL.ak rfl (.to (v':=.string s) (Yields.ld rfl (tok_at htk2 hil 0 _ rfl)) (by rw[hs];rfl)) ?_
    refine OL.call rfl rfl (Ln.ris_fc (htm s (by rw[<- hs];exact List.getElem_mem hil))) ?_
    rintro _ Sx ⟨rfl,hSx⟩;rw[hSx];clear hSx;refine OL.n2 rfl rfl (hK3 _ _ (PW.k6 3 8 9 10 11 12 rfl (PW.ops (OL.dp rfl (OL.x (Yields.ao rfl rfl (by omega) (by omega)) (OL.n1 rfl ?_))))))
    refine af.mk (T'':=[(3,_),(8,_),(9,_),(10,_),(11,_),(12,_)]) (wi rfl) ?_;exact⟨tk.length-(i+1),by omega,i+1,nn+1,_,⟨by omega,rfl,by rw[hts,freeN_app,<- hnn];rfl,by rw[hts,fineT_app,<- hff,g39,Bool.true_and];simp[fineT],by omega⟩,rfl,rfl⟩
   try simp only[aD] at g39
   refine OL.off rfl rfl (OL.off rfl rfl (OL.off rfl rfl (OL.off rfl rfl (OL.off rfl rfl (OL.off rfl rfl (OL.n2 rfl rfl (hK3 _ _ (PW.k6 3 8 9 10 11 12 rfl (PW.ops ?_)))))))));refine OL.dp rfl (OL.x (Yields.ao rfl rfl (by omega) (by omega)) (OL.n1 rfl ?_))
   refine af.mk (T'':=[(3,_),(8,_),(9,_),(10,_),(11,_),(12,_)]) (wi rfl) ?_;exact⟨tk.length-(i+1),by omega,i+1,nn+1,_,⟨by omega,rfl,by rw[hts,freeN_app,<- hnn];rfl,by rw[hts,fineT_app,<- hff,g39,Bool.false_and],by omega⟩,rfl,rfl⟩
  skip;obtain⟨q,hs⟩:=tok_blk (of_decide_eq_false c35);rw[hs] at hts;refine PW.skip (hK3 _ _ (PW.k6 3 8 9 10 11 12 rfl (PW.ops (OL.dp rfl (OL.x (Yields.ao rfl rfl (by omega) (by omega)) (OL.n1 rfl ?_))))))
  refine af.mk (T'':=[(3,_),(8,_),(9,_),(10,_),(11,_),(12,_)]) (wi rfl) ?_;exact⟨tk.length-(i+1),by omega,i+1,nn,ff,⟨by omega,rfl,by rw[hts,freeN_app,<- hnn];rfl,by rw[hts,fineT_app,<- hff];simp[fineT],by omega⟩,rfl,rfl⟩
 try simp only[aD] at c27
 have hie:i=tk.length:=by omega
 rw[hie,List.take_length] at hnn hff;refine PW.exit (hK1 _ _ (PW.k5 3 8 9 10 11 rfl (PW.seq fun K4 hK4=>PW.s2 rfl rfl (PW.k5 3 8 9 11 48 rfl ?_))))
 refine PW.cond rfl (fun c48=>?_) (fun c48=>?_)
 ·skip;refine PW.s2 rfl rfl (PW.k2 6 7 rfl ?_);refine PW.ret (zR rfl ?_);have hE:errT tk=3:=by unfold errT;rw[if_pos (by have:=of_decide_eq_true c48;omega)]
  rw[hE];exact⟨[]::[]::S,Sub.cL (Sub.cL (Sub.ec [] 4 (by decide) (sgT::sgI::jI::[(r3,.cells (au file) 27 33)]::S))),_,[],[],[],rfl,rfl,aV.nil 46 105,fun x hx=>(by cases hx),fun _=>rfl,fun h=>by cases h⟩
 skip;have hfn:freeN tk<=256:=by have:=of_decide_eq_false c48;omega
 refine PW.skip (hK4 _ _ (PW.k4 3 8 9 11 rfl (PW.seq fun K5 hK5=>PW.s2 rfl rfl (PW.k4 3 8 9 50 rfl ?_))))
 refine PW.cond rfl (fun c50=>?_) (fun c50=>?_)
 ·skip;refine PW.s2 rfl rfl (PW.k2 6 7 rfl ?_);refine PW.ret (zR rfl ?_);have hE:errT tk=4:=by unfold errT;rw[if_neg (by have:=of_decide_eq_false c48;omega),if_neg (by rw[<- hff];simpa using c50)]
  rw[hE];exact⟨[]::[]::S,Sub.cL (Sub.cL (Sub.ec [] 4 (by decide) (sgT::sgI::jI::[(r3,.cells (au file) 27 33)]::S))),_,[],[],[],rfl,rfl,aV.nil 46 105,fun x hx=>(by cases hx),fun _=>rfl,fun h=>by cases h⟩
 skip;have hfi:fineT tk=true:=by rw[<- hff];simpa using c50
 have hE:errT tk=0:=by unfold errT;rw[if_neg (by omega),if_pos hfi]
 rw[hE];refine PW.skip (hK5 _ _ (PW.k3 3 8 9 rfl (PW.ae (OL.p2 rfl rfl ?_))));refine OL.l rfl (marks_fc (br (hrI []) (by simp)) (fun x hx=>(hokI x hx).rd (by simp)) hsol2 (br (hrT []) (by simp)) hokt hfn hn (by omega)) ?_
 rintro _ _ ⟨vm,sgM,rfl,rfl,hsM,hmL⟩;have hMat:∀x∈cW (b8 aC) tk 0 [],x.op≠2->x.at_<aC.length:=by rw[<- hpl];exact marksT_at tk 0 [] (Nat.zero_le _) (by rw[hpl];exact hokt)
 obtain⟨M,hM⟩:∃z,z=cW (b8 aC) tk 0 []:=⟨_,rfl⟩;rw[<- hM] at hsM hmL hMat ⊢;obtain⟨Am,cm,rfl,hnm,hcm,hrM⟩:=aF (w0:=w0) hsM;refine OL.p4 rfl rfl rfl rfl (OL.n1 rfl (PW.k4 3 8 13 14 rfl (PW.seq fun K6 hK6=>PW.ae (OL.dp rfl (OL.x (Yields.to (v':=.bool false) (Yields.pure rfl) rfl) (OL.nil ?_))))))
 refine PW.k5 3 8 13 14 58 rfl (PW.ite (b:=false) rfl ?_);rw[if_neg Bool.false_ne_true];refine PW.skip (hK6 _ _ (PW.k3 3 8 13 rfl (PW.ae (OL.bZ (S':=[]::[]::sgM::sgT::sgI::jI::[(r3,.cells (au file) 27 33)]::S) (Sub.cL (Sub.cL (Sub.refl _))) (OL.n1 rfl (PW.k4 3 8 13 15 rfl (PW.seq fun K7 hK7=>PW.s1 rfl ?_)))))))
 refine PW.k5 3 8 13 15 16 rfl (PW.block (PW.k5 3 8 13 15 16 rfl ?_));refine PW.aR (I:=fun m T S'=>∃(i:Nat) (v:Value) (og oj:bD) (hs:List fk) (acc:List (Nat×Nat)),(i<=M.length+1/\m=M.length+1-i/\aV 46 105 v hs.length (chgS hs) og/\(∀x∈hs,RChgOk w0 oj x/\x.file=file)/\hs.map fk.pl=acc.map (hkM (b8 aC) M)/\(∀l,Grp M i l->Grp M 0 (acc++l))/\hs.length<=i)/\T=([(3,.pointer (some ⟨r3,0,none⟩)),(8,.slice Ai aC.length ci),(13,.slice Am M.length cm),(15,v),(16,.int .i64 (i:Int))]:TT)/\S'=og::oj::sgM::sgT::sgI::jI::[(r3,.cells (au file) 27 33)]::S) (m:=M.length+1) ⟨0,_,[],[],[],[],⟨Nat.zero_le _,rfl,aV.nil 46 105,fun x hx=>(by cases hx),rfl,fun l hl=>hl,Nat.le_refl _⟩,rfl,rfl⟩ ?_
 rintro m _ _ ⟨i,v,og,oj,hs,acc,⟨hi,hm,hog,hho,hmp,hgr,hhl⟩,rfl,rfl⟩;refine PW.seq fun K8 hK8=>PW.s4 rfl rfl rfl rfl (PW.k6 3 8 13 15 16 63 rfl ?_)
 refine PW.cond rfl (fun c63=>?_) (fun c63=>?_)
 ·try simp only[aD] at c63
  refine PW.skip (hK8 _ _ (PW.k5 3 8 13 15 16 rfl (PW.block (PW.s2 rfl rfl (PW.k6 3 8 13 15 16 17 rfl (PW.seq fun K9 hK9=>PW.block (PW.k6 3 8 13 15 16 17 rfl ?_)))))))
  refine PW.aR (I:=fun mm T S'=>∃(k:Nat),(i<=k/\k<=M.length/\mm=M.length-k/\(∀j (hj:j<M.length),i<=j->j<k->M[j].op≠0))/\T=([(3,.pointer (some ⟨r3,0,none⟩)),(8,.slice Ai aC.length ci),(13,.slice Am M.length cm),(15,v),(16,.int .i64 (i:Int)),(17,.int .i64 (k:Int))]:TT)/\S'=og::oj::sgM::sgT::sgI::jI::[(r3,.cells (au file) 27 33)]::S) (m:=M.length-i) ⟨i,⟨Nat.le_refl _,by omega,rfl,fun j hj h1 h2=>by omega⟩,rfl,rfl⟩ ?_
  rintro mm _ _ ⟨k,⟨hik,hkM,hmm,hne⟩,rfl,rfl⟩;refine PW.seq fun K10 hK10=>PW.ae (OL.p3 rfl rfl rfl ?_)
  refine OL.bool trivial (Yields.pure rfl) (fun g68=>?_) (fun g68=>?_)
  ·try simp only[aD] at g68
   have hkl:k<M.length:=by omega
   obtain⟨am,rfl⟩:=markS_some (hrM []) (by omega)
   have hM2:Rd w0 (og::oj::sgM::sgT::sgI::jI::[(r3,.cells (au file) 27 33)]::S) (some am) (ee M):=(br (hrM []) (by simp))
   refine OL.dp rfl (OL.ak rfl (.pure rfl) (OL.ak rfl (.pure rfl) (OL.ak rfl (.bO rfl rfl rfl (by omega)) (OL.ak rfl (.pure rfl) (OL.ak rfl (.ld rfl (mark_at hM2 hkl 0 _ rfl)) (OL.ak rfl (.pure rfl) (OL.n1 rfl (PW.k7 3 8 13 15 16 17 76 rfl ?_))))))))
   refine PW.cond rfl (fun c76=>?_) (fun c76=>?_)
   ·skip;have hop:M[k].op≠0:=by simpa using c76
    refine PW.skip (hK10 _ _ (PW.k6 3 8 13 15 16 17 rfl (PW.block (PW.ops (OL.dp rfl (OL.x (Yields.ao rfl rfl (by omega) (by omega)) (OL.n1 rfl ?_)))))))
    refine af.mk (T'':=[(3,_),(8,_),(13,_),(15,_),(16,_),(17,_)]) (wi rfl) ?_;exact⟨M.length-(k+1),by omega,k+1,⟨by omega,by omega,rfl,fun j hj h1 h2=>by
     rcases Nat.lt_or_ge j k with h|h
     ·exact hne j hj h1 h
     obtain rfl:j=k:=by omega
     exact hop⟩,rfl,rfl⟩
   skip;have hke:∀h:k<M.length,M[k].op=0:=fun h=>by simpa using c76
   refine PW.exit (hK9 _ _ (PW.k6 3 8 13 15 16 17 rfl (PW.seq fun K11 hK11=>PW.s3 rfl rfl rfl (PW.k7 3 8 13 15 16 17 81 rfl ?_))))
   refine PW.cond rfl (fun c81=>?_) (fun c81=>?_)
   ·skip;refine PW.ae (OL.p4 rfl rfl rfl rfl ?_);refine OL.l rfl (rhunk_fc (M:=M) (a:=i) (b:=k) (br (hrI []) (by simp)) (fun x hx=>(hokI x hx).rd (by simp)) hsol2 (br (hrM []) (by simp)) hMat hik hkM hn hmL) ?_
    rintro v86 _ ⟨G,cg,L,cl,jk,rfl,rfl,hrL,hrG⟩;refine OL.c OW.al ?_;rintro _ _ ⟨r18,rfl,rfl⟩;change OL _ _ _ _ _ ([(r18,.cells cK 46 105)]::jk::og::oj::sgM::sgT::sgI::jI::[(r3,.cells (au file) 27 33)]::S) _;refine OL.c (chg_stk (k:=0) (z:=cK) rfl rfl rfl ep) ?_;rintro _ _ rfl;refine OL.nil (PW.k6 3 8 13 15 17 18 rfl (PW.ae (OL.x (Yields.aT rfl (aa _) (av (c:=au file) (E:=27) (tot:=33) zM8)) (OL.dp rfl (OL.c (chg_stF rfl rfl) ?_)))));rintro _ _ rfl;refine OL.nil (PW.k6 3 8 13 15 17 18 rfl (PW.ops (OL.dp rfl (OL.x (Yields.aT rfl (cO ..) (av (c:=ba file _ _ _ _) (E:=46) (tot:=105) bF)) ?_))));apply OL.bV (k:=2)
    ·rfl
    ·rfl
    ·exact(List.size_toArray).trans (cO ..)
    ·rfl
    ·rfl
    ·rfl
    ·exact hog
    ·exact chgC_one ..
    ·omega
    ·unfold maxLen;omega
    intro v92 og2 hog2;refine OL.n1 rfl (hK11 _ _ (PW.k5 3 8 13 15 17 rfl (PW.ops (OL.dp rfl (OL.x (Yields.ao rfl rfl (by omega) (by omega)) (OL.n1 rfl ?_))))))
    refine af.dE ((Sub.cons Sub.join).trans (Sub.ec [2,1,3] 4 (by decide) (_::jk::og2::oj::sgM::sgT::sgI::jI::[(r3,.cells (au file) 27 33)]::S))) (T'':=[(3,_),(8,_),(13,_),(15,_),(16,_)]) (wi rfl) ?_
    have hnx:nxtM M i=k:=nxtM_at hik hkM hne hke
    have hgt:i<k:=by first|omega|(have:=of_decide_eq_true c81;omega)
    exact⟨M.length+1-(k+1),by omega,k+1,_,og2,jk++oj,hs++[(⟨file,upM (b8 aC) M i,downM (b8 aC) M k,G,cg,(foldH (b8 aC) M i k).2,L,cl,(foldH (b8 aC) M i k).1⟩:fk)],acc++[(i,k)],⟨by omega,by omega,by rw[chgS_app,List.length_append];show aV 46 105 _ (hs.length+1) (chgS hs++(ba file _ _ _ _++[])) og2;rw[List.append_nil];exact hog2,fun y hy=>by
     rcases List.mem_append.1 hy with h1|h1
     ·exact⟨(hho y h1).1.more fun p hp=>List.mem_append_right _ hp,(hho y h1).2⟩
     ·rw[List.mem_singleton.1 h1];exact⟨⟨hrG.mono fun p hp=>by simp at hp ⊢;exact .inl hp,hrL.mono fun p hp=>by simp at hp ⊢;exact .inl hp⟩,rfl⟩,
     by rw[List.map_append,List.map_append,hmp];rfl,fun l hl=>by
      have:=hgr _ (Grp.step (by omega) (hnx▸hl))
      rw[hnx,if_pos hgt,<- List.append_assoc] at this;exact this,by rw[List.length_append,List.length_singleton];omega⟩,rfl,rfl⟩
   skip;refine PW.skip (hK11 _ _ (PW.k5 3 8 13 15 17 rfl (PW.ops (OL.dp rfl (OL.x (Yields.ao rfl rfl (by omega) (by omega)) (OL.n1 rfl ?_))))))
   refine af.dE (Sub.refl _) (T'':=[(3,_),(8,_),(13,_),(15,_),(16,_)]) (wi rfl) ?_;have hnx:nxtM M i=k:=nxtM_at hik hkM hne hke
   have hki:k=i:=by first|omega|(have:=of_decide_eq_false c81;omega)
   exact⟨M.length+1-(k+1),by omega,k+1,_,og,oj,hs,acc,⟨by omega,by omega,hog,hho,hmp,fun l hl=>by
     have:=hgr _ (Grp.step (by omega) (hnx▸hl))
     rw[hnx,if_neg (by omega),List.nil_append] at this
     exact this,by omega⟩,rfl,rfl⟩
  try simp only[aD] at g68
  have hke:∀h:k<M.length,M[k].op=0:=fun h=>absurd h (by omega)
  refine OL.dp rfl (OL.off rfl rfl (OL.off rfl rfl (OL.off rfl rfl (OL.off rfl rfl (OL.off rfl rfl (OL.off rfl rfl (OL.n1 rfl (PW.k7 3 8 13 15 16 17 76 rfl (PW.ite (b:=false) rfl ?_)))))))));rw[if_neg Bool.false_ne_true];refine PW.exit (hK9 _ _ (PW.k6 3 8 13 15 16 17 rfl (PW.seq fun K12 hK12=>PW.s3 rfl rfl rfl (PW.k7 3 8 13 15 16 17 81 rfl ?_))))
  refine PW.cond rfl (fun c81=>?_) (fun c81=>?_)
  ·skip;refine PW.ae (OL.p4 rfl rfl rfl rfl ?_);refine OL.l rfl (rhunk_fc (M:=M) (a:=i) (b:=k) (br (hrI []) (by simp)) (fun x hx=>(hokI x hx).rd (by simp)) hsol2 (br (hrM []) (by simp)) hMat hik hkM hn hmL) ?_
   rintro v86 _ ⟨G,cg,L,cl,jk,rfl,rfl,hrL,hrG⟩;refine OL.c OW.al ?_;rintro _ _ ⟨r18,rfl,rfl⟩;change OL _ _ _ _ _ ([(r18,.cells cK 46 105)]::jk::og::oj::sgM::sgT::sgI::jI::[(r3,.cells (au file) 27 33)]::S) _;refine OL.c (chg_stk (k:=0) (z:=cK) rfl rfl rfl ep) ?_;rintro _ _ rfl;refine OL.nil (PW.k6 3 8 13 15 17 18 rfl (PW.ae (OL.x (Yields.aT rfl (aa _) (av (c:=au file) (E:=27) (tot:=33) zM8)) (OL.dp rfl (OL.c (chg_stF rfl rfl) ?_)))));rintro _ _ rfl;refine OL.nil (PW.k6 3 8 13 15 17 18 rfl (PW.ops (OL.dp rfl (OL.x (Yields.aT rfl (cO ..) (av (c:=ba file _ _ _ _) (E:=46) (tot:=105) bF)) ?_))));apply OL.bV (k:=2)
   ·rfl
   ·rfl
   ·exact(List.size_toArray).trans (cO ..)
   ·rfl
   ·rfl
   ·rfl
   ·exact hog
   ·exact chgC_one ..
   ·omega
   ·unfold maxLen;omega
   intro v92 og2 hog2;refine OL.n1 rfl (hK12 _ _ (PW.k5 3 8 13 15 17 rfl (PW.ops (OL.dp rfl (OL.x (Yields.ao rfl rfl (by omega) (by omega)) (OL.n1 rfl ?_))))))
   refine af.dE ((Sub.cons Sub.join).trans (Sub.ec [2,1,3] 4 (by decide) (_::jk::og2::oj::sgM::sgT::sgI::jI::[(r3,.cells (au file) 27 33)]::S))) (T'':=[(3,_),(8,_),(13,_),(15,_),(16,_)]) (wi rfl) ?_
   have hnx:nxtM M i=k:=nxtM_at hik hkM hne hke
   have hgt:i<k:=by first|omega|(have:=of_decide_eq_true c81;omega)
   exact⟨M.length+1-(k+1),by omega,k+1,_,og2,jk++oj,hs++[(⟨file,upM (b8 aC) M i,downM (b8 aC) M k,G,cg,(foldH (b8 aC) M i k).2,L,cl,(foldH (b8 aC) M i k).1⟩:fk)],acc++[(i,k)],⟨by omega,by omega,by rw[chgS_app,List.length_append];show aV 46 105 _ (hs.length+1) (chgS hs++(ba file _ _ _ _++[])) og2;rw[List.append_nil];exact hog2,fun y hy=>by
    rcases List.mem_append.1 hy with h1|h1
    ·exact⟨(hho y h1).1.more fun p hp=>List.mem_append_right _ hp,(hho y h1).2⟩
    ·rw[List.mem_singleton.1 h1];exact⟨⟨hrG.mono fun p hp=>by simp at hp ⊢;exact .inl hp,hrL.mono fun p hp=>by simp at hp ⊢;exact .inl hp⟩,rfl⟩,
    by rw[List.map_append,List.map_append,hmp];rfl,fun l hl=>by
     have:=hgr _ (Grp.step (by omega) (hnx▸hl))
     rw[hnx,if_pos hgt,<- List.append_assoc] at this;exact this,by rw[List.length_append,List.length_singleton];omega⟩,rfl,rfl⟩
  skip;refine PW.skip (hK12 _ _ (PW.k5 3 8 13 15 17 rfl (PW.ops (OL.dp rfl (OL.x (Yields.ao rfl rfl (by omega) (by omega)) (OL.n1 rfl ?_))))))
  refine af.dE (Sub.refl _) (T'':=[(3,_),(8,_),(13,_),(15,_),(16,_)]) (wi rfl) ?_;have hnx:nxtM M i=k:=nxtM_at hik hkM hne hke
  have hki:k=i:=by first|omega|(have:=of_decide_eq_false c81;omega)
  exact⟨M.length+1-(k+1),by omega,k+1,_,og,oj,hs,acc,⟨by omega,by omega,hog,hho,hmp,fun l hl=>by
    have:=hgr _ (Grp.step (by omega) (hnx▸hl))
    rw[hnx,if_neg (by omega),List.nil_append] at this
    exact this,by omega⟩,rfl,rfl⟩
 try simp only[aD] at c63
 refine PW.exit (hK7 _ _ (PW.k1 15 rfl (PW.s3 rfl rfl rfl (PW.k2 6 7 rfl ?_))));refine PW.ret (zR rfl ?_);have hfin:=hgr [] (Grp.done (by omega))
 rw[List.append_nil] at hfin;exact⟨og::oj::S,Sub.ec [0,1] 7 (by decide) (og::oj::sgM::sgT::sgI::jI::[(r3,.cells (au file) 27 33)]::S),v,hs,og,oj,(by first|rfl|rw[hE]),rfl,hog,hho,fun h=>absurd hE h,fun _=>⟨acc,hfin,hmp⟩⟩
end Go.Proofs.Gr

namespace Go.Proofs.Gr
open Go.SL Go.RowKit Go.Proofs Go.GP Go.MyPlain
section
variable {α:Type}[DecidableEq α]
def keeps (i j:Nat):List α->List (Int×Int×Int)
 |[]=>[]
 |_::l=>(0,(i:Int),(j:Int))::keeps (i+1) (j+1) l
end
section
variable {I:List aB}{w:List ByteArray}
end
section
variable {I:List aB}{k:Nat}{t:ByteArray}
end
theorem items_len {ps:List ar}(hs:Sq ps):(b7 ps).length<=(bh ps).length:=by
 have hg:=itemsP_good hs
 have h1:(b7 ps).length<=((b7 ps).flatMap (·.lines)).length:=by
  have hpos:∀x∈b7 ps,1<=x.lines.length:=fun x hx=>by
   obtain⟨h1,h2,_⟩:=hg.1.one x hx;cases e:x.block with
   |true=>have:=h1 e;omega
   |false=>have:=h2 e;omega
  generalize b7 ps=I at hpos
  induction I with
  |nil=>exact Nat.le_refl _
  |cons x I ih=>
   have h2:=ih (fun y hy=>hpos y (List.mem_cons_of_mem _ hy))
   have h3:=hpos x (by simp)
   rw[List.flatMap_cons,List.length_append,List.length_cons];omega
 rw[hg.2] at h1;have h2:=linesP_len hs
 have h3:(live (bC ps)).length<=(bC ps).length:=List.length_filter_le _ _
 omega
theorem items_solid {ps:List ar}(hs:Sq ps):∀x∈b7 ps,x.block=false->0<x.lines.length:=fun x hx hb=>by
 have:=((itemsP_good hs).1.one x hx).2.1 hb
 omega
inductive Elt where
 |cD (k:Nat)
 |run (r:Run)
def fv (at_:Nat) (o:Option Run):Run:=o.getD ⟨at_,at_,[]⟩
def nf (ls:List ByteArray):List (Int×Int×Int)->Nat->Option Run->List Elt
 |[],_,o=>o.toList.map Elt.run
 |t::L,at_,o=>
  if t.1=0 then o.toList.map Elt.run++Elt.cD at_::nf ls L (at_+1) none
  else if t.1=1 then nf ls L (at_+1) (some { fv at_ o with to:=at_+1 })
  else nf ls L at_ (some { fv at_ o with lines:=(fv at_ o).lines++[ls[t.2.2.toNat]!] })
def runsE (l:List Elt):List Run:=l.filterMap fun|.run r=>some r|.cD _=>none
def keptE (l:List Elt):List Nat:=l.filterMap fun|.cD k=>some k|.run _=>none
theorem runsE_app (a b:List Elt):runsE (a++b)=runsE a++runsE b:=List.filterMap_append
theorem keptE_app (a b:List Elt):keptE (a++b)=keptE a++keptE b:=List.filterMap_append
theorem runsE_keep (k:Nat) (l:List Elt):runsE (.cD k::l)=runsE l:=rfl
theorem runsE_run (r:Run) (l:List Elt):runsE (.run r::l)=r::runsE l:=rfl
theorem keptE_keep (k:Nat) (l:List Elt):keptE (.cD k::l)=k::keptE l:=rfl
theorem runsE_opt (o:Option Run):runsE (o.toList.map Elt.run)=o.toList:=by cases o<;>rfl
theorem keptE_opt (o:Option Run):keptE (o.toList.map Elt.run)=[]:=by cases o<;>rfl
theorem grow_opt (pre:List Run) (at_:Nat) (o:Option Run) (K:List Bool):growR ⟨at_,o.isSome,pre++o.toList,K⟩=pre++[fv at_ o]:=by
 unfold growR fv;cases o<;>simp
theorem nf_runs {ls:List ByteArray}:∀(L:List (Int×Int×Int)) (at_:Nat) (o:Option Run) (pre:List Run) (K:List Bool),
  (L.foldl (cf ls) ⟨at_,o.isSome,pre++o.toList,K⟩).runs=pre++runsE (nf ls L at_ o)
 |[],at_,o,pre,K=>by simp only[List.foldl_nil,nf,runsE_opt]
 |t::L,at_,o,pre,K=>by
  rw[List.foldl_cons];unfold nf;by_cases h0:t.1=0
  ·have e:cf ls ⟨at_,o.isSome,pre++o.toList,K⟩ t=⟨at_+1,false,pre++o.toList,K.set at_ true⟩:=by unfold cf;rw[if_pos h0]
   rw[if_pos h0,e];have:=nf_runs (ls:=ls) L (at_+1) none (pre++o.toList) (K.set at_ true)
   simp only[Option.isSome_none,Option.toList_none,List.append_nil] at this;rw[this,runsE_app,runsE_opt,runsE_keep,List.append_assoc]
  rw[if_neg h0];by_cases h1:t.1=1
  ·have e:cf ls ⟨at_,o.isSome,pre++o.toList,K⟩ t=⟨at_+1,true,pre++[{ fv at_ o with to:=at_+1 }],K⟩:=by unfold cf;rw[if_neg h0,if_pos h1,grow_opt,fG]
   rw[if_pos h1,e];exact nf_runs (ls:=ls) L (at_+1) (some { fv at_ o with to:=at_+1 }) pre K
  have e:cf ls ⟨at_,o.isSome,pre++o.toList,K⟩ t=⟨at_,true,pre++[{ fv at_ o with lines:=(fv at_ o).lines++[ls[t.2.2.toNat]!] }],K⟩:=by unfold cf;rw[if_neg h0,if_neg h1,grow_opt,fG]
  rw[if_neg h1,e];exact nf_runs (ls:=ls) L at_ (some { fv at_ o with lines:=(fv at_ o).lines++[ls[t.2.2.toNat]!] }) pre K
theorem nf_kept {ls:List ByteArray}{k:Nat}:∀(L:List (Int×Int×Int)) (at_:Nat) (o:Option Run) (st:RS),st.at_=at_->k<st.K.length ->
  ((L.foldl (cf ls) st).K[k]! = true↔st.K[k]! = true∨k∈keptE (nf ls L at_ o))
 |[],at_,o,st,_,_=>by simp only[List.foldl_nil,nf,keptE_opt];simp
 |t::L,at_,o,st,ha,hk=>by
  rw[List.foldl_cons];unfold nf;by_cases h0:t.1=0
  ·have e:cf ls st t=⟨st.at_+1,false,st.runs,st.K.set st.at_ true⟩:=by unfold cf;rw[if_pos h0]
   rw[if_pos h0,e,nf_kept L (at_+1) none _ (by show st.at_+1=_;omega) (by simpa using hk),keptE_app,keptE_opt,keptE_keep,List.nil_append,List.mem_cons]
   show((st.K.set st.at_ true)[k]! = true∨_)↔_
   rw[getElem!_pos (st.K.set st.at_ true) k (by simpa using hk),List.getElem_set,getElem!_pos st.K k hk,ha]
   by_cases e2:at_=k
   ·subst e2;simp
   rw[if_neg e2];constructor
   ·rintro (h|h)
    ·exact .inl h
    exact .inr (.inr h)
   rintro (h|h|h)
   ·exact .inl h
   ·exact absurd h.symm e2
   exact .inr h
  rw[if_neg h0];have eK:(cf ls st t).K=st.K:=by unfold cf;rw[if_neg h0];split<;>rfl
  by_cases h1:t.1=1
  ·have ea:(cf ls st t).at_=st.at_+1:=by unfold cf;rw[if_neg h0,if_pos h1]
   rw[if_pos h1,nf_kept L (at_+1) _ _ (by omega) (by rw[eK];exact hk),eK]
  have ea:(cf ls st t).at_=st.at_:=by unfold cf;rw[if_neg h0,if_neg h1]
  rw[if_neg h1,nf_kept L at_ _ _ (by omega) (by rw[eK];exact hk),eK]
inductive Tile:Nat->List Elt->Nat->Prop
 |nil {a:Nat}:Tile a [] a
 |cD {a n:Nat}{l:List Elt}:Tile (a+1) l n->Tile a (.cD a::l) n
 |last {r:Run}:r.fr<=r.to->Tile r.fr [.run r] r.to
 |run {r:Run}{l:List Elt}{n:Nat}:r.fr<=r.to->Tile r.to (.cD r.to::l) n->Tile r.fr (.run r::.cD r.to::l) n
def frO (at_:Nat):Option Run->Nat
 |none=>at_
 |some r=>r.fr
theorem nf_tile {ls:List ByteArray}:∀(L:List (Int×Int×Int)) (at_:Nat) (o:Option Run),(∀t∈L,t.1=0∨t.1=1∨t.1=2)->(∀r,o=some r->r.fr<=r.to/\r.to=at_)->Tile (frO at_ o) (nf ls L at_ o) (at_+(L.filter bM).length)
 |[],at_,none,_,_=>Tile.nil
 |[],at_,some r,_,h=>by
  obtain⟨h1,rfl⟩:=h r rfl;exact Tile.last h1
 |t::L,at_,o,hop,h=>by
  have hL:=fun x hx=>hop x (List.mem_cons_of_mem _ hx)
  have hn:∀r,fv at_ o=r->r.fr<=r.to/\r.to=at_/\r.fr=frO at_ o:=by
   rintro r rfl;cases o with
   |none=>exact⟨Nat.le_refl _,rfl,rfl⟩
   |some r=>obtain⟨h1,h2⟩:=h r rfl;exact⟨h1,h2,rfl⟩
  obtain⟨n1,n2,n3⟩:=hn _ rfl;unfold nf;rcases hop t (by simp) with e|e|e
  ·rw[if_pos e];have ih:=nf_tile (ls:=ls) L (at_+1) none hL (fun r hr=>by cases hr)
   have hf:((t::L).filter bM).length=(L.filter bM).length+1:=by rw[List.filter_cons,if_pos (by simp[bM,e])];rfl
   rw[hf,show at_+((L.filter bM).length+1)=at_+1+(L.filter bM).length by omega]
   cases o with
   |none=>exact Tile.cD ih
   |some r=>
    obtain⟨h1,rfl⟩:=h r rfl;exact Tile.run h1 (Tile.cD ih)
  ·rw[if_neg (by rw[e];decide),if_pos e]
   have ih:=nf_tile (ls:=ls) L (at_+1) (some { fv at_ o with to:=at_+1 }) hL (fun r hr=>by cases hr;exact⟨by show(fv at_ o).fr<=at_+1;omega,rfl⟩)
   have hf:((t::L).filter bM).length=(L.filter bM).length+1:=by rw[List.filter_cons,if_pos (by simp[bM,e])];rfl
   rw[hf,show at_+((L.filter bM).length+1)=at_+1+(L.filter bM).length by omega,<- n3]
   exact ih
  rw[if_neg (by rw[e];decide),if_neg (by rw[e];decide)]
  have ih:=nf_tile (ls:=ls) L at_ (some { fv at_ o with lines:=(fv at_ o).lines++[ls[t.2.2.toNat]!] }) hL (fun r hr=>by cases hr;exact⟨n1,n2⟩)
  have hf:((t::L).filter bM).length=(L.filter bM).length:=by rw[List.filter_cons,if_neg (by simp[bM,e])]
  rw[hf,<- n3];exact ih
theorem Tile.le {a n:Nat}{l:List Elt}(h:Tile a l n):a<=n:=by
 induction h with
 |nil=>exact Nat.le_refl _
 |cD _ ih=>omega
 |last h=>exact h
 |run h _ ih=>omega
theorem Tile.mem {a n:Nat}{l:List Elt}(h:Tile a l n):(∀k,.cD k∈l->a<=k/\k<n)/\∀r,.run r∈l->a<=r.fr/\r.fr<=r.to/\r.to<=n:=by
 induction h with
 |nil=>exact⟨fun k hk=>by(cases hk),fun r hr=>by(cases hr)⟩
 |@cD a n l h ih=>
  have:=h.le
  refine⟨fun k hk=>?_,fun r hr=>?_⟩
  ·rcases List.mem_cons.1 hk with e|hk
   ·cases e;omega
   have:=ih.1 k hk;omega
  rcases List.mem_cons.1 hr with e|hr
  ·cases e
  have:=ih.2 r hr;omega
 |@last r h=>
  refine⟨fun k hk=>by simp at hk,fun s hs=>?_⟩
  simp only[List.mem_singleton,Elt.run.injEq] at hs;subst hs;exact⟨Nat.le_refl _,h,Nat.le_refl _⟩
 |@run r l n h t ih=>
  have:=t.le
  refine⟨fun k hk=>?_,fun s hs=>?_⟩
  ·rcases List.mem_cons.1 hk with e|hk
   ·cases e
   have:=ih.1 k hk;omega
  rcases List.mem_cons.1 hs with e|hs
  ·cases e;omega
  have:=ih.2 s hs;omega
def fu (T:List ByteArray):List Elt->List ByteArray
 |[]=>[]
 |.cD k::l=>T[k]!::fu T l
 |.run r::l=>r.lines++fu T l
theorem wordsE_app (T:List ByteArray):∀(a b:List Elt),fu T (a++b)=fu T a++fu T b
 |[],b=>rfl
 |.cD k::a,b=>by simp only[List.cons_append,fu,wordsE_app T a b]
 |.run r::a,b=>by simp only[List.cons_append,fu,wordsE_app T a b,List.append_assoc]
theorem words_opt (T:List ByteArray) (at_:Nat) (o:Option Run):fu T (o.toList.map Elt.run)=(fv at_ o).lines:=by
 cases o with
 |none=>rfl
 |some r=>simp[fu,fv]
theorem eU {α:Type}[Inhabited α] {l r:List α}{a:α}{i:Nat}(h:l.drop i=a::r):l[i]! = a/\l.drop (i+1)=r:=by
 have hi:i<l.length:=by
  rcases Nat.lt_or_ge i l.length with h1|h1
  ·exact h1
  rw[List.drop_eq_nil_of_le h1] at h;cases h
 rw[List.drop_eq_getElem_cons hi] at h;simp only[List.cons.injEq] at h;exact⟨by rw[getElem!_pos l i hi];exact h.1,h.2⟩
theorem nf_words {T ls:List ByteArray}:∀(f i j at_:Nat) (xs ys:List ByteArray) (o:Option Run),xs.length+ys.length<=f->ls.drop j=ys->T.drop at_=xs ->
  fu T (nf ls (dt f i j xs ys) at_ o)=(fv at_ o).lines++ys
 |0,i,j,at_,xs,ys,o,h,h1,h2=>by
  obtain rfl:xs=[]:=List.eq_nil_of_length_eq_zero (by omega)
  obtain rfl:ys=[]:=List.eq_nil_of_length_eq_zero (by omega)
  simp only[dt,nf,words_opt T at_,List.append_nil]
 |f+1,i,j,at_,[],[],o,h,h1,h2=>by simp only[dt,nf,words_opt T at_,List.append_nil]
 |f+1,i,j,at_,x::xs,[],o,h,h1,h2=>by
  simp only[dt,nf];rw[if_neg (by decide),if_pos trivial]
  have:=nf_words f (i+1) j (at_+1) xs [] (some { fv at_ o with to:=at_+1 }) (by simp only[List.length_cons,List.length_nil] at h ⊢;omega) h1 (eU h2).2
  rw[this];rfl
 |f+1,i,j,at_,[],y::ys,o,h,h1,h2=>by
  simp only[dt,nf];rw[if_neg (by decide),if_neg (by decide)]
  have:=nf_words f i (j+1) at_ [] ys (some { fv at_ o with lines:=(fv at_ o).lines++[ls[(j:Int).toNat]!] }) (by simp only[List.length_cons,List.length_nil] at h ⊢;omega) (eU h1).2 h2
  rw[this]
  show((fv at_ o).lines++[ls[(j:Int).toNat]!])++ys=_
  rw[show ls[(j:Int).toNat]! = y from(eU h1).1,List.append_assoc];rfl
 |f+1,i,j,at_,x::xs,y::ys,o,h,h1,h2=>by
  simp only[dt];split
  ·rename_i e;subst e;simp only[nf];rw[if_pos trivial,wordsE_app,words_opt T at_];simp only[fu];have:=nf_words f (i+1) (j+1) (at_+1) xs ys none (by simp only[List.length_cons] at h ⊢;omega) (eU h1).2 (eU h2).2
   rw[this,(eU h2).1];rfl
  split
  ·simp only[nf];rw[if_neg (by decide),if_pos trivial]
   have:=nf_words f (i+1) j (at_+1) xs (y::ys) (some { fv at_ o with to:=at_+1 }) (by simp only[List.length_cons] at h ⊢;omega) h1 (eU h2).2
   rw[this];rfl
  simp only[nf];rw[if_neg (by decide),if_neg (by decide)]
  have:=nf_words f i (j+1) at_ (x::xs) ys (some { fv at_ o with lines:=(fv at_ o).lines++[ls[(j:Int).toNat]!] }) (by simp only[List.length_cons] at h ⊢;omega) (eU h1).2 h2
  rw[this]
  show((fv at_ o).lines++[ls[(j:Int).toNat]!])++ys=_
  rw[show ls[(j:Int).toNat]! = y from(eU h1).1,List.append_assoc];rfl
def nfM:List bj->Nat->Option Run->List Elt
 |[],_,o=>o.toList.map Elt.run
 |t::L,at_,o=>
  if t.op=0 then o.toList.map Elt.run++Elt.cD at_::nfM L (at_+1) none
  else if t.op=1 then nfM L (at_+1) (some { fv at_ o with to:=at_+1 })
  else nfM L at_ (some { fv at_ o with lines:=(fv at_ o).lines++[t.line] })
def marksL (ls:List ByteArray):List (Int×Int×Int)->Nat->List bj
 |[],_=>[]
 |t::L,at_=>if t.1=2 then⟨2,at_,ls[t.2.2.toNat]!⟩::marksL ls L at_ else⟨t.1,at_,⟨#[]⟩⟩::marksL ls L (at_+1)
theorem foldM_eq (ls:List ByteArray):∀(L:List (Int×Int×Int)) (at_:Nat) (out:List bj),(L.foldl (ek ls) (at_,out)).2=out++marksL ls L at_
 |[],at_,out=>by simp[marksL]
 |t::L,at_,out=>by
  rw[List.foldl_cons];by_cases e:t.1=2
  ·have hs:ek ls (at_,out) t=(at_,out++[⟨2,at_,ls[t.2.2.toNat]!⟩]):=by unfold ek;rw[if_pos e]
   rw[hs,foldM_eq ls L,marksL,if_pos e,List.append_assoc];rfl
  have hs:ek ls (at_,out) t=(at_+1,out++[⟨t.1,at_,⟨#[]⟩⟩]):=by unfold ek;rw[if_neg e]
  rw[hs,foldM_eq ls L,marksL,if_neg e,List.append_assoc];rfl
theorem secM_eq (I:List aB) (s:Sec):secM I s=marksL s.lines (scr (db I s.fr s.to) s.lines) s.fr:=by
 unfold secM;rw[foldM_eq];rfl
def Shut (r:List bj):Prop:=∀at_ o,nfM r at_ o=o.toList.map Elt.run++nfM r at_ none
theorem shut_nil:Shut []:=fun at_ o=>by simp[nfM]
theorem shut_keep {m:bj}{r:List bj}(h:m.op=0):Shut (m::r):=fun at_ o=>by simp[nfM,h]
theorem nfM_sec {ls:List ByteArray}{r:List bj}(hr:Shut r):∀(L:List (Int×Int×Int)) (at_:Nat) (o:Option Run),(∀t∈L,t.1=0∨t.1=1∨t.1=2)->nfM (marksL ls L at_++r) at_ o=nf ls L at_ o++nfM r (at_+(L.filter bM).length) none
 |[],at_,o,_=>by simp only[marksL,List.nil_append,nf,List.filter_nil,List.length_nil,Nat.add_zero];exact hr at_ o
 |t::L,at_,o,h=>by
  have hL:=fun x hx=>h x (List.mem_cons_of_mem _ hx)
  unfold marksL nf;rcases h t (by simp) with e|e|e
  ·rw[if_neg (by rw[e];decide),if_pos e,List.filter_cons,if_pos (by simp[bM,e]),List.length_cons,List.cons_append,nfM,if_pos e,nfM_sec hr L (at_+1) none hL,List.append_assoc,List.cons_append,show at_+1+(L.filter bM).length=at_+((L.filter bM).length+1) by omega]
  ·rw[if_neg (by rw[e];decide),if_neg (by rw[e];decide),if_pos e,List.filter_cons,if_pos (by simp[bM,e]),List.length_cons,List.cons_append,nfM,if_neg (show ¬t.1=0 by rw[e];decide),if_pos e,nfM_sec hr L (at_+1) _ hL,show at_+1+(L.filter bM).length=at_+((L.filter bM).length+1) by omega]
  rw[if_pos e,if_neg (by rw[e];decide),if_neg (by rw[e];decide),List.filter_cons,if_neg (by simp[bM,e]),List.cons_append,nfM,if_neg (show ¬(2:Int)=0 by decide),if_neg (show ¬(2:Int)=1 by decide),nfM_sec hr L at_ _ hL]
def eltT (I:List aB):List Tok->Nat->List ByteArray->List Elt
 |[],fr,cur=>nf cur (scr (db I fr I.length) cur) fr none
 |.free s::r,fr,cur=>eltT I r fr (cur++[s])
 |.blk k::r,fr,cur=>nf cur (scr (db I fr k) cur) fr none++.cD k::eltT I r (k+1) []
theorem scr_count {I:List aB}{fr to:Nat}{cur:List ByteArray}(hf:fr<=to) (ht:to<=I.length):fr+((scr (db I fr to) cur).filter bM).length=to:=by
 rw[scr_takes,txts_len3 ht];omega
theorem nfM_marksT {I:List aB}:∀(tk:List Tok) (fr:Nat) (cur:List ByteArray),fr<=I.length->okT I.length tk fr->nfM (cW I tk fr cur) fr none=eltT I tk fr cur
 |[],fr,cur,h,_=>by
  simp only[cW,eltT];rw[secM_eq];have:=nfM_sec (ls:=cur) shut_nil (scr (db I fr I.length) cur) fr none (fun t ht=>scr_op ht)
  rw[List.append_nil] at this;rw[this];simp[nfM]
 |.free s::r,fr,cur,h,ho=>by
  simp only[cW,eltT];exact nfM_marksT r fr (cur++[s]) h ho
 |.blk k::r,fr,cur,h,ho=>by
  simp only[cW,eltT];have hk:k<=I.length:=Nat.le_of_lt ho.2.1
  rw[secM_eq,nfM_sec (ls:=cur) (shut_keep rfl) (scr (db I fr k) cur) fr none (fun t ht=>scr_op ht),scr_count ho.1 hk]
  simp only[nfM,if_true,Option.toList_none,List.map_nil,List.nil_append];rw[nfM_marksT r (k+1) [] ho.2.1 ho.2.2]
theorem runs_nf {I:List aB}{s:Sec}{K:List Bool}:(fb I s K).runs=runsE (nf s.lines (scr (db I s.fr s.to) s.lines) s.fr none):=by
 have:=nf_runs (ls:=s.lines) (scr (db I s.fr s.to) s.lines) s.fr none [] K
 simpa[fb] using this
theorem runs_eltT {I:List aB}:∀(tk:List Tok) (fr:Nat) (cur:List ByteArray) (K:List Bool),(fg I (di I.length tk fr cur) K).1=runsE (eltT I tk fr cur)
 |[],fr,cur,K=>by simp only[di,fg,eltT,List.append_nil];exact runs_nf
 |.free s::r,fr,cur,K=>by simp only[di,eltT];exact runs_eltT r fr (cur++[s]) K
 |.blk k::r,fr,cur,K=>by
  simp only[di,fg,eltT];rw[runs_eltT r (k+1) [],runsE_app,runsE_keep,runs_nf]
def blksT:List Tok->List Nat
 |[]=>[]
 |.free _::r=>blksT r
 |.blk k::r=>k::blksT r
theorem keepT_at {k:Nat}:∀(tk:List Tok) (K:List Bool),k<K.length->((fC K tk)[k]! = true↔K[k]! = true∨k∈blksT tk)
 |[],K,_=>by simp[fC,blksT]
 |.free _::r,K,h=>by simp only[fC,blksT];exact keepT_at r K h
 |.blk j::r,K,h=>by
  simp only[fC,blksT,List.mem_cons];rw[keepT_at r (K.set j true) (by simpa using h),getElem!_pos (K.set j true) k (by simpa using h),List.getElem_set,getElem!_pos K k h]
  by_cases e:j=k
  ·subst e;simp
  rw[if_neg e];constructor
  ·rintro (h|h)
   ·exact .inl h
   exact .inr (.inr h)
  rintro (h|h|h)
  ·exact .inl h
  ·exact absurd h.symm e
  exact .inr h
theorem kept_nf {I:List aB}{s:Sec}{K:List Bool}{k:Nat}(h:k<K.length):(fb I s K).K[k]! = true↔K[k]! = true∨k∈keptE (nf s.lines (scr (db I s.fr s.to) s.lines) s.fr none):=
 nf_kept (ls:=s.lines) _ s.fr none ⟨s.fr,false,[],K⟩ rfl h
theorem kept_eltT {I:List aB}{k:Nat}:∀(tk:List Tok) (fr:Nat) (cur:List ByteArray) (K:List Bool),k<K.length->((fg I (di I.length tk fr cur) K).2[k]! = true∨k∈blksT tk↔K[k]! = true∨k∈keptE (eltT I tk fr cur))
 |[],fr,cur,K,h=>by
  simp only[di,fg,eltT,blksT,List.not_mem_nil,or_false];exact kept_nf (s:=⟨fr,I.length,cur⟩) h
 |.free s::r,fr,cur,K,h=>by simp only[di,eltT,blksT];exact kept_eltT r fr (cur++[s]) K h
 |.blk j::r,fr,cur,K,h=>by
  simp only[di,fg,eltT,blksT,List.mem_cons];have h1:(fb I ⟨fr,j,cur⟩ K).K[k]! = true↔K[k]! = true∨k∈keptE (nf cur (scr (db I fr j) cur) fr none):=kept_nf (I:=I) (s:=⟨fr,j,cur⟩) (K:=K) h
  have h2:=kept_eltT (I:=I) (k:=k) r (j+1) [] (fb I ⟨fr,j,cur⟩ K).K (by rw[runsR_len];exact h)
  rw[keptE_app,keptE_keep,List.mem_append,List.mem_cons];rw[h1] at h2;constructor
  ·rintro (h|h|h)
   ·rcases h2.1 (.inl h) with (h|h)|h
    ·exact .inl h
    ·exact .inr (.inl h)
    exact .inr (.inr (.inr h))
   ·exact .inr (.inr (.inl h))
   rcases h2.1 (.inr h) with (h|h)|h
   ·exact .inl h
   ·exact .inr (.inl h)
   exact .inr (.inr (.inr h))
  rintro (h|h|h|h)
  ·rcases h2.2 (.inl (.inl h)) with h|h
   ·exact .inl h
   exact .inr (.inr h)
  ·rcases h2.2 (.inl (.inr h)) with h|h
   ·exact .inl h
   exact .inr (.inr h)
  ·exact .inr (.inl h)
  rcases h2.2 (.inr h) with h|h
  ·exact .inl h
  exact .inr (.inr h)
theorem manyT {n:Nat}:∀(tk:List Tok) (fr:Nat) (cur:List ByteArray),dH (di n tk fr cur)=cur.length+freeN tk
 |[],fr,cur=>by simp[di,dH,freeN]
 |.free s::r,fr,cur=>by simp only[di,freeN];rw[manyT r fr (cur++[s]),List.length_append];simp only[List.length_cons,List.length_nil];omega
 |.blk k::r,fr,cur=>by
  simp only[di,freeN];have:=manyT (n:=n) r (k+1) []
  simp only[dH,List.map_cons,List.sum_cons,List.length_nil,Nat.zero_add] at this ⊢;rw[this]
theorem badT {n:Nat}:∀(tk:List Tok) (fr:Nat) (cur:List ByteArray),badS (di n tk fr cur)=((cur.any fun x=>!Ln.isP x) || !fineT tk)
 |[],fr,cur=>by simp[di,badS,fineT]
 |.free s::r,fr,cur=>by
  simp only[di];rw[badT r fr (cur++[s]),List.any_append];simp only[fineT,List.all_cons,List.any_cons,List.any_nil,Bool.or_false,Bool.not_and,Bool.or_assoc]
 |.blk k::r,fr,cur=>by
  simp only[di];have:=badT (n:=n) r (k+1) []
  simp only[badS,List.any_cons,List.any_nil,Bool.false_or] at this ⊢;rw[this];simp only[fineT,List.all_cons,Bool.true_and]
theorem errT_eq (I:List aB) (w:List ByteArray):errT (dq I 0 w)=errH I w:=by
 unfold errT errH checkP secs;rw[manyT,badT];simp only[List.length_nil,Nat.zero_add,List.any_nil,Bool.false_or];cases fineT (dq I 0 w)<;>simp
def cntM (l:List bj):Nat:=(l.filter fun x=>decide (x.op≠2)).length
def dW (M:List bj) (i:Nat):Nat:=cntM (M.take i)
theorem cntM_app (a b:List bj):cntM (a++b)=cntM a+cntM b:=by unfold cntM;rw[List.filter_append,List.length_append]
theorem cntM_yes {m:bj}{l:List bj}(h:m.op≠2):cntM (m::l)=cntM l+1:=by unfold cntM;rw[List.filter_cons,if_pos (by simpa using h)];rfl
theorem cntM_no {m:bj}{l:List bj}(h:m.op=2):cntM (m::l)=cntM l:=by unfold cntM;rw[List.filter_cons,if_neg (by simpa using h)]
theorem posM_yes {M:List bj}{i:Nat}(hi:i<M.length) (h:M[i].op≠2):dW M (i+1)=dW M i+1:=by
 unfold dW;rw[aA hi,cntM_app,cntM_yes h];rfl
theorem posM_no {M:List bj}{i:Nat}(hi:i<M.length) (h:M[i].op=2):dW M (i+1)=dW M i:=by
 unfold dW;rw[aA hi,cntM_app,cntM_no h];rfl
def PosOk:List bj->Nat->Nat->Prop
 |[],p,n=>p=n
 |m::M,p,n=>m.at_=p/\(m.op=0∨m.op=1∨m.op=2)/\PosOk M (if m.op=2 then p else p+1) n
theorem posOk_sec {ls:List ByteArray}{r:List bj}{n:Nat}:∀(L:List (Int×Int×Int)) (at_:Nat),(∀t∈L,t.1=0∨t.1=1∨t.1=2)->PosOk r (at_+(L.filter bM).length) n->PosOk (marksL ls L at_++r) at_ n
 |[],at_,_,hr=>hr
 |t::L,at_,h,hr=>by
  have hL:=fun x hx=>h x (List.mem_cons_of_mem _ hx)
  unfold marksL;by_cases e:t.1=2
  ·rw[List.filter_cons,if_neg (by simp[bM,e])] at hr
   rw[if_pos e];exact⟨rfl,.inr (.inr rfl),by rw[if_pos rfl];exact posOk_sec L at_ hL hr⟩
  rw[List.filter_cons,if_pos (by simp[bM,e]),List.length_cons] at hr
  rw[if_neg e];exact⟨rfl,h t (by simp),by rw[if_neg e];exact posOk_sec L (at_+1) hL (by rw[show at_+1+(L.filter bM).length=at_+((L.filter bM).length+1) by omega];exact hr)⟩
theorem posOk_marksT {I:List aB}:∀(tk:List Tok) (fr:Nat) (cur:List ByteArray),fr<=I.length->okT I.length tk fr->PosOk (cW I tk fr cur) fr I.length
 |[],fr,cur,h,_=>by
  simp only[cW];rw[secM_eq];have:=posOk_sec (ls:=cur) (r:=[]) (n:=I.length) (scr (db I fr I.length) cur) fr (fun t ht=>scr_op ht) (scr_count h (Nat.le_refl _))
  rwa [List.append_nil] at this
 |.free s::r,fr,cur,h,ho=>by
  simp only[cW];exact posOk_marksT r fr (cur++[s]) h ho
 |.blk k::r,fr,cur,h,ho=>by
  simp only[cW];have hk:k<=I.length:=Nat.le_of_lt ho.2.1
  rw[secM_eq];refine posOk_sec (ls:=cur) (scr (db I fr k) cur) fr (fun t ht=>scr_op ht) ?_
  rw[scr_count ho.1 hk];exact⟨rfl,.inl rfl,posOk_marksT r (k+1) [] ho.2.1 ho.2.2⟩
theorem posOk_drop {n:Nat}:∀(i:Nat) (M:List bj) (p:Nat),PosOk M p n->PosOk (M.drop i) (p+dW M i) n
 |0,M,p,h=>by simpa[dW,cntM] using h
 |i+1,[],p,h=>by simpa[dW,cntM] using h
 |i+1,m::M,p,h=>by
  obtain⟨h1,h2,h3⟩:=h;have:=posOk_drop i M _ h3
  rw[List.drop_succ_cons];have e:p+dW (m::M) (i+1)=(if m.op=2 then p else p+1)+dW M i:=by
   unfold dW;rw[List.take_succ_cons];by_cases e:m.op=2
   ·rw[if_pos e,cntM_no e]
   rw[if_neg e,cntM_yes e];omega
  rw[e];exact this
theorem posOk_at {M:List bj}{n i:Nat}(h:PosOk M 0 n) (hi:i<M.length):M[i].at_=dW M i/\(M[i].op=0∨M[i].op=1∨M[i].op=2):=by
 have:=posOk_drop i M 0 h
 rw[List.drop_eq_getElem_cons hi,Nat.zero_add] at this;exact⟨this.1,this.2.1⟩
theorem posOk_end {M:List bj}{n:Nat}(h:PosOk M 0 n):dW M M.length=n:=by
 have:=posOk_drop M.length M 0 h
 rw[List.drop_length,Nat.zero_add] at this;exact this
theorem posM_mono {M:List bj}{i j:Nat}(h:i<=j) (hj:j<=M.length):dW M i<=dW M j:=by
 obtain⟨d,rfl⟩:∃d,j=i+d:=⟨j-i,by omega⟩
 unfold dW;rw[List.take_add,cntM_app];omega
theorem posM_lt {M:List bj}{i j:Nat}(h:i<j) (hj:j<=M.length) (ho:(M[i]'(by omega)).op≠2):dW M i<dW M j:=by
 have h1:=posM_yes (M:=M) (i:=i) (by omega) ho
 have h2:=posM_mono (M:=M) (i:=i+1) (j:=j) h hj
 omega
theorem keptE_nfM {n:Nat}:∀(M:List bj) (p:Nat) (o:Option Run),PosOk M p n->keptE (nfM M p o)=(M.filter fun x=>decide (x.op=0)).map bj.at_
 |[],p,o,_=>by simp only[nfM,keptE_opt,List.filter_nil,List.map_nil]
 |m::M,p,o,h=>by
  obtain⟨h1,h2,h3⟩:=h;unfold nfM;rcases h2 with e|e|e
  ·rw[if_neg (by rw[e];decide)] at h3
   rw[if_pos e,keptE_app,keptE_opt,keptE_keep,List.nil_append,keptE_nfM M _ _ h3,List.filter_cons,if_pos (by simpa using e),List.map_cons,h1]
  ·rw[if_neg (by rw[e];decide)] at h3
   rw[if_neg (by rw[e];decide),if_pos e,keptE_nfM M _ _ h3,List.filter_cons,if_neg (by simp[e])]
  rw[if_pos e] at h3;rw[if_neg (by rw[e];decide),if_neg (by rw[e];decide),keptE_nfM M _ _ h3,List.filter_cons,if_neg (by simp[e])]
def linM (l:List bj):List ByteArray:=(l.filter fun x=>decide (x.op=2)).map bj.line
def runOf (M:List bj) (p:Nat×Nat):Run:=⟨dW M p.1,dW M p.2,linM ((M.take p.2).drop p.1)⟩
theorem nfM_run {r:List bj}:∀(G:List bj) (p:Nat) (x:Run),(∀m∈G,m.op=1∨m.op=2)->x.to=p->nfM (G++r) p (some x)=nfM r (p+cntM G) (some ⟨x.fr,p+cntM G,x.lines++linM G⟩)
 |[],p,x,_,h=>by subst h;simp[cntM,linM]
 |m::G,p,x,h,hx=>by
  have hG:=fun y hy=>h y (List.mem_cons_of_mem _ hy)
  rw[List.cons_append,nfM];rcases h m (by simp) with e|e
  ·rw[if_neg (by rw[e];decide),if_pos e,nfM_run G (p+1) _ hG rfl,cntM_yes (by rw[e];decide),show p+1+cntM G=p+(cntM G+1) by omega]
   show nfM r _ (some ⟨x.fr,_,x.lines++linM G⟩)=_
   rw[show linM (m::G)=linM G by unfold linM;rw[List.filter_cons,if_neg (by simp[e])]]
  rw[if_neg (by rw[e];decide),if_neg (by rw[e];decide),cntM_no e]
  refine(nfM_run G p ⟨x.fr,x.to,x.lines++[m.line]⟩ hG hx).trans ?_;rw[show linM (m::G)=m.line::linM G by unfold linM;rw[List.filter_cons,if_pos (by simp[e])];rfl]
  simp only[List.append_assoc,List.singleton_append]
theorem nfM_none {m:bj}{r:List bj}{p:Nat}(h:m.op≠0):nfM (m::r) p none=nfM (m::r) p (some ⟨p,p,[]⟩):=by
 simp only[nfM,if_neg h,fv,Option.getD_none,Option.getD_some]
theorem nxtM_split (M:List bj) (i:Nat):∃G D,M.drop i=G++D/\nxtM M i=i+G.length/\(∀m∈G,m.op≠0)/\(∀m r,D=m::r->m.op=0):=by
 refine⟨_,_,(List.takeWhile_append_dropWhile (p:=fun x:bj=>decide (x.op≠0)) (l:=M.drop i)).symm,rfl,?_,?_⟩
 ·intro m hm;have:=List.all_eq_true.1 (List.all_takeWhile (p:=fun x:bj=>decide (x.op≠0)) (l:=M.drop i)) m hm
  simpa using this
 intro m r e;have h:=List.head_dropWhile_not (p:=fun x:bj=>decide (x.op≠0)) (l:=M.drop i) (by rw[e];simp)
 simp only[e,List.head_cons] at h;simpa using h
theorem grp_runs {M:List bj}{n:Nat}(hp:PosOk M 0 n):∀{i:Nat}{l:List (Nat×Nat)},Grp M i l->l.map (runOf M)=runsE (nfM (M.drop i) (dW M i) none)/\∀p∈l,p.1<=p.2/\p.2<=M.length:=by
 intro i l h
 induction h with
 |done h=>rw[List.drop_eq_nil_of_le h];exact⟨rfl,fun p hp=>by cases hp⟩
 |@step i l h k ih=>
  obtain⟨G,D,hGD,hn,hG,hD⟩:=nxtM_split M i;have hGl:G.length<=M.length-i:=by have:=congrArg List.length hGD;rw[List.length_drop,List.length_append] at this;omega
  have hdr:M.drop (nxtM M i)=D:=by rw[hn,<- List.drop_drop,hGD,List.drop_left]
  have htk:(M.drop i).take G.length=G:=by rw[hGD,List.take_left]
  have hpk:dW M (nxtM M i)=dW M i+cntM G:=by unfold dW;rw[hn,List.take_add,htk,cntM_app]
  have hGo:∀m∈G,m.op=1∨m.op=2:=by
   intro m hm;have h1:m∈M.drop i:=by rw[hGD];exact List.mem_append_left _ hm
   obtain⟨j,hj,rfl⟩:=List.getElem_of_mem (List.mem_of_mem_drop h1);rcases(posOk_at hp hj).2 with e|e
   ·exact absurd e (hG _ hm)
   exact e
  have hlin:(M.take (nxtM M i)).drop i=G:=by
   rw[hn,List.take_add,htk,List.drop_append_of_le_length (by rw[List.length_take];omega),List.drop_eq_nil_of_le (by rw[List.length_take];omega),List.nil_append]
  have hrest:∀o:Option Run,runsE (nfM D (dW M (nxtM M i)) o)=o.toList++l.map (runOf M):=by
   intro o;cases D with
   |nil=>
    have hz:M.drop (nxtM M i+1)=[]:=by rw[<- List.drop_drop,hdr];rfl
    rw[hz] at ih;rw[ih.1,nfM,nfM,runsE_opt,runsE_opt];simp
   |cons m r=>
    have hz:M.drop (nxtM M i+1)=r:=by rw[<- List.drop_drop,hdr];rfl
    have hm:=hD m r rfl
    have hlt:nxtM M i<M.length:=by
     have:=congrArg List.length hdr
     rw[List.length_drop,List.length_cons] at this;omega
    have hme:M[nxtM M i] = m:=by
     have:=hdr;rw[List.drop_eq_getElem_cons hlt] at this
     exact(List.cons.inj this).1
    rw[hz,posM_yes hlt (by rw[hme,hm];decide)] at ih
    rw[nfM,if_pos hm,runsE_app,runsE_opt,runsE_keep,ih.1]
  refine⟨?_,?_⟩
  ·rw[List.map_append,hGD];cases G with
   |nil=>
    have hki:nxtM M i=i:=by rw[hn];rfl
    have:=hrest none
    rw[hki] at this;rw[if_neg (by omega),List.map_nil,List.nil_append,List.nil_append,this];rfl
   |cons m G=>
    rw[if_pos (by rw[hn,List.length_cons];omega),List.cons_append,nfM_none (hG m (by simp)),<- List.cons_append,nfM_run (m::G) (dW M i) ⟨dW M i,dW M i,[]⟩ hGo rfl,<- hpk,hrest]
    show [runOf M (i,nxtM M i)]++_=_
    unfold runOf;simp only[hlin];rfl
  intro p hp2;rcases List.mem_append.1 hp2 with h1|h1
  ·split at h1
   ·rw[List.mem_singleton.1 h1];exact⟨by show i<=nxtM M i;omega,by show nxtM M i<=_;omega⟩
   cases h1
  exact ih.2 p h1
def leV (a b:ay):Prop:=cy b a=false
theorem putP_perm (l:List ay) (v:ay):(putP l v).Perm (v::l):=by
 unfold putP;refine List.perm_middle.trans ?_;rw[List.takeWhile_append_dropWhile]
theorem putP_sorted {l:List ay}{v:ay}(h:l.Pairwise leV):(putP l v).Pairwise leV:=by
 unfold putP;have hl:=List.takeWhile_append_dropWhile (p:=fun x=>cy x v) (l:=l)
 have h2:=h
 rw[<- hl,List.pairwise_append] at h2;obtain⟨hA,hD,hAD⟩:=h2;have hlt:∀x∈l.takeWhile (fun x=>cy x v),cy x v=true:=fun x hx=>List.all_eq_true.1 (List.all_takeWhile (p:=fun x=>cy x v) (l:=l)) x hx
 have hge:∀d∈l.dropWhile (fun x=>cy x v),leV v d:=by
  cases e:l.dropWhile (fun x=>cy x v) with
  |nil=>intro d hd;cases hd
  |cons d0 D=>
   have h0:cy d0 v=false:=by
    have h:=List.head_dropWhile_not (p:=fun x=>cy x v) (l:=l) (by rw[e];simp)
    simpa only[e,List.head_cons] using h
   rw[e,List.pairwise_cons] at hD;intro d hd;rcases List.mem_cons.1 hd with rfl|hd
   ·exact h0
   exact dN.trans v d0 d h0 (hD.1 d hd)
 rw[List.pairwise_append];refine⟨hA,List.pairwise_cons.2 ⟨hge,hD⟩,fun a ha y hy=>?_⟩
 rcases List.mem_cons.1 hy with rfl|hy
 ·exact dN.asymm _ _ (hlt a ha)
 exact hAD a ha y hy
theorem foldP (l:List ay):∀g:List ay,g.Pairwise leV->(l.foldl putP g).Pairwise leV/\(l.foldl putP g).Perm (g++l):=by
 induction l with
 |nil=>intro g h;simpa using h
 |cons v l ih=>
  intro g h;obtain⟨h1,h2⟩:=ih (putP g v) (putP_sorted h);refine⟨h1,h2.trans ?_⟩;refine((putP_perm g v).append_right l).trans ?_;rw[List.cons_append];exact List.perm_middle.symm
theorem putP_sort (l:List ay):l.foldl putP [] = eX l:=by
 obtain⟨h1,h2⟩:=foldP l [] List.Pairwise.nil;rw[List.nil_append] at h2;refine List.Perm.eq_of_pairwise (le:=leV) (fun a b _ _ h h'=>ltV_tot a b h' h) h1 ?_ (h2.trans (List.mergeSort_perm _ _).symm)
 have:=List.pairwise_mergeSort (le:=fun x y=>!(ltOf ordV) y x) (fun a b c hab hbc=>by
  simp only[Bool.not_eq_true'] at hab hbc ⊢;exact dN.trans a b c hab hbc) (fun a b=>by
  simp only[Bool.or_eq_true,Bool.not_eq_true']
  show cy b a=false∨cy a b=false
  cases e:cy b a with
  |false=>exact .inl rfl
  |true=>exact .inr (dN.asymm _ _ e)) l
 refine List.Pairwise.imp ?_ this;intro a b hab;exact(by simpa using hab:ltOf ordV b a=false)
theorem blks_kept {I:List aB}{k:Nat}:∀(tk:List Tok) (fr:Nat) (cur:List ByteArray),k∈blksT tk->k∈keptE (eltT I tk fr cur)
 |[],_,_,h=>by cases h
 |.free s::r,fr,cur,h=>by simp only[eltT];exact blks_kept r fr (cur++[s]) h
 |.blk j::r,fr,cur,h=>by
  simp only[eltT];rw[keptE_app,keptE_keep,List.mem_append,List.mem_cons];rcases List.mem_cons.1 h with rfl|h
  ·exact .inr (.inl rfl)
  exact .inr (.inr (blks_kept r (j+1) [] h))
theorem kept_mono {I:List aB}{k:Nat}:∀(a:List Sec) (K:List Bool),k<K.length->K[k]! = true->(fg I a K).2[k]! = true
 |[],K,_,h=>h
 |s::r,K,hk,h=>by
  simp only[fg];exact kept_mono r _ (by rw[runsR_len];exact hk) ((kept_nf hk).2 (.inl h))
theorem kept_all {I:List aB}{w:List ByteArray}{k:Nat}(hk:k<I.length):(keptH I w)[k]! = true↔k∈keptE (eltT I (dq I 0 w) 0 []):=by
 have hl:k<(fC (List.replicate I.length false) (dq I 0 w)).length:=by rw[keepT_len,List.length_replicate];exact hk
 have h0:=keepT_at (k:=k) (dq I 0 w) (List.replicate I.length false) (by rw[List.length_replicate];exact hk)
 have hf:¬(List.replicate I.length false)[k]! = true:=by rw[getElem!_pos _ k (by rw[List.length_replicate];exact hk),List.getElem_replicate];decide
 have h1:=kept_eltT (I:=I) (k:=k) (dq I 0 w) 0 [] _ hl
 unfold keptH secs;constructor
 ·intro h;rcases h1.1 (.inl h) with h|h
  ·rcases h0.1 h with h|h
   ·exact absurd h hf
   exact blks_kept _ _ _ h
  exact h
 intro h;rcases h1.2 (.inr h) with h|h
 ·exact h
 exact kept_mono _ _ hl (h0.2 (.inr h))
section
variable {I:List aB}{M:List bj}{K:List Bool}
structure Told (I:List aB) (M:List bj) (K:List Bool):Prop where
 pos:PosOk M 0 I.length
 kept:∀k,k<I.length->(K[k]! = true↔k∈(M.filter fun x=>decide (x.op=0)).map bj.at_)
theorem Told.room (h:Told I M K) {a:Nat}(ha:a<M.length) (ho:M[a].op≠2):dW M a<I.length:=by
 have:=posM_lt (M:=M) (i:=a) (j:=M.length) ha (Nat.le_refl _) ho
 rwa [posOk_end h.pos] at this
theorem Told.bit (h:Told I M K) {a:Nat}(ha:a<M.length) (ho:M[a].op≠2):K[dW M a]! = decide (M[a].op=0):=by
 have hr:=h.room ha ho
 have hk:=h.kept _ hr
 cases e:decide (M[a].op=0) with
 |true=>
  exact hk.2 (List.mem_map.2 ⟨M[a],List.mem_filter.2 ⟨List.getElem_mem ha,e⟩,(posOk_at h.pos ha).1⟩)
 |false=>
  cases e2:K[dW M a]! with
  |false=>rfl
  |true=>
   obtain⟨m,hm,hp⟩:=List.mem_map.1 (hk.1 e2);obtain⟨hm1,hm2⟩:=List.mem_filter.1 hm;obtain⟨j,hj,rfl⟩:=List.getElem_of_mem hm1;have hm3:M[j].op=0:=of_decide_eq_true hm2
   rw[(posOk_at h.pos hj).1] at hp;rcases Nat.lt_trichotomy j a with hlt|rfl|hlt
   ·have:=posM_lt (M:=M) hlt (Nat.le_of_lt ha) (by rw[hm3];decide);omega
   ·rw[hm3] at e;cases e
   have:=posM_lt (M:=M) hlt (Nat.le_of_lt hj) ho;omega
theorem Told.solid (h:Told I M K) {a:Nat}(ha:a<M.length) (ho:M[a].op≠2):dC I M[a] = cj I K (dW M a):=by
 unfold dC cj;rw[h.bit ha ho,(posOk_at h.pos ha).1]
theorem solidM_new {x:bj}(h:x.op=2):dC I x=false:=by unfold dC;rw[h];rfl
theorem upK_yes {p:Nat}(h:cj I K p=true):upK I K (p+1)=headV I[p]!:=by
 unfold upK;rw[List.range_succ,List.filter_append,List.filter_cons,if_pos h,List.filter_nil,List.getLast?_append];rfl
theorem upK_no {p:Nat}(h:cj I K p=false):upK I K (p+1)=upK I K p:=by
 unfold upK;rw[List.range_succ,List.filter_append,List.filter_cons,if_neg (by simp[h]),List.filter_nil,List.append_nil]
theorem Told.up (h:Told I M K):∀a,a<=M.length->upM I M a=upK I K (dW M a)
 |0,_=>rfl
 |a+1,ha=>by
  have ih:=h.up a (by omega)
  by_cases ho:M[a].op=2
  ·rw[upM_no (by omega) (solidM_new ho),posM_no (by omega) ho,ih]
  rw[posM_yes (by omega) ho]
  have hs:=h.solid (show a<M.length by omega) ho
  cases e:cj I K (dW M a) with
  |true=>rw[upM_yes (by omega) (hs.trans e),upK_yes e,(posOk_at (i:=a) h.pos (by omega)).1]
  |false=>rw[upM_no (by omega) (hs.trans e),upK_no e,ih]
theorem downK_no {p:Nat}(h:cj I K p=false):downK I K p=downK I K (p+1):=by
 unfold downK;rw[List.filter_congr (q:=fun i=>decide (p+1<=i) && cj I K i) (fun i _=>by
  by_cases e:i=p
  ·subst e;rw[h,Bool.and_false,Bool.and_false]
  congr 1;rw[decide_eq_decide];omega)]
theorem Told.down (h:Told I M K):∀d a,a+d=M.length->downM I M a=downK I K (dW M a)
 |0,a,ha=>by
  obtain rfl:a=M.length:=by omega
  rw[downM_end,posOk_end h.pos,downK_end (fun i hi hh=>by omega)]
 |d+1,a,ha=>by
  have ih:=h.down d (a+1) (by omega)
  have hl:a<M.length:=by omega
  by_cases ho:M[a].op=2
  ·rw[downM_no hl (solidM_new ho),ih,posM_no hl ho]
  rw[posM_yes hl ho] at ih;have hs:=h.solid hl ho
  cases e:cj I K (dW M a) with
  |true=>rw[downM_yes hl (hs.trans e),(posOk_at h.pos hl).1,downK_at (h.room hl ho) (Nat.le_refl _) e (fun i hi hh=>by omega)]
  |false=>rw[downM_no hl (hs.trans e),ih,downK_no e]
def flatV (I:List aB) (l:List bj):List ay:=(l.filter fun x=>decide (x.op≠2)).flatMap fun x=>I[x.at_]!.lines.map aG.v
theorem foldH_eq:∀(l:List bj) (s:List ByteArray) (g:List ay),l.foldl (stepH I) (s,g)=(s++linM l,(flatV I l).foldl putP g)
 |[],s,g=>by simp[linM,flatV]
 |m::l,s,g=>by
  rw[List.foldl_cons];by_cases e:m.op=2
  ·have hs:stepH I (s,g) m=(s++[m.line],g):=by unfold stepH;rw[if_pos e]
   have h1:linM (m::l)=m.line::linM l:=by unfold linM;rw[List.filter_cons,if_pos (by simp[e])];rfl
   have h2:flatV I (m::l)=flatV I l:=by unfold flatV;rw[List.filter_cons,if_neg (by simp[e])]
   rw[hs,foldH_eq l,h1,h2,List.append_assoc];rfl
  have hs:stepH I (s,g) m=(s,(I[m.at_]!.lines.map aG.v).foldl putP g):=by unfold stepH;rw[if_neg e]
  have h1:linM (m::l)=linM l:=by unfold linM;rw[List.filter_cons,if_neg (by simp[e])]
  have h2:flatV I (m::l)=I[m.at_]!.lines.map aG.v++flatV I l:=by unfold flatV;rw[List.filter_cons,if_pos (by simp[e]),List.flatMap_cons]
  rw[hs,foldH_eq l,h1,h2,List.foldl_append]
theorem flatV_app (a b:List bj):flatV I (a++b)=flatV I a++flatV I b:=by unfold flatV;rw[List.filter_append,List.flatMap_append]
theorem Told.gone (h:Told I M K) {a:Nat}:∀d,a+d<=M.length->flatV I ((M.take (a+d)).drop a)=((I.take (dW M (a+d))).drop (dW M a)).flatMap fun x=>x.lines.map aG.v
 |0,hd=>by
  rw[Nat.add_zero,List.drop_eq_nil_of_le (by rw[List.length_take];omega),List.drop_eq_nil_of_le (by rw[List.length_take];omega)];rfl
 |d+1,hd=>by
  have ih:=h.gone (a:=a) d (by omega)
  have hl:a+d<M.length:=by omega
  have hm:=posM_mono (M:=M) (i:=a) (j:=a+d) (by omega) (by omega)
  rw[show a+(d+1)=a+d+1 from rfl,aA hl,List.drop_append_of_le_length (by rw[List.length_take];omega),flatV_app,ih]
  by_cases ho:M[a+d].op=2
  ·rw[posM_no hl ho];unfold flatV;rw[List.filter_cons,if_neg (by simp[ho])];simp
  have hr:=h.room hl ho
  rw[posM_yes hl ho,aA hr,List.drop_append_of_le_length (by rw[List.length_take];omega),List.flatMap_append]
  unfold flatV;rw[List.filter_cons,if_pos (by simpa using ho),List.filter_nil,List.flatMap_cons,List.flatMap_nil,List.flatMap_cons,List.flatMap_nil,(posOk_at h.pos hl).1,getElem!_pos I _ hr]
theorem Told.hunk (h:Told I M K) {p:Nat×Nat}(h1:p.1<=p.2) (h2:p.2<=M.length):hkM I M p=hunkP I K (runOf M p):=by
 obtain⟨d,hd⟩:∃d,p.2=p.1+d:=⟨p.2-p.1,by omega⟩
 unfold hkM hunkP runOf foldH;rw[foldH_eq,putP_sort,h.up p.1 (by omega),h.down (M.length-p.2) p.2 (by omega),List.nil_append]
 congr 1;unfold goneK;rw[hd,h.gone (a:=p.1) d (by omega)]
end
theorem hunks_same {I:List aB}{w:List ByteArray}{acc:List (Nat×Nat)}(he:errH I w=0) (hg:Grp (cW I (dq I 0 w) 0 []) 0 acc):acc.map (hkM I (cW I (dq I 0 w) 0 []))=e9 I w:=by
 have hok:okT I.length (dq I 0 w) 0:=okT_toks _ _ _
 have hp:=posOk_marksT (I:=I) (dq I 0 w) 0 [] (Nat.zero_le _) hok
 have hn:=nfM_marksT (I:=I) (dq I 0 w) 0 [] (Nat.zero_le _) hok
 obtain⟨M,hM⟩:∃z,z=cW I (dq I 0 w) 0 []:=⟨_,rfl⟩;rw[<- hM] at hg hp hn ⊢;have ht:Told I M (keptH I w):=⟨hp,fun k hk=>by rw[kept_all hk,<- hn,keptE_nfM M 0 none hp]⟩
 obtain⟨h1,h2⟩:=grp_runs hp hg;unfold e9;rw[if_pos he,show runsH I w=acc.map (runOf M) from ?_,List.map_map]
 ·exact List.map_congr_left fun p hp=>ht.hunk (h2 p hp).1 (h2 p hp).2
 rw[h1];unfold runsH secs;rw[runs_eltT];rw[show dW M 0=0 from rfl,List.drop_zero,hn]
end Go.Proofs.Gr

namespace Go.Proofs.Gr
open Go.SL Go.RowKit Go.Proofs Go.GP
set_option maxHeartbeats 1000000
section
variable {w0:World}{P:Program}{n:Nat}{T:TT}{S F:SS}
end
theorem bsl0_slv {r:Nat}:aV 9 1 (.slice (some ⟨r,0,none⟩) 0 0) 0 [] [(r,.cells [] 9 0)]:=⟨rfl,.inr ⟨r,0,rfl,rfl,Nat.le_refl _,Nat.zero_le _⟩⟩
end Go.Proofs.Gr

namespace Go.Proofs.Gr
open Go.SL Go.RowKit Go.Proofs Go.GP Go.MyPlain
def ppH:HashB:=⟨255::255::255::List.replicate 29 0,by simp⟩
theorem sub_flat {α β:Type}{f:α->List β}{l m:List α}(h:l.Sublist m):(l.flatMap f).Sublist (m.flatMap f):=by
 induction h with
 |slnil=>exact List.Sublist.refl _
 |cons a h ih=>rw[List.flatMap_cons];exact ih.trans (List.sublist_append_right _ _)
 |cons_cons a h ih=>rw[List.flatMap_cons,List.flatMap_cons];exact ih.append_left _
section
variable {ps:List ar}
end
end Go.Proofs.Gr



namespace Go.Proofs.Gr
open Go.SL Go.RowKit Go.Proofs Go.GP Go.MyPlain
theorem Tile.few {a n:Nat}{l:List Elt}(h:Tile a l n):(runsE l).length<=n-a+1/\∀k r,l=.cD k::r->(runsE l).length<=n-a:=by
 induction h with
 |nil=>exact⟨Nat.zero_le _,fun k r e=>by cases e⟩
 |@cD a n l h ih=>
  have:=h.le
  rw[runsE_keep];exact⟨by omega,fun _ _ _=>by omega⟩
 |@last r h=>exact⟨by show 1<=_;omega,fun k s e=>by cases e⟩
 |@run r l n h t ih=>
  have:=t.le
  rw[runsE_run,List.length_cons];have:=ih.2 _ _ rfl
  exact⟨by omega,fun k s e=>by cases e⟩
def fK (l:List Run):Nat:=(l.map fun r=>r.lines.length).sum
theorem linesR_app (a b:List Run):fK (a++b)=fK a+fK b:=by unfold fK;rw[List.map_append,List.sum_append]
theorem words_len (T:List ByteArray):∀l:List Elt,fK (runsE l)<=(fu T l).length
 |[]=>Nat.zero_le _
 |.cD k::l=>by have:=words_len T l;rw[runsE_keep];simp only[fu,List.length_cons];omega
 |.run r::l=>by
  have:=words_len T l
  rw[runsE_run];simp only[fu,List.length_append]
  show fK ([r]++runsE l)<=_
  rw[linesR_app];have:fK [r] = r.lines.length:=by simp[fK]
  omega
theorem runsR_small {I:List aB}{s:Sec}{K:List Bool}(hf:s.fr<=s.to) (ht:s.to<=I.length):(fb I s K).runs.length<=s.to-s.fr+1/\fK (fb I s K).runs<=s.lines.length:=by
 have h1:=nf_runs (ls:=s.lines) (scr (db I s.fr s.to) s.lines) s.fr none [] K
 simp only[Option.isSome_none,Option.toList_none,List.append_nil,List.nil_append] at h1;have h2:=nf_tile (ls:=s.lines) (scr (db I s.fr s.to) s.lines) s.fr none (fun t h=>scr_op h) (fun r h=>by cases h)
 rw[scr_takes,txts_len hf ht] at h2;have h3:=h2.few.1
 have h4:=words_len ((I.take s.to).map txtI) (nf s.lines (scr (db I s.fr s.to) s.lines) s.fr none)
 have h5:=nf_words (T:=(I.take s.to).map txtI) (ls:=s.lines) _ 0 0 s.fr (db I s.fr s.to) s.lines none (Nat.le_refl _) rfl (by unfold db;rw[List.map_drop])
 have h6:fu ((I.take s.to).map txtI) (nf s.lines (scr (db I s.fr s.to) s.lines) s.fr none)=s.lines:=by unfold scr;rw[h5];rfl
 rw[h6] at h4;unfold fb;rw[h1];exact⟨by simp only[frO] at h3;omega,h4⟩
theorem allR_small {I:List aB}:∀(l:List Sec) (K:List Bool),(∀s∈l,s.fr<=s.to/\s.to<=I.length)->(fg I l K).1.length<=(l.map fun s=>s.to-s.fr+1).sum/\fK (fg I l K).1<=dH l
 |[],_,_=>⟨Nat.le_refl _,Nat.le_refl _⟩
 |s::l,K,h=>by
  obtain⟨h1,h2⟩:=runsR_small (K:=K) (h s (by simp)).1 (h s (by simp)).2
  obtain⟨h3,h4⟩:=allR_small l (fb I s K).K fun x hx=>h x (List.mem_cons_of_mem _ hx)
  have e:dH (s::l)=s.lines.length+dH l:=by unfold dH;rw[List.map_cons,List.sum_cons]
  simp only[fg,List.length_append,List.map_cons,List.sum_cons];rw[linesR_app,e];exact⟨by omega,by omega⟩
theorem secsF_sum {I:List aB}:∀(f fr:Nat) (w cur:List ByteArray),fr<=I.length->((di I.length (eY I f fr w) fr cur).map fun s=>s.to-s.fr+1).sum=I.length+1-fr
 |0,fr,w,cur,h=>by simp only[eY,di,List.map_cons,List.map_nil,List.sum_cons,List.sum_nil];omega
 |f+1,fr,[],cur,h=>by simp only[eY,di,List.map_cons,List.map_nil,List.sum_cons,List.sum_nil];omega
 |f+1,fr,t::w,cur,h=>by
  simp only[eY];cases e:recAt I fr (t::w) with
  |none=>simp only[di];exact secsF_sum f fr w _ h
  |some k=>
   obtain⟨k1,k2,_,_⟩:=eI e;simp only[di,List.map_cons,List.sum_cons];rw[secsF_sum f (k+1) _ [] k2];omega
theorem runsH_small {I:List aB}{w:List ByteArray}(hE:errH I w=0):(runsH I w).length<=I.length+1/\fK (runsH I w)<=256:=by
 obtain⟨h1,h2⟩:=allR_small (I:=I) (secs I w) (fC (List.replicate I.length false) (dq I 0 w)) (fun s hs=>(secs_ok hs).1)
 have h3:=secsF_sum (I:=I) w.length 0 w [] (Nat.zero_le _)
 have h4:=(checkP_zero hE).1
 unfold runsH;have h5:((secs I w).map fun s=>s.to-s.fr+1).sum=I.length+1-0:=h3
 exact⟨by omega,by omega⟩
end Go.Proofs.Gr

namespace Go.Proofs.Gr
open Go.SL Go.RowKit Go.Proofs Go.GP
set_option maxHeartbeats 1000000
def chgP (i f:Nat) (x:fk):aN:=⟨ppH,(i:Int),(f:Int),x.up,x.down,x.A,x.c,x.lines,x.G,x.gc,x.gone⟩
def hpl:Nat->Nat->List fk->List ar
 |_,_,[]=>[]
 |i,f,x::l=>(chgP i f x).pl::hpl (i+1) (f+x.lines.length) l
theorem gone_len {ps:List ar}(hs:Sq ps) (r:Run):(eX (goneK (b7 ps) r)).length<=(bh ps).length:=by
 rw[sortL_len];have h1:(goneK (b7 ps) r).length<=((b7 ps).flatMap fun x=>x.lines.map aG.v).length:=by
  unfold goneK;exact(sub_flat ((List.drop_sublist _ _).trans (List.take_sublist _ _))).length_le
 rw[show((b7 ps).flatMap fun x=>x.lines.map aG.v)=(live (bC ps)).map aG.v by rw[<- (itemsP_good hs).2,List.map_flatMap],List.length_map] at h1
 have h2:=linesP_len hs
 have h3:(live (bC ps)).length<=(bC ps).length:=List.length_filter_le _ _
 omega
end Go.Proofs.Gr



namespace Go.Proofs.Gr
open Go.SL Go.RowKit Go.Proofs Go.GP Go.Proofs.Tryz
set_option maxHeartbeats 1000000
open Go.MyPlain
theorem cell_file {w0:World}{S:SS}{r E tot:Nat}{f u d:ay}{G L:Value}(hm:(r,AO.cells (ba f u d G L) E tot)∈S.flatten):∀(j:Nat) (v:Value),(au f)[j]? = some v->Cell w0 S (((⟨r,0,none⟩:Addr).add 1).add j) v:=fun j v hj=>by
 have h2:(ba f u d G L)[1+j]? = some v:=by
  have hj2:j<33:=by have:=(List.getElem?_eq_some_iff.1 hj).1;rwa [aa] at this
  unfold ba;rw[List.getElem?_append_right (by simp),List.getElem?_append_left (by rw[aa];simp only[List.length_cons,List.length_nil];omega)]
  rw[show 1+j-[Value.int .i64 5].length=j by simp];exact hj
 have:=(Rd.own (w0:=w0) hm).at h2
 rwa [<- aZ] at this
theorem chgC_path (f u d:ay) (G L:Value):(ba f u d G L)[34]? = some (.string ⟨#[]⟩):=by
 unfold ba;rw[List.getElem?_append_right (by simp),List.getElem?_append_right (by rw[aa];simp),aa];rfl
theorem linesR_mem {r:Run}:∀{l:List Run},r∈l->r.lines.length<=fK l:=by
 intro l
 induction l with
 |nil=>intro h;cases h
 |cons x l ih=>
  intro h;rcases List.mem_cons.1 h with rfl|h
  ·simp[fK]
  have:=ih h
  simp[fK] at this ⊢;omega
theorem chg_pl {a b:List fk}(h:a.map fk.pl=b.map fk.pl) {k:Nat}(ha:k<a.length) (hb:k<b.length):a[k].up=b[k].up/\a[k].down=b[k].down/\a[k].lines=b[k].lines/\a[k].gone=b[k].gone:=by
 have:=congrArg (·[k]?) h
 simp only[List.getElem?_map,List.getElem?_eq_getElem ha,List.getElem?_eq_getElem hb,Option.map_some,Option.some.injEq] at this;simp only[fk.pl,HunkP.mk.injEq] at this;exact⟨this.1,this.2.1,this.2.2.1,this.2.2.2⟩
theorem changeHunks_fc {w0:World}{A W:Option Addr}{c cw:Nat}{l:List aN}{w:List ByteArray}{f:ay}(h:PartsIn w0 A l) (hw:Rd w0 [] W (strs w)) (hwc:w.length<=cw) (hwn:W=none->cw=0) (hwl:w.length<=1000000000000000) (hws:∀s∈w,s.size<=140737488351232) :
  FC prog w0 3 [.slice A l.length c,.slice W w.length cw,aP f] [] (fun v _=>v=.bool true):=by
 refine FC.ofD known3 (by simp) ?_
 unfold pc3;simp only[bo];refine PW.ae (OL.c (OW.bx rfl) ?_);rintro _ _ ⟨r5,rfl,rfl⟩;rw[bB,aa];refine OL.n1 rfl (PW.k3 0 1 5 rfl (PW.seq fun K1 hK1=>PW.ae (OL.p2 rfl rfl (OL.l rfl (large_fc h hw.cons hwl hws) ?_))))
 rintro _ _ ⟨b,rfl,rfl,hb⟩;refine OL.nil (PW.k4 0 1 5 19 rfl ?_);refine PW.cond rfl (fun c19=>?_) (fun c19=>?_)
 ·try simp only[aD] at c19
  exact PW.ae (OL.q rfl (awake_fc) (OL.n1 rfl (PW.k1 6 rfl (PW.ret (zR rfl ⟨_,Sub.refl _,rfl⟩)))))
 try simp only[aD] at c19
 have hsm:=hb c19
 refine PW.skip (hK1 _ _ (PW.k3 0 1 5 rfl (PW.ae (OL.dp rfl (OL.l rfl (both_fc h hsm.1) ?_)))));rintro _ _ ⟨m,cms,Ac,cc,sg,rfl,rfl,hg,hsg,hcb,hcl,hal,hlim⟩;have hil:=items_len hg.sq
 obtain⟨I,hI⟩:∃z,z=b7 (bW cms).reverse:=⟨_,rfl⟩;have hsz:∀s∈w,s.size<=1000000000000000:=fun s hs=>by have:=hsm.2.size s hs;omega
 have hwl2:=hsm.2.len
 refine OL.p4 rfl rfl rfl rfl (OL.n1 rfl (PW.k4 1 5 7 8 rfl (PW.ae (OL.c OW.bsl0 ?_))));rintro _ _ ⟨r26,rfl,rfl⟩;refine OL.dp rfl ?_;refine OL.c (OW.appW (k:=0) (news:=strs w) rfl rfl bsl0_slv rfl (by rw[strs_len,Nat.mul_one]) (by decide) (hw.mono fun q hq=>by cases hq) hwn (strs_one _) (by omega) (by unfold maxLen;omega)) ?_
 rintro v28 _ ⟨sg28,rfl,hs28⟩;have hs28b:aV 9 1 v28 w.length (strs w) sg28:=slv_len (by simpa using hs28) (by omega)
 obtain⟨A28,c28,rfl,hn28,hc28,hrd28⟩:=aF (w0:=w0) hs28b;refine OL.n1 rfl (PW.k5 1 5 7 8 9 rfl (PW.ae ?_));refine OL.x (Yields.aT rfl (aa _) (av (c:=au f) (E:=27) (tot:=33) (List.mem_flatten.2 ⟨[(r5,.cells (au f) 27 33)],by simp[GS],by simp⟩))) ?_
 refine OL.p2 rfl rfl (OL.l rfl (FC.bZ gs_a (hunks_fc (S:=GS m++(sg28::sg::[(r5,.cells (au f) 27 33)]::[])) (file:=f) (w:=w) (itemsFC_gg hg over_nil (by omega)) (by omega) (items_solid hg.sq) (br (hrd28 []) (by simp)) hc28 (by omega) hsz)) ?_)
 rintro v33 _ ⟨va,hs,sgh,jh,rfl,rfl,hsh,hok,hpl⟩;obtain⟨Ah,ch,rfl,hnh,hch,hrh⟩:=aF (w0:=w0) hsh;refine OL.p4 rfl rfl rfl rfl (OL.n1 rfl (PW.k6 1 5 8 9 10 11 rfl (PW.ae ?_)));refine OL.x (Yields.aT rfl (aa _) (av (c:=au f) (E:=27) (tot:=33) (List.mem_flatten.2 ⟨[(r5,.cells (au f) 27 33)],by simp[GS],by simp⟩))) ?_
 refine OL.p2 rfl rfl ?_;refine OL.l rfl (rhunks_fc (I:=b7 (bW cms).reverse) (file:=f) (w:=w) (fun s=>(rItems_fc (l:=cms) ⟨br (slv_eq hsg).1 (by simp[GS]),fun x hx=>(hcb x hx).1.rdS,by omega⟩ hg.sq (by rw[linesP_len hg.sq];omega)).mono fun v S' ⟨a1,a2,a3,b1,b2,b3,b4,_⟩=>⟨a1,a2,a3,b1,b2,b3,b4⟩) (by omega) (items_solid hg.sq) (hw.mono fun q hq=>by cases hq) hwc (by omega) hsz) ?_
 rintro v40 _ ⟨vb,h2,og,oj,rfl,rfl,hsh2,hok2,hz1,hz2⟩;obtain⟨Ab,cb,rfl,hnb,hcbb,hrh2⟩:=aF (w0:=w0) hsh2;rw[errT_eq] at hz1 hz2 ⊢;have hpp:hs.map fk.pl=h2.map fk.pl:=by
  rw[hpl];by_cases he:errH (b7 (bW cms).reverse) w=0
  ·obtain⟨acc,h3,h4⟩:=hz2 he;rw[h4,hunks_same he h3]
  rw[hz1 he];unfold e9;rw[if_neg he];rfl
 have hll:hs.length=h2.length:=by have:=congrArg List.length hpp;simpa using this
 refine OL.p4 rfl rfl rfl rfl (OL.n1 rfl (PW.k7 1 5 9 10 11 12 13 rfl (PW.seq fun K2 hK2=>PW.ae (OL.p2 rfl rfl (OL.x (Yields.to (v':=.bool false) (Yields.pure rfl) (by simp)) ?_)))))
 refine OL.dp rfl (OL.ak rfl (.pure rfl) (OL.ak rfl (.pure rfl) (OL.ak rfl (.pure rfl) (OL.ak rfl (.pure rfl) ?_))));refine OL.ak rfl (.to (v':=.bool false) (Yields.pure rfl) (by rw[hll];simp)) ?_
 refine OL.p2 rfl rfl (OL.ak rfl (.pure rfl) (OL.ak rfl (.pure rfl) ?_));refine OL.call rfl rfl (texts_fc (a:=w) (b:=w) (br (hrd28 []) (by simp[GS])) (hw.mono fun q hq=>by cases hq) (by omega) (by omega)) ?_
 rintro _ Sx ⟨rfl,hSx⟩;rw[hSx];clear hSx;refine OL.ak rfl (.to (v':=.bool false) (Yields.pure rfl) (by simp)) (OL.n1 rfl (PW.k4 5 10 12 58 rfl (PW.ite (b:=false) rfl ?_)))
 rw[if_neg Bool.false_ne_true];refine PW.skip (hK2 _ _ (PW.k3 5 10 12 rfl (PW.seq fun K3 hK3=>PW.s1 rfl (PW.k4 5 10 12 14 rfl (PW.block (PW.k4 5 10 12 14 rfl ?_))))))
 refine PW.aR (I:=fun mm T S'=>∃(k:Nat),(k<=hs.length/\mm=hs.length-k)/\T=([(5,.pointer (some ⟨r5,0,none⟩)),(10,.slice Ah hs.length ch),(12,.slice Ab h2.length cb),(14,.int .i64 (k:Int))]:TT)/\S'=og::oj::sgh::jh::(GS m++(sg28::sg::[(r5,.cells (au f) 27 33)]::[]))) (m:=hs.length) ⟨0,⟨Nat.zero_le _,rfl⟩,rfl,rfl⟩ ?_
 rintro mm _ _ ⟨k,⟨hk,hmm⟩,rfl,rfl⟩;refine PW.seq fun K4 hK4=>PW.s4 rfl rfl rfl rfl (PW.k5 5 10 12 14 62 rfl ?_)
 refine PW.cond rfl (fun c62=>?_) (fun c62=>?_)
 ·try simp only[aD] at c62
  have hkl:k<hs.length:=by omega
  have hkl2:k<h2.length:=by omega
  obtain⟨ah,rfl⟩:=chgS_some (hrh []) (by omega)
  obtain⟨ab,rfl⟩:=chgS_some (hrh2 []) (by omega)
  have hrdA:Rd w0 (og::oj::sgh::jh::(GS m++(sg28::sg::[(r5,.cells (au f) 27 33)]::[]))) (some ah) (chgS hs):=br (hrh []) (by simp)
  have hrdB:Rd w0 (og::oj::sgh::jh::(GS m++(sg28::sg::[(r5,.cells (au f) 27 33)]::[]))) (some ab) (chgS h2):=br (hrh2 []) (by simp)
  obtain⟨he1,he2,he3,he4⟩:=chg_pl hpp hkl hkl2;have hE:errH (b7 (bW cms).reverse) w=0:=by
   rcases Decidable.em (errH (b7 (bW cms).reverse) w=0) with e|e
   ·exact e
   exfalso;have:e9 (b7 (bW cms).reverse) w=[]:=by unfold e9;rw[if_neg e]
   rw[this] at hpl;have:=congrArg List.length hpl
   simp at this;rw[this] at hkl;simp at hkl
  have hpl2:hs.map fk.pl=(runsH (b7 (bW cms).reverse) w).map (hunkP (b7 (bW cms).reverse) (keptH (b7 (bW cms).reverse) w)):=by rw[hpl];unfold e9;rw[if_pos hE]
  obtain⟨hr1,hr2⟩:=runsH_small hE;have hhl:hs.length<=1000:=by have:=congrArg List.length hpl2;rw[List.length_map,List.length_map] at this;omega
  obtain⟨r,hr,her⟩:=List.mem_map.1 (show hs[k].pl∈(runsH (b7 (bW cms).reverse) w).map (hunkP (b7 (bW cms).reverse) (keptH (b7 (bW cms).reverse) w)) from hpl2▸List.mem_map_of_mem (List.getElem_mem hkl))
  have hg1:hs[k].gone.length<=1000000000000:=by
   have:=gone_len hg.sq r
   have h2:hs[k].gone=eX (goneK (b7 (bW cms).reverse) r):=(congrArg HunkP.gone her).symm
   rw[h2];omega
  have hg2:h2[k].gone.length<=1000000000000:=by rw[<- he4];exact hg1
  have hl1:hs[k].lines.length<=1000000000000:=by
   have h3:hs[k].lines=r.lines:=(congrArg HunkP.lines her).symm
   have h4:=linesR_mem hr
   rw[h3];omega
  have hl2:h2[k].lines.length<=1000000000000:=by rw[<- he3];exact hl1
  refine PW.skip (hK4 _ _ (PW.k4 5 10 12 14 rfl (PW.seq fun K5 hK5=>PW.block (PW.seq fun K6 hK6=>?_))))
  refine PW.dy (Ss:=Over (og::oj::sgh::jh::(GS m++(sg28::sg::[(r5,.cells (au f) 27 33)]::[])))) (fr:=true) [(0,0),(1,0),(2,0),(3,0),(4,0),(5,0),(6,0),(7,0),(8,3),(9,3),(10,2)] mixed (by decide +kernel) (Over.refl _) (fun _ _ _ h=>h.cons) ?_
  refine GL.dp rfl ?_;refine GL.dp rfl ?_;refine GL.ak trivial (fun Sx hSx=>Yields.bO rfl rfl rfl (by omega)) ?_
  refine GL.ak trivial (fun Sx hSx=>Yields.aT rfl (chgR_len _) (chg_at (l:=hs) (k:=k) (hrdA.mono hSx) hkl)) ?_
  refine GL.dp rfl ?_;refine GL.dp rfl ?_;refine GL.ak trivial (fun Sx hSx=>Yields.bO rfl rfl rfl (by omega)) ?_
  refine GL.ak trivial (fun Sx hSx=>Yields.aT rfl (chgR_len _) (chg_at (l:=h2) (k:=k) (hrdB.mono hSx) hkl2)) ?_
  refine GL.fresh trivial fun r15=>?_
  refine GL.fresh trivial fun r16=>?_
  refine GL.loF trivial fun F=>OW.mono (OW.frameSt (k:=1) (c:=cK) (u:=chgV hs[k].file hs[k].up hs[k].down (.slice hs[k].G hs[k].gone.length hs[k].gc) (.slice hs[k].A hs[k].lines.length hs[k].c)) rfl rfl rfl ((List.size_toArray).trans (cO ..)) (by rw[ep];decide) (chgC_one ..)) ?_
  rintro v10 S10 ⟨S1,hperm,rfl⟩;rw[chg_box,eP (by rw[cO,ep])] at hperm
  refine⟨_,hperm,(Over.refl _).cons.cons,?_⟩;change OL _ _ _ [_] _ _ _;refine OL.c (chg_stk (k:=0) (z:=cK) (f:=h2[k].file) (u:=h2[k].up) (d:=h2[k].down) (A:=h2[k].G) (a:=h2[k].gone.length) (c:=h2[k].gc) (B:=h2[k].A) (b:=h2[k].lines.length) (e:=h2[k].c) rfl rfl rfl ep) ?_;rintro _ _ rfl;change OL _ _ _ _ _ ([(r16,.cells (ba h2[k].file h2[k].up h2[k].down (.slice h2[k].G h2[k].gone.length h2[k].gc) (.slice h2[k].A h2[k].lines.length h2[k].c)) 46 105)]::[(r15,.cells (ba hs[k].file hs[k].up hs[k].down (.slice hs[k].G hs[k].gone.length hs[k].gc) (.slice hs[k].A hs[k].lines.length hs[k].c)) 46 105)]::og::oj::sgh::jh::(GS m++(sg28::sg::[(r5,.cells (au f) 27 33)]::[]))) _;refine OL.nil (hK6 _ _ (PW.k6 5 10 12 14 15 16 rfl (PW.ae (OL.dp rfl (OL.x (Yields.ld rfl (az (j:=0) (c:=ba hs[k].file hs[k].up hs[k].down (.slice hs[k].G hs[k].gone.length hs[k].gc) (.slice hs[k].A hs[k].lines.length hs[k].c)) (E:=46) (tot:=105) dm rfl)) (OL.dp rfl (OL.x (Yields.ld rfl (az (j:=0) (c:=ba h2[k].file h2[k].up h2[k].down (.slice h2[k].G h2[k].gone.length h2[k].gc) (.slice h2[k].A h2[k].lines.length h2[k].c)) (E:=46) (tot:=105) bF rfl)) (OL.x (Yields.to (v':=.bool false) (Yields.pure rfl) rfl) (OL.dp rfl (OL.ak rfl (.pure rfl) (OL.ak rfl (.aT rfl (aa _) (cell_file (f:=hs[k].file) (u:=hs[k].up) (d:=hs[k].down) (G:=.slice hs[k].G hs[k].gone.length hs[k].gc) (L:=.slice hs[k].A hs[k].lines.length hs[k].c) (E:=46) (tot:=105) dm)) ?_)))))))))));refine OL.ak rfl (.aT rfl (aa _) (av (c:=au f) (E:=27) (tot:=33) (List.mem_flatten.2 ⟨[(r5,.cells (au f) 27 33)],by simp[GS],by simp⟩))) ?_
  refine OL.ak rfl (.to (v':=.bool false) (Yields.eb (neg:=true) rfl rfl (aO _ _)) (congrArg Value.bool (by rw[(hok _ (List.getElem_mem hkl)).2];simp))) ?_
  refine OL.p2 rfl rfl (OL.ak rfl (.pure rfl) (OL.ak rfl (.aT rfl (aa _) (cell_up (f:=hs[k].file) (d:=hs[k].down) (G:=.slice hs[k].G hs[k].gone.length hs[k].gc) (L:=.slice hs[k].A hs[k].lines.length hs[k].c) (E:=46) (tot:=105) dm)) (OL.ak rfl (.pure rfl) (OL.ak rfl (.aT rfl (aa _) (cell_up (f:=h2[k].file) (d:=h2[k].down) (G:=.slice h2[k].G h2[k].gone.length h2[k].gc) (L:=.slice h2[k].A h2[k].lines.length h2[k].c) (E:=46) (tot:=105) bF)) ?_))));refine OL.ak rfl (.to (v':=.bool false) (Yields.eb (neg:=true) rfl rfl (aO _ _)) (congrArg Value.bool (by rw[he1];simp))) ?_
  refine OL.p2 rfl rfl (OL.ak rfl (.pure rfl) (OL.ak rfl (.aT rfl (aa _) (cell_down (f:=hs[k].file) (u:=hs[k].up) (G:=.slice hs[k].G hs[k].gone.length hs[k].gc) (L:=.slice hs[k].A hs[k].lines.length hs[k].c) (E:=46) (tot:=105) dm)) (OL.ak rfl (.pure rfl) (OL.ak rfl (.aT rfl (aa _) (cell_down (f:=h2[k].file) (u:=h2[k].up) (G:=.slice h2[k].G h2[k].gone.length h2[k].gc) (L:=.slice h2[k].A h2[k].lines.length h2[k].c) (E:=46) (tot:=105) bF)) ?_))));refine OL.ak rfl (.to (v':=.bool false) (Yields.eb (neg:=true) rfl rfl (aO _ _)) (congrArg Value.bool (by rw[he2];simp))) ?_
  refine OL.p2 rfl rfl (OL.ak rfl (.pure rfl) (OL.ak rfl (.ld rfl (az (j:=34) (c:=ba hs[k].file hs[k].up hs[k].down (.slice hs[k].G hs[k].gone.length hs[k].gc) (.slice hs[k].A hs[k].lines.length hs[k].c)) (E:=46) (tot:=105) dm (chgC_path ..))) ?_));refine OL.ak rfl (.to (v':=.bool false) (Yields.pure rfl) (congrArg Value.bool (by decide +kernel))) ?_
  refine OL.p2 rfl rfl (OL.ak rfl (.pure rfl) (OL.ak rfl (.ld rfl (az (j:=103) (c:=ba hs[k].file hs[k].up hs[k].down (.slice hs[k].G hs[k].gone.length hs[k].gc) (.slice hs[k].A hs[k].lines.length hs[k].c)) (E:=46) (tot:=105) dm (dQ ..).1)) (OL.ak rfl (.pure rfl) (OL.ak rfl (.ld rfl (az (j:=103) (c:=ba h2[k].file h2[k].up h2[k].down (.slice h2[k].G h2[k].gone.length h2[k].gc) (.slice h2[k].A h2[k].lines.length h2[k].c)) (E:=46) (tot:=105) bF (dQ ..).1)) (OL.call rfl rfl (vertices_fc (a:=hs[k].gone) (b:=h2[k].gone) (br (hok _ (List.getElem_mem hkl)).1.rdG (by simp)) (br (hok2 _ (List.getElem_mem hkl2)).1.rdG (by simp)) hg1 hg2) ?_)))))
  rintro _ Sx ⟨rfl,hSx⟩;rw[hSx];clear hSx;refine OL.ak rfl (.to (v':=.bool false) (Yields.pure rfl) (by rw[he4];simp)) ?_
  refine OL.p2 rfl rfl (OL.ak rfl (.pure rfl) (OL.ak rfl (.ld rfl (az (j:=104) (c:=ba hs[k].file hs[k].up hs[k].down (.slice hs[k].G hs[k].gone.length hs[k].gc) (.slice hs[k].A hs[k].lines.length hs[k].c)) (E:=46) (tot:=105) dm (dQ ..).2)) (OL.ak rfl (.pure rfl) (OL.ak rfl (.ld rfl (az (j:=104) (c:=ba h2[k].file h2[k].up h2[k].down (.slice h2[k].G h2[k].gone.length h2[k].gc) (.slice h2[k].A h2[k].lines.length h2[k].c)) (E:=46) (tot:=105) bF (dQ ..).2)) (OL.call rfl rfl (texts_fc (a:=hs[k].lines) (b:=h2[k].lines) (br (hok _ (List.getElem_mem hkl)).1.rdL (by simp)) (br (hok2 _ (List.getElem_mem hkl2)).1.rdL (by simp)) hl1 hl2) ?_)))))
  rintro _ Sx ⟨rfl,hSx⟩;rw[hSx];clear hSx;refine OL.ak rfl (.to (v':=.bool false) (Yields.pure rfl) (by rw[he3];simp)) ?_
  refine OL.n1 rfl (PW.k5 5 10 12 14 118 rfl (PW.ite (b:=false) rfl ?_));rw[if_neg Bool.false_ne_true];refine PW.skip (hK5 _ _ (PW.k4 5 10 12 14 rfl (PW.ops (OL.dp rfl (OL.x (Yields.ao rfl rfl (by omega) (by omega)) (OL.n1 rfl ?_))))))
  refine af.dE (Sub.drop (Sub.drop (Sub.refl _))) (T'':=[(5,_),(10,_),(12,_),(14,_)]) (wi rfl) ?_;exact⟨hs.length-(k+1),by omega,k+1,⟨by omega,rfl⟩,rfl,rfl⟩
 try simp only[aD] at c62
 exact PW.exit (hK3 _ _ (PW.cD (T':=[]) trivial (PW.ae (OL.q rfl (awake_fc) (OL.n1 rfl (PW.k1 6 rfl (PW.ret (zR rfl ⟨_,Sub.refl _,rfl⟩))))))))
end Go.Proofs.Gr

namespace Go.Proofs.Gr
open Go.SL Go.RowKit Go.Proofs Go.GP Go.ChangeShapes Go.WideShapes Go.ChangeAt Go.Proofs.Tryz
set_option maxRecDepth 100000 in
theorem parts_arg {H:Type}{enc:TypeId×Value->H}{W:World}{r:Reach}{base j:Nat}{v:Value}{d:DataW H}{ps:List MemPlace}{ts:List TypeId}{ds:List (DataW H)}(hv:Value.okWide prog W r base 22 v)
  (h:DataW.Trod enc prog W 0 (fun _=>true) true 22 v d ps) (hsz:(DataW.weightsEach prog ts ds).all (·<=reachBytes)=true) (ht:ts[j]? = some 22) (hd:ds[j]? = some d) :
  ∃(A:Option Addr) (c:Nat) (l:List aN),v=.slice A l.length c/\PartsIn W A l:=by
 have hu:prog.underlying 22=some (.slice 59):=by kernel_rfl
 obtain⟨A,len,cap,rfl⟩:=okWide_slice hu hv;obtain⟨l,rfl,hr,hR,hy,hc⟩:=arg_listW (j:=j) (f:=bG) (R:=fun a=>PartA W a) hu (fun n cs y hh _ hw=>part_of hh hw) h hsz ht hd
 rw[show prog.bytesOf 59=176 by kernel_rfl] at hy
 simp only[reachBytes] at hy;exact⟨A,cap,l,rfl,hr,hR,by omega⟩
end Go.Proofs.Gr

namespace Go.Proofs.Gr
open Go.ChangeShapes Go.WideShapes Go.SL Go.RowKit Go.Proofs Go.GP Go.Proofs.Tryz
set_option maxRecDepth 100000 in
theorem vtx_arg {H:Type}{enc:TypeId×Value->H}{W:World}{r:Reach}{base:Nat}{v:Value}{d:DataW H}{ps:List MemPlace}(hv:Value.okWide prog W r base 27 v) (h:DataW.Trod enc prog W 0 (fun _=>true) true 27 v d ps) :
  ∃x:ay,v=aP x:=by
 obtain⟨cs,rfl,hsz⟩:=okWide_struct Tryz.underlying27 hv;obtain⟨fuel,hf⟩:=h;have h2:prog.cellsOf 27=33:=by kernel_rfl
 rw[h2] at hsz;obtain⟨x,hx,_⟩:=vtx_of (deep_fits 6 fuel 27 (List.replicate 32 (.int .u8)++[.int .i64]) cs.toList _ (by kernel_rfl) hf (by rw[Array.length_toList,hsz];rfl))
 refine⟨x,?_⟩;obtain⟨l⟩:=cs;have hx':l=_:=hx
 rw[hx'];rfl
end Go.Proofs.Gr
