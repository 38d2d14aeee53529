/- Walks. -/
import Derived.Test.YtbejcoeajlhmcaaGreatPart3
set_option linter.unusedVariables false
set_option linter.unusedSimpArgs false
set_option linter.unusedSectionVars false

namespace Go.Proofs.Gr
open Go.SL Go.RowKit Go.Proofs Go.GP Go.Proofs.Tryz
set_option maxHeartbeats 1000000
open Go.HP
abbrev dn (r:Nat) (v:Value):bD:=[(r,.cells [v] 156 1)]
abbrev qseg (r tot:Nat) (q:List ay):bD:=[(r,.cells (aI q) 27 tot)]
theorem Yields.half {P:Program}{w0:World}{n:Nat}{T:TT}{S:SS}{x:PV}{j:Nat}(hx:x.val T=some (.int .i64 ((j:Int)-1))) (hj:j<=10000000000000):SL.Yields P w0 n (.bin .quo x (.v (.int .i64 2))) T S (.int .i64 (((j-1) / 2:Nat):Int)):=by
 refine(SL.Yields.quo hx rfl (by decide)).to ?_
 have h:((j:Int)-1).tdiv 2=(((j-1) / 2:Nat):Int):=by
  cases j with
  |zero=>rfl
  |succ j=>
   rw[show(((j+1:Nat):Int)-1)=(j:Int) by omega,Int.tdiv_eq_ediv_of_nonneg (by omega)]
   rw[Nat.add_sub_cancel];omega
 rw[h,wrap_i64 (by omega) (by omega)]
def wI (rw:Nat):Value:=.iface 155 (.pointer (some ⟨rw,0,none⟩))
theorem wpush_fc {w0:World}{S:SS}{rw:Nat}{v:Value}{sg:bD}{q:List ay}{x:ay}(hs:aV 27 33 v q.length (aI q) sg) (hq:q.length<=1000000000000) :
  FC prog w0 152 [.pointer (some ⟨rw,0,none⟩),.iface 27 (aP x)] (dn rw v::sg::S) (fun u S'=>u=.tuple #[]/\∃v' sg',S'=dn rw v'::sg'::S/\aV 27 33 v' (q++[x]).length (aI (q++[x])) sg'):=by
 refine FC.ofD known152 (by simp) ?_
 unfold pc152;simp only[bo];refine PW.ae (OL.dp rfl ?_);refine OL.x (Yields.tas (ok:=true) rfl Tryz.underlying27 (by intro ms h;cases h)) ?_
 refine OL.p3 rfl rfl rfl (OL.c OW.al ?_);rintro _ _ ⟨r4,rfl,rfl⟩;refine OL.c (vtx_st rfl rfl rfl) ?_;rintro _ _ rfl;refine OL.n1 rfl (PW.k3 0 4 5 rfl (PW.s1 rfl (PW.k3 0 4 11 rfl (PW.ite (b:=true) rfl ?_))));rw[if_pos rfl];refine PW.dy (Ss:=Over (bs r4 x::dn rw v::sg::S)) (fr:=false) [(0,0),(1,0),(2,0),(3,0),(4,0),(5,2)] mixed (by decide +kernel) (Over.refl _) (fun h=>by cases h) ?_
 refine GL.dp rfl ?_;refine GL.dp rfl ?_;refine GL.ak trivial (fun Sx hSx=>Yields.cF rfl) ?_
 refine GL.ak trivial (fun Sx hSx=>Yields.ld rfl (az (j:=0) (c:=[v]) (E:=156) (tot:=1) (hSx _ dm) rfl)) ?_
 refine GL.ak trivial (fun Sx hSx=>Yields.aT rfl (aa _) (av (c:=au x) (E:=27) (tot:=33) (hSx _ bF))) ?_
 refine GL.lo trivial (OW.mono (K:=fun u S'=>∃r,u=.slice (some ⟨r,0,none⟩) 1 1/\S'=bs r x::bs r4 x::dn rw v::sg::S) (OW.mono (OW.fl (fill_one (v:=x) rfl rfl)) (fun u S' ⟨r,h1,h2⟩=>⟨r,h1,by rw[h2,aa]⟩)) fun v S2 hk=>⟨(fun u S' ⟨r,_,h⟩=>by rw[h];exact(Over.refl _).cons) v S2 hk,?_⟩)
 revert v S2
 rintro _ _ ⟨r17,rfl,rfl⟩;change OL _ _ _ [_,_,_] _ _ _;refine OL.c (OW.app (k:=3) (m:=q.length) (xs:=aI q) (news:=au x) rfl rfl hs rfl (aa _) (av (c:=au x) (E:=27) (tot:=33) bF) (bL _) (by omega) (by unfold maxLen;omega)) ?_
 rintro v18 _ ⟨sg18,rfl,hs18⟩;rw[<- vtxs_one1,<- dc,show q.length+1=(q++[x]).length by simp] at hs18
 obtain⟨A18,c18,rfl,-,-,-⟩:=aF (w0:=w0) hs18;refine OL.x (Yields.cF rfl) (OL.c (OW.st (k:=2) (c:=[v]) (u:=.slice A18 (q++[x]).length c18) rfl rfl rfl rfl (Nat.le_refl 1) rfl) ?_);rintro _ _ rfl;refine OL.nil ?_;change(Exit.normal=Exit.normal∨Exit.normal=Exit.ret)/\∃v,resV _ _=some v/\_;exact⟨.inl rfl,_,rfl,_,Sub.drop (Sub.drop (Sub.refl _)),rfl,_,_,rfl,hs18⟩
theorem wpop_fc {w0:World}{S:SS}{rw r c:Nat}{q:List ay}(h0:0<q.length) (hc:q.length<=c) (hcm:c<=maxLen) (hq:q.length<=1000000000000) :
  FC prog w0 151 [.pointer (some ⟨rw,0,none⟩)] (dn rw (.slice (some ⟨r,0,none⟩) q.length c)::qseg r (c*33) q::S) (fun u S'=>u=.iface 27 (aP q[q.length-1]!)/\S'=dn rw (.slice (some ⟨r,0,none⟩) (q.length-1) c)::qseg r (c*33) (q.take (q.length-1))::S):=by
 have hx:∀S1:SS,Rd w0 (dn rw (.slice (some ⟨r,0,none⟩) q.length c)::qseg r (c*33) q::S1) (some ⟨r,0,none⟩) (aI q):=fun S1=>Rd.own (E:=27) (tot:=c*33) (by simp)
 refine FC.ofD known151 (by simp) ?_
 unfold pc151;simp only[bo];refine PW.s1 rfl (PW.k1 0 rfl (PW.ae (OL.dp rfl (OL.x (Yields.cF rfl) (OL.x (Yields.ld rfl (az (j:=0) (c:=[.slice (some ⟨r,0,none⟩) q.length c]) (E:=156) (tot:=1) bF rfl)) (OL.dp rfl (OL.x (Yields.cH rfl rfl (by omega) (by omega)) (OL.n1 rfl ?_))))))))
 refine PW.k2 0 3 rfl (PW.ae (OL.dp rfl (OL.x (Yields.cF rfl) (OL.x (Yields.ld rfl (az (j:=0) (c:=[.slice (some ⟨r,0,none⟩) q.length c]) (E:=156) (tot:=1) bF rfl)) (OL.dp rfl ?_)))));refine OL.x (Yields.bO rfl rfl (show((q.length:Nat):Int)-1=((q.length-1:Nat):Int) by omega) (by omega)) ?_
 refine OL.x (Yields.aT rfl (cs:=au q[q.length-1]!) (aa _) (vtx_at! (hx _) (by omega))) (OL.c OW.al ?_)
 rintro _ _ ⟨r4,rfl,rfl⟩;refine OL.c (vtx_st rfl rfl rfl) ?_;rintro _ _ rfl;refine OL.nil (PW.k3 0 3 4 rfl (PW.ae (OL.p2 rfl rfl (OL.x (Yields.cF rfl) (OL.x (Yields.ld rfl (az (j:=0) (c:=[.slice (some ⟨r,0,none⟩) q.length c]) (E:=156) (tot:=1) dm rfl)) (OL.dp rfl (OL.x (Yields.to (v':=.slice (some ⟨r,0,none⟩) (q.length-1) c) (Yields.slS (A:=some ⟨r,0,none⟩) (len:=q.length) (cap:=c) (l:=0) (h:=q.length-1) rfl rfl rfl (.inr ⟨rfl,rfl⟩) (.inl (congrArg some (by omega))) (by omega) (by omega)) (cutV0 _ _ _ _)) (OL.x (Yields.cF rfl) (OL.c (OW.st (k:=1) (c:=[.slice (some ⟨r,0,none⟩) q.length c]) (u:=.slice (some ⟨r,0,none⟩) (q.length-1) c) rfl rfl rfl rfl (Nat.le_refl 1) rfl) ?_)))))))))
 rintro _ _ rfl;refine OL.tell (k:=2) rfl (fun w h=>owns_take ((q.length-1)*33) h) ?_
 change OL _ _ _ _ _ (bs r4 q[q.length-1]!::dn rw (.slice (some ⟨r,0,none⟩) (q.length-1) c)::[(r,.cells ((aI q).take ((q.length-1)*33)) 27 (c*33))]::S) _;rw[vtxs_take _ _ (by omega)]
 exact OL.nil (PW.k1 4 rfl (PW.ae (OL.x (Yields.aT rfl (aa _) (av bF)) (OL.x (Yields.mkI rfl) (OL.n1 rfl (PW.k1 2 rfl (PW.ret (zR rfl ⟨_,Sub.drop (Sub.refl _),rfl,rfl⟩))))))))
theorem wup_fc {w0:World}{S:SS}{rw r c tot j0:Nat}{q:List ay}(hj0:j0<q.length) (hq:q.length<=1000000000000) :
    FC prog w0 109 [wI rw,.int .i64 (j0:Int)] (dn rw (.slice (some ⟨r,0,none⟩) q.length c)::qseg r tot q::S) (fun u S'=>u=.tuple #[]/\S'=dn rw (.slice (some ⟨r,0,none⟩) q.length c)::qseg r tot (upL cy j0 q j0)::S):=by
  refine FC.of known109 (by simp) ?_
  unfold pc109;simp only[bo];refine PW.block (PW.k2 0 1 rfl ?_);refine PW.aR (I:=fun mm T S'=>∃(j f:Nat) (l:List ay),(j<l.length/\j<=f/\l.length=q.length/\upL cy f l j=upL cy j0 q j0/\mm=j)/\T=([(0,wI rw),(1,.int .i64 (j:Int))]:TT)/\S'=dn rw (.slice (some ⟨r,0,none⟩) q.length c)::qseg r tot l::S) (m:=j0) ⟨j0,j0,q,⟨hj0,Nat.le_refl _,rfl,rfl,rfl⟩,rfl,rfl⟩ ?_
  rintro mm _ _ ⟨j,f,l,⟨hj,hjf,hl,hu,hmm⟩,rfl,rfl⟩;have hi2:(j-1) / 2<l.length:=by omega
  refine PW.block (PW.ae (OL.dp rfl (OL.x (Yields.cH rfl rfl (by omega) (by omega)) (OL.x (Yields.half rfl (by omega)) (OL.n1 rfl (PW.k3 0 1 4 rfl (PW.seq fun K1 hK1=>PW.ae (OL.p2 rfl rfl ?_))))))))
  refine OL.dp rfl ?_;refine OL.bool trivial (Yields.pure rfl) (fun g11=>?_) (fun g11=>?_)
  · try simp only[aD] at g11
    refine OL.off rfl rfl (OL.off rfl rfl (OL.off rfl rfl (OL.off rfl rfl (OL.off rfl rfl (OL.n1 rfl (PW.k4 0 1 4 17 rfl (PW.ite (b:=true) rfl ?_)))))));rw[if_pos rfl];refine PW.exit ?_;change(Exit.normal=Exit.normal∨Exit.normal=Exit.ret)/\∃v,resV _ _=some v/\_
    first
      | (refine ⟨.inl rfl, _, rfl, rfl, ?_⟩
         rw[<- hu];cases f with
         |zero=>rfl
         |succ f=>rw[show upL cy (f+1) l j=l from by unfold upL;rw[if_pos (show j=0 by omega)]])
      | (refine ⟨.inl rfl, _, rfl, rfl, ?_⟩
         rw[<- hu];cases f with
         |zero=>rfl
         |succ f=>rw[show upL cy (f+1) l j=l from by unfold upL;rw[if_neg (show ¬j=0 by omega),if_neg (by rw[c17];simp)]])
  try simp only[aD] at g11
  refine OL.ak rfl (.pure rfl) (OL.ak rfl (.pure rfl) (OL.ak rfl (.pure rfl) ?_));refine OL.cons rfl (OW.inv (k:=150) (rv:=.slice (some ⟨r,0,none⟩) q.length c) rfl rfl (fun w hr=>ed hr m_less (az (j:=0) (c:=[.slice (some ⟨r,0,none⟩) q.length c]) (E:=156) (tot:=1) bF rfl)) (by kernel_rfl) (by have h:=wless_fc (w0:=w0) (S:=dn rw (.slice (some ⟨r,0,none⟩) q.length c)::qseg r tot l::S) (c:=c) (Rd.own (E:=27) (tot:=tot) dm) hj hi2;rw[hl] at h;exact h)) ?_
  rintro _ Sx ⟨rfl,hSx⟩;rw[hSx];clear hSx;refine OL.ak rfl (.pure rfl) (OL.n1 rfl (PW.k4 0 1 4 17 rfl ?_));refine PW.cond rfl (fun c17=>?_) (fun c17=>?_)
  · try simp only[aD] at c17
    refine PW.exit ?_;change(Exit.normal=Exit.normal∨Exit.normal=Exit.ret)/\∃v,resV _ _=some v/\_
    first
      | (refine ⟨.inl rfl, _, rfl, rfl, ?_⟩
         rw[<- hu];cases f with
         |zero=>rfl
         |succ f=>rw[show upL cy (f+1) l j=l from by unfold upL;rw[if_pos (show j=0 by omega)]])
      | (refine ⟨.inl rfl, _, rfl, rfl, ?_⟩
         rw[<- hu];cases f with
         |zero=>rfl
         |succ f=>rw[show upL cy (f+1) l j=l from by unfold upL;rw[if_neg (show ¬j=0 by omega),if_neg (by rw[c17];simp)]])
  try simp only[aD] at c17
  refine PW.skip (hK1 _ _ (PW.k3 0 1 4 rfl (PW.ae (OL.p3 rfl rfl rfl ?_))));refine OL.c (OW.inv (k:=153) (rv:=.slice (some ⟨r,0,none⟩) q.length c) rfl rfl (fun w hr=>ed hr m_swap (az (j:=0) (c:=[.slice (some ⟨r,0,none⟩) q.length c]) (E:=156) (tot:=1) bF rfl)) (by kernel_rfl) (by have h:=wswap_fc (w0:=w0) (S:=dn rw (.slice (some ⟨r,0,none⟩) q.length c)::qseg r tot l::S) (c:=c) (k:=1) rfl hi2 hj;rw[hl] at h;exact h)) ?_
  rintro _ Sx ⟨rfl,hSx⟩;rw[hSx];clear hSx;refine OL.nil (PW.k2 0 4 rfl (PW.ops (OL.n2 rfl rfl ?_)));refine af.mk (T'':=[(0,_),(1,_)]) (wi rfl) ?_;refine⟨(j-1) / 2,by omega,(j-1) / 2,f-1,dR l ((j-1) / 2) j,⟨by rw[bP];omega,by omega,by rw[bP];exact hl,?_,rfl⟩,rfl,rfl⟩
  rw[<- hu];obtain⟨f',rfl⟩:∃f',f=f'+1:=⟨f-1,by omega⟩
  refine Eq.symm ((if_neg (show ¬j=0 by omega)).trans (if_pos c17))
end Go.Proofs.Gr

namespace Go.Proofs.Gr
open Go.SL Go.RowKit Go.Proofs Go.GP Go.Proofs.Tryz
set_option maxHeartbeats 1000000
open Go.HP
theorem wdown_fc {w0:World}{S:SS}{rw r c tot n f0:Nat}{q:List ay}(hn:n<=q.length) (hq:q.length<=1000000000000) (hf0:n<=f0) :
    FC prog w0 110 [wI rw,.int .i64 0,.int .i64 (n:Int)] (dn rw (.slice (some ⟨r,0,none⟩) q.length c)::qseg r tot q::S) (fun u S'=>∃b,u=.bool b/\S'=dn rw (.slice (some ⟨r,0,none⟩) q.length c)::qseg r tot (dS cy f0 q 0 n)::S):=by
  refine FC.of known110 (by simp) ?_
  unfold pc110;simp only[bo];refine PW.s1 rfl (PW.k3 0 1 2 rfl (PW.s2 rfl rfl (PW.k4 0 1 2 7 rfl (PW.seq fun K1 hK1=>PW.block (PW.k4 0 1 2 7 rfl ?_)))))
  refine PW.aR (I:=fun mm T S'=>∃(i f:Nat) (l:List ay),(n<=f+i/\l.length=q.length/\dS cy f l i n=dS cy f0 q 0 n/\mm=n-i/\i<=n)/\T=([(0,wI rw),(1,.int .i64 0),(2,.int .i64 (n:Int)),(7,.int .i64 (i:Int))]:TT)/\S'=dn rw (.slice (some ⟨r,0,none⟩) q.length c)::qseg r tot l::S) (m:=n) ⟨0,f0,q,⟨by omega,rfl,rfl,rfl,by omega⟩,rfl,rfl⟩ ?_
  rintro mm _ _ ⟨i,f,l,⟨hfi,hl,hu,hmm,hin⟩,rfl,rfl⟩;refine PW.block (PW.ae (OL.dp rfl (OL.x (Yields.mul64 rfl rfl (by omega) (by omega)) (OL.x (Yields.to (v':=.int .i64 ((2*i+1:Nat):Int)) (Yields.ao rfl rfl (by omega) (by omega)) (congrArg (Value.int .i64) (by omega))) (OL.n1 rfl (PW.k5 0 1 2 7 8 rfl (PW.seq fun K2 hK2=>PW.ae (OL.p2 rfl rfl ?_))))))))
  refine OL.dp rfl ?_;refine OL.bool trivial (Yields.pure rfl) (fun g18=>?_) (fun g18=>?_)
  · try simp only[aD] at g18
    refine OL.off rfl rfl (OL.off rfl rfl (OL.n1 rfl (PW.k6 0 1 2 7 8 21 rfl (PW.ite (b:=true) rfl ?_))));rw[if_pos rfl];refine PW.exit (hK1 _ _ (PW.k2 1 7 rfl (PW.s4 rfl rfl rfl rfl (PW.k1 6 rfl ?_))));refine PW.ret (zR rfl ?_)
    first
      | (refine ⟨_, rfl, ?_⟩
         rw[<- hu];cases f with
         |zero=>rfl
         |succ f=>rw[show dS cy (f+1) l i n=l from if_pos (by omega)])
      | (refine ⟨_, rfl, ?_⟩
         rw[<- hu];obtain⟨f',rfl⟩:∃f',f=f'+1:=⟨f-1,by omega⟩
         rw[show dS cy (f'+1) l i n=l from(if_neg (by omega)).trans (if_neg (by rw[c39];simp))])
  try simp only[aD] at g18
  refine OL.ak rfl (.pure rfl) (OL.ak rfl (.pure rfl) (OL.n1 rfl (PW.k6 0 1 2 7 8 21 rfl ?_)));refine PW.cond rfl (fun c21=>?_) (fun c21=>?_)
  · try simp only[aD] at c21
    exfalso;omega
    -- done
  try simp only[aD] at c21
  refine PW.skip (hK2 _ _ (PW.k5 0 1 2 7 8 rfl (PW.s2 rfl rfl (PW.k6 0 1 2 7 8 9 rfl (PW.seq fun K3 hK3=>PW.ae (OL.dp rfl (OL.x (Yields.to (v':=.int .i64 ((2*i+2:Nat):Int)) (Yields.ao rfl rfl (by omega) (by omega)) (congrArg (Value.int .i64) (by omega))) ?_)))))))
  refine OL.n1 rfl (PW.k7 0 1 2 7 8 9 10 rfl (PW.ae (OL.p3 rfl rfl rfl ?_)));refine OL.bool trivial (Yields.pure rfl) (fun g28=>?_) (fun g28=>?_)
  · try simp only[aD] at g28
    refine OL.ak rfl (.pure rfl) (OL.ak rfl (.pure rfl) (OL.ak rfl (.pure rfl) ?_));refine OL.cons rfl (OW.inv (k:=150) (rv:=.slice (some ⟨r,0,none⟩) q.length c) rfl rfl (fun w hr=>ed hr m_less (az (j:=0) (c:=[.slice (some ⟨r,0,none⟩) q.length c]) (E:=156) (tot:=1) bF rfl)) (by kernel_rfl) (by have h:=wless_fc (w0:=w0) (S:=dn rw (.slice (some ⟨r,0,none⟩) q.length c)::qseg r tot l::S) (c:=c) (i:=2*i+2) (j:=2*i+1) (Rd.own (E:=27) (tot:=tot) dm) (by omega) (by omega);rw[hl] at h;exact h)) ?_
    rintro _ Sx ⟨rfl,hSx⟩;rw[hSx];clear hSx;refine OL.n1 rfl (PW.k7 0 1 2 7 9 10 33 rfl ?_);refine PW.cond rfl (fun c33=>?_) (fun c33=>?_)
    · try simp only[aD] at c33
      have hJ:bY cy l i n=2*i+2:=if_pos ⟨by omega,c33⟩
      refine PW.ops (OL.n2 rfl rfl (hK3 _ _ (PW.k5 0 1 2 7 9 rfl (PW.seq fun K4 hK4=>PW.ae ?_))))
      have hJr:2*i+1<=bY cy l i n/\bY cy l i n<n:=by unfold bY;split<;>omega
      refine OL.dp rfl ?_;refine OL.x (Yields.to (v':=.int .i64 ((bY cy l i n:Nat):Int)) (Yields.pure rfl) (by rw[hJ])) ?_
      refine OL.dp rfl ?_;refine OL.c (OW.inv (k:=150) (rv:=.slice (some ⟨r,0,none⟩) q.length c) rfl rfl (fun w hr=>ed hr m_less (az (j:=0) (c:=[.slice (some ⟨r,0,none⟩) q.length c]) (E:=156) (tot:=1) bF rfl)) (by kernel_rfl) (by have h:=wless_fc (w0:=w0) (S:=dn rw (.slice (some ⟨r,0,none⟩) q.length c)::qseg r tot l::S) (c:=c) (i:=bY cy l i n) (j:=i) (Rd.own (E:=27) (tot:=tot) dm) (by omega) (by omega);rw[hl] at h;exact h)) ?_
      rintro _ Sx ⟨rfl,hSx⟩;rw[hSx];clear hSx;refine OL.n1 rfl (PW.k6 0 1 2 7 9 39 rfl ?_);refine PW.cond rfl (fun c39=>?_) (fun c39=>?_)
      · try simp only[aD] at c39
        refine PW.exit (hK1 _ _ (PW.k2 1 7 rfl (PW.s4 rfl rfl rfl rfl (PW.k1 6 rfl ?_))));refine PW.ret (zR rfl ?_)
        first
          | (refine ⟨_, rfl, ?_⟩
             rw[<- hu];cases f with
             |zero=>rfl
             |succ f=>rw[show dS cy (f+1) l i n=l from if_pos (by omega)])
          | (refine ⟨_, rfl, ?_⟩
             rw[<- hu];obtain⟨f',rfl⟩:∃f',f=f'+1:=⟨f-1,by omega⟩
             rw[show dS cy (f'+1) l i n=l from(if_neg (by omega)).trans (if_neg (by rw[c39];simp))])
      try simp only[aD] at c39
      refine PW.skip (hK4 _ _ (PW.k5 0 1 2 7 9 rfl (PW.ae (OL.p2 rfl rfl ?_))));refine OL.x (Yields.to (v':=.int .i64 ((bY cy l i n:Nat):Int)) (Yields.pure rfl) (by rw[hJ])) ?_
      refine OL.c (OW.inv (k:=153) (rv:=.slice (some ⟨r,0,none⟩) q.length c) rfl rfl (fun w hr=>ed hr m_swap (az (j:=0) (c:=[.slice (some ⟨r,0,none⟩) q.length c]) (E:=156) (tot:=1) bF rfl)) (by kernel_rfl) (by have h:=wswap_fc (w0:=w0) (S:=dn rw (.slice (some ⟨r,0,none⟩) q.length c)::qseg r tot l::S) (c:=c) (k:=1) (i:=i) (j:=bY cy l i n) rfl (by omega) (by omega);rw[hl] at h;exact h)) ?_
      rintro _ Sx ⟨rfl,hSx⟩;rw[hSx];clear hSx;refine OL.nil (PW.k4 0 1 2 9 rfl (PW.ops ?_));refine OL.x (Yields.to (v':=.int .i64 ((bY cy l i n:Nat):Int)) (Yields.pure rfl) (by rw[hJ])) ?_
      refine OL.n1 rfl ?_;refine af.mk (T'':=[(0,_),(1,_),(2,_),(7,_)]) (wi rfl) ?_;obtain⟨f',rfl⟩:∃f',f=f'+1:=⟨f-1,by omega⟩
      refine⟨n-bY cy l i n,by omega,bY cy l i n,f',dR l i (bY cy l i n),⟨by omega,by rw[bP];exact hl,?_,rfl,by omega⟩,rfl,rfl⟩
      rw[<- hu];exact((if_neg (by omega)).trans (if_pos c39)).symm
    try simp only[aD] at c33
    have hJ:bY cy l i n=2*i+1:=if_neg (fun h=>absurd h.2 (by rw[c33];simp))
    refine PW.skip (hK3 _ _ (PW.k5 0 1 2 7 9 rfl (PW.seq fun K5 hK5=>PW.ae ?_)))
    have hJr:2*i+1<=bY cy l i n/\bY cy l i n<n:=by unfold bY;split<;>omega
    refine OL.dp rfl ?_;refine OL.x (Yields.to (v':=.int .i64 ((bY cy l i n:Nat):Int)) (Yields.pure rfl) (by rw[hJ])) ?_
    refine OL.dp rfl ?_;refine OL.c (OW.inv (k:=150) (rv:=.slice (some ⟨r,0,none⟩) q.length c) rfl rfl (fun w hr=>ed hr m_less (az (j:=0) (c:=[.slice (some ⟨r,0,none⟩) q.length c]) (E:=156) (tot:=1) bF rfl)) (by kernel_rfl) (by have h:=wless_fc (w0:=w0) (S:=dn rw (.slice (some ⟨r,0,none⟩) q.length c)::qseg r tot l::S) (c:=c) (i:=bY cy l i n) (j:=i) (Rd.own (E:=27) (tot:=tot) dm) (by omega) (by omega);rw[hl] at h;exact h)) ?_
    rintro _ Sx ⟨rfl,hSx⟩;rw[hSx];clear hSx;refine OL.n1 rfl (PW.k6 0 1 2 7 9 39 rfl ?_);refine PW.cond rfl (fun c39=>?_) (fun c39=>?_)
    · try simp only[aD] at c39
      refine PW.exit (hK1 _ _ (PW.k2 1 7 rfl (PW.s4 rfl rfl rfl rfl (PW.k1 6 rfl ?_))));refine PW.ret (zR rfl ?_)
      first
        | (refine ⟨_, rfl, ?_⟩
           rw[<- hu];cases f with
           |zero=>rfl
           |succ f=>rw[show dS cy (f+1) l i n=l from if_pos (by omega)])
        | (refine ⟨_, rfl, ?_⟩
           rw[<- hu];obtain⟨f',rfl⟩:∃f',f=f'+1:=⟨f-1,by omega⟩
           rw[show dS cy (f'+1) l i n=l from(if_neg (by omega)).trans (if_neg (by rw[c39];simp))])
    try simp only[aD] at c39
    refine PW.skip (hK5 _ _ (PW.k5 0 1 2 7 9 rfl (PW.ae (OL.p2 rfl rfl ?_))));refine OL.x (Yields.to (v':=.int .i64 ((bY cy l i n:Nat):Int)) (Yields.pure rfl) (by rw[hJ])) ?_
    refine OL.c (OW.inv (k:=153) (rv:=.slice (some ⟨r,0,none⟩) q.length c) rfl rfl (fun w hr=>ed hr m_swap (az (j:=0) (c:=[.slice (some ⟨r,0,none⟩) q.length c]) (E:=156) (tot:=1) bF rfl)) (by kernel_rfl) (by have h:=wswap_fc (w0:=w0) (S:=dn rw (.slice (some ⟨r,0,none⟩) q.length c)::qseg r tot l::S) (c:=c) (k:=1) (i:=i) (j:=bY cy l i n) rfl (by omega) (by omega);rw[hl] at h;exact h)) ?_
    rintro _ Sx ⟨rfl,hSx⟩;rw[hSx];clear hSx;refine OL.nil (PW.k4 0 1 2 9 rfl (PW.ops ?_));refine OL.x (Yields.to (v':=.int .i64 ((bY cy l i n:Nat):Int)) (Yields.pure rfl) (by rw[hJ])) ?_
    refine OL.n1 rfl ?_;refine af.mk (T'':=[(0,_),(1,_),(2,_),(7,_)]) (wi rfl) ?_;obtain⟨f',rfl⟩:∃f',f=f'+1:=⟨f-1,by omega⟩
    refine⟨n-bY cy l i n,by omega,bY cy l i n,f',dR l i (bY cy l i n),⟨by omega,by rw[bP];exact hl,?_,rfl,by omega⟩,rfl,rfl⟩
    rw[<- hu];exact((if_neg (by omega)).trans (if_pos c39)).symm
  try simp only[aD] at g28
  have hJ:bY cy l i n=2*i+1:=if_neg (fun h=>absurd h.1 (by omega))
  refine OL.off rfl rfl (OL.off rfl rfl (OL.off rfl rfl (OL.off rfl rfl (OL.n1 rfl (PW.k7 0 1 2 7 9 10 33 rfl (PW.ite (b:=false) rfl ?_))))));rw[if_neg Bool.false_ne_true];refine PW.skip (hK3 _ _ (PW.k5 0 1 2 7 9 rfl (PW.seq fun K6 hK6=>PW.ae ?_)))
  have hJr:2*i+1<=bY cy l i n/\bY cy l i n<n:=by unfold bY;split<;>omega
  refine OL.dp rfl ?_;refine OL.x (Yields.to (v':=.int .i64 ((bY cy l i n:Nat):Int)) (Yields.pure rfl) (by rw[hJ])) ?_
  refine OL.dp rfl ?_;refine OL.c (OW.inv (k:=150) (rv:=.slice (some ⟨r,0,none⟩) q.length c) rfl rfl (fun w hr=>ed hr m_less (az (j:=0) (c:=[.slice (some ⟨r,0,none⟩) q.length c]) (E:=156) (tot:=1) bF rfl)) (by kernel_rfl) (by have h:=wless_fc (w0:=w0) (S:=dn rw (.slice (some ⟨r,0,none⟩) q.length c)::qseg r tot l::S) (c:=c) (i:=bY cy l i n) (j:=i) (Rd.own (E:=27) (tot:=tot) dm) (by omega) (by omega);rw[hl] at h;exact h)) ?_
  rintro _ Sx ⟨rfl,hSx⟩;rw[hSx];clear hSx;refine OL.n1 rfl (PW.k6 0 1 2 7 9 39 rfl ?_);refine PW.cond rfl (fun c39=>?_) (fun c39=>?_)
  · try simp only[aD] at c39
    refine PW.exit (hK1 _ _ (PW.k2 1 7 rfl (PW.s4 rfl rfl rfl rfl (PW.k1 6 rfl ?_))));refine PW.ret (zR rfl ?_)
    first
      | (refine ⟨_, rfl, ?_⟩
         rw[<- hu];cases f with
         |zero=>rfl
         |succ f=>rw[show dS cy (f+1) l i n=l from if_pos (by omega)])
      | (refine ⟨_, rfl, ?_⟩
         rw[<- hu];obtain⟨f',rfl⟩:∃f',f=f'+1:=⟨f-1,by omega⟩
         rw[show dS cy (f'+1) l i n=l from(if_neg (by omega)).trans (if_neg (by rw[c39];simp))])
  try simp only[aD] at c39
  refine PW.skip (hK6 _ _ (PW.k5 0 1 2 7 9 rfl (PW.ae (OL.p2 rfl rfl ?_))));refine OL.x (Yields.to (v':=.int .i64 ((bY cy l i n:Nat):Int)) (Yields.pure rfl) (by rw[hJ])) ?_
  refine OL.c (OW.inv (k:=153) (rv:=.slice (some ⟨r,0,none⟩) q.length c) rfl rfl (fun w hr=>ed hr m_swap (az (j:=0) (c:=[.slice (some ⟨r,0,none⟩) q.length c]) (E:=156) (tot:=1) bF rfl)) (by kernel_rfl) (by have h:=wswap_fc (w0:=w0) (S:=dn rw (.slice (some ⟨r,0,none⟩) q.length c)::qseg r tot l::S) (c:=c) (k:=1) (i:=i) (j:=bY cy l i n) rfl (by omega) (by omega);rw[hl] at h;exact h)) ?_
  rintro _ Sx ⟨rfl,hSx⟩;rw[hSx];clear hSx;refine OL.nil (PW.k4 0 1 2 9 rfl (PW.ops ?_));refine OL.x (Yields.to (v':=.int .i64 ((bY cy l i n:Nat):Int)) (Yields.pure rfl) (by rw[hJ])) ?_
  refine OL.n1 rfl ?_;refine af.mk (T'':=[(0,_),(1,_),(2,_),(7,_)]) (wi rfl) ?_;obtain⟨f',rfl⟩:∃f',f=f'+1:=⟨f-1,by omega⟩
  refine⟨n-bY cy l i n,by omega,bY cy l i n,f',dR l i (bY cy l i n),⟨by omega,by rw[bP];exact hl,?_,rfl,by omega⟩,rfl,rfl⟩
  rw[<- hu];exact((if_neg (by omega)).trans (if_pos c39)).symm
end Go.Proofs.Gr

namespace Go.Proofs.Gr
open Go.SL Go.RowKit Go.Proofs Go.GP Go.Proofs.Tryz
set_option maxHeartbeats 1000000
open Go.HP
theorem upL_len:∀(f:Nat) (l:List ay) (j:Nat),(upL cy f l j).length=l.length
 |0,l,j=>rfl
 |f+1,l,j=>by
  unfold upL;split
  ·rfl
  split
  ·rw[upL_len f,bP]
  rfl
theorem downL_len:∀(f:Nat) (l:List ay) (i n:Nat),(dS cy f l i n).length=l.length
 |0,l,i,n=>rfl
 |f+1,l,i,n=>by
  unfold dS;split
  ·rfl
  split
  ·rw[downL_len f,bP]
  rfl
theorem hpush_fc {w0:World}{S:SS}{rw:Nat}{v:Value}{sg:bD}{q:List ay}{x:ay}(hs:aV 27 33 v q.length (aI q) sg) (hq:q.length<=100000000000) :
  FC prog w0 85 [wI rw,.iface 27 (aP x)] (dn rw v::sg::S) (fun u S'=>u=.tuple #[]/\∃v' sg',S'=dn rw v'::sg'::S/\aV 27 33 v' (pushL cy q x).length (aI (pushL cy q x)) sg'):=by
 have hql:(q++[x]).length=q.length+1:=by simp
 refine FC.of known85 (by simp) ?_
 unfold pc85;simp only[bo];refine PW.ae (OL.p2 rfl rfl ?_);refine OL.c (OW.inv (k:=152) (rv:=.pointer (some ⟨rw,0,none⟩)) rfl rfl (fun w hr=>meth_ptr hr m_push _) (by kernel_rfl) (wpush_fc hs (by omega))) ?_
 rintro _ _ ⟨rfl,v6,sg6,rfl,hs6⟩;obtain⟨r,c,rfl,rfl,hc,hcm⟩:=slv_own hs6 (by omega)
 refine OL.nil (PW.k1 0 rfl (PW.ops (OL.p2 rfl rfl ?_)));refine OL.c (OW.inv (k:=86) (rv:=.slice (some ⟨r,0,none⟩) (q++[x]).length c) rfl rfl (fun w hr=>ed hr m_len (az (j:=0) (c:=[.slice (some ⟨r,0,none⟩) (q++[x]).length c]) (E:=156) (tot:=1) bF rfl)) (by kernel_rfl) (wlen_fc)) ?_
 rintro _ Sx ⟨rfl,hSx⟩;rw[hSx];clear hSx;refine OL.x (Yields.to (v':=.int .i64 ((q.length:Nat):Int)) (Yields.cH rfl rfl (by omega) (by omega)) (congrArg (Value.int .i64) (by omega))) (OL.l rfl (wup_fc (q:=q++[x]) (j0:=q.length) (c:=c) (tot:=c*33) (by omega) (by omega)) ?_)
 rintro _ _ ⟨rfl,rfl⟩;refine OL.nil ?_;change(Exit.normal=Exit.normal∨Exit.normal=Exit.ret)/\∃v,resV _ _=some v/\_;have hpl:(pushL cy q x).length=(q++[x]).length:=upL_len _ _ _
 refine⟨.inl rfl,_,rfl,rfl,_,_,rfl,?_⟩;rw[<- hpl];exact aV.mk' (bT _) (by rw[hpl];exact hc) hcm
theorem hpop_fc {w0:World}{S:SS}{rw r c:Nat}{q:List ay}(h0:0<q.length) (hc:q.length<=c) (hcm:c<=maxLen) (hq:q.length<=100000000000) :
  FC prog w0 87 [wI rw] (dn rw (.slice (some ⟨r,0,none⟩) q.length c)::qseg r (c*33) q::S) (fun u S'=>u=.iface 27 (aP (dS cy q.length (dR q 0 (q.length-1)) 0 (q.length-1))[q.length-1]!)/\S'=dn rw (.slice (some ⟨r,0,none⟩) (q.length-1) c)::qseg r (c*33) (popL cy q)::S):=by
 refine FC.of known87 (by simp) ?_
 unfold pc87;simp only[bo];refine PW.s1 rfl (PW.k1 0 rfl (PW.ae (OL.dp rfl ?_)));refine OL.c (OW.inv (k:=86) (rv:=.slice (some ⟨r,0,none⟩) q.length c) rfl rfl (fun w hr=>ed hr m_len (az (j:=0) (c:=[.slice (some ⟨r,0,none⟩) q.length c]) (E:=156) (tot:=1) bF rfl)) (by kernel_rfl) (wlen_fc)) ?_
 rintro _ Sx ⟨rfl,hSx⟩;rw[hSx];clear hSx;refine OL.x (Yields.to (v':=.int .i64 ((q.length-1:Nat):Int)) (Yields.cH rfl rfl (by omega) (by omega)) (congrArg (Value.int .i64) (by omega))) (OL.n1 rfl (PW.k2 0 3 rfl (PW.ae (OL.p2 rfl rfl ?_))))
 refine OL.c (OW.inv (k:=153) (rv:=.slice (some ⟨r,0,none⟩) q.length c) rfl rfl (fun w hr=>ed hr m_swap (az (j:=0) (c:=[.slice (some ⟨r,0,none⟩) q.length c]) (E:=156) (tot:=1) bF rfl)) (by kernel_rfl) (wswap_fc (c:=c) (k:=1) (i:=0) (j:=q.length-1) rfl h0 (by omega))) ?_
 rintro _ _ ⟨rfl,rfl⟩;change OL _ _ _ _ _ (dn rw (.slice (some ⟨r,0,none⟩) q.length c)::qseg r (c*33) (dR q 0 (q.length-1))::S) _;refine OL.nil (PW.k2 0 3 rfl (PW.ae (OL.p2 rfl rfl ?_)));refine OL.l rfl (by have h:=wdown_fc (w0:=w0) (S:=S) (rw:=rw) (r:=r) (c:=c) (tot:=c*33) (n:=q.length-1) (f0:=q.length) (q:=dR q 0 (q.length-1)) (by rw[bP];omega) (by rw[bP];omega) (by omega);rw[bP] at h;exact h) ?_
 rintro _ _ ⟨b,rfl,rfl⟩;refine OL.nil (PW.k1 0 rfl (PW.ae (OL.dp rfl ?_)));refine OL.c (OW.inv (k:=151) (rv:=.pointer (some ⟨rw,0,none⟩)) rfl rfl (fun w hr=>meth_ptr hr m_pop _) (by kernel_rfl) (by have h:=wpop_fc (w0:=w0) (S:=S) (rw:=rw) (r:=r) (c:=c) (q:=(dS cy q.length (dR q 0 (q.length-1)) 0 (q.length-1))) (by rw[downL_len,bP];exact h0) (by rw[downL_len,bP];exact hc) hcm (by rw[downL_len,bP];omega);rw[downL_len,bP] at h;exact h)) ?_
 rintro _ _ ⟨rfl,rfl⟩;exact OL.n1 rfl (PW.k1 2 rfl (PW.ret (zR rfl ⟨rfl,rfl⟩)))
end Go.Proofs.Gr

namespace Go.GP
open Go.SL
def tgts (N:List (ay×bK)):List ay:=N.flatMap fun p=>p.2.next
theorem EG_tgts (N:List (ay×bK)):(EG N).map (·.2)=tgts N:=by
 unfold EG tgts
 induction N with
 |nil=>rfl
 |cons p N ih=>rw[List.flatMap_cons,List.flatMap_cons,List.map_append,ih,List.map_map];simp[Function.comp_def]
theorem tgts_len (N:List (ay×bK)):(tgts N).length=(EG N).length:=by rw[<- EG_tgts,List.length_map]
theorem tgts_perm {A B:List (ay×bK)}(h:A.Perm B):(tgts A).Perm (tgts B):=h.flatMap_right _
def inN (N:List (ay×bK)) (v:ay):Int:=dJ v (tgts N)
theorem inN_perm {A B:List (ay×bK)}(h:A.Perm B) (v:ay):inN A v=inN B v:=by unfold inN dJ;rw[(tgts_perm h).count_eq]
theorem cntV_le (v:ay) (l:List ay):0<=dJ v l/\dJ v l<=l.length:=by unfold dJ;have:=List.count_le_length (a:=v) (l:=l);omega
end Go.GP

namespace Go.SL
open Go.RowKit
section
variable {P:Program}{w0:World}{n:Nat}{T:TT}{S:SS}{α β:Type}[DecidableEq α] {f:α->Value}{g:β->Value}{kt et t:TypeId}{ok:α->Prop}
def OpS (f:α->Value) (g:β->Value) (l:List (α×β)) (a:α) (z:β) (b:Nat) (A R:SS) (S':SS):Prop:=
 S'=A++[(b,.gm (dU f g l))]::R∨∃en clk,Opened f g en clk (entL l a z)/\S'=A++[(b,.obj (.map en clk))]::R
theorem OpS.over {l:List (α×β)}{a:α}{z:β}{b:Nat}{A R S':SS}(h:OpS f g l a z b A R S'):Over (A++R) S':=by
 intro q hq;rw[List.flatten_append,List.mem_append] at hq;rcases h with rfl|⟨en,clk,_,rfl⟩<;>(rw[List.flatten_append,List.mem_append,List.flatten_cons,List.mem_append];exact hq.imp_right .inr)
theorem mgt_entL {l:List (α×β)}{a u:α}{z:β}:(fo (entL l a z) u).getD z=(fo l u).getD z:=by
 unfold entL;rw[mgt_mpt];split
 ·rename_i h;subst h;rfl
 rfl
theorem entL_ok {l:List (α×β)}{a:α}{z:β}(hl:∀p∈l,ok p.1) (ha:ok a):∀p∈entL l a z,ok p.1:=by
 intro p hp;unfold entL at hp;have key:∀(l:List (α×β)) (b:β),(∀p∈l,ok p.1)->∀p∈dM l a b,ok p.1:=by
  intro l b
  induction l with
  |nil=>intro _ p hp;simp only[dM,List.mem_singleton] at hp;subst hp;exact ha
  |cons x l ih=>
   intro h p hp;unfold dM at hp;split at hp
   ·rcases List.mem_cons.1 hp with rfl|hp
    ·exact ha
    exact h p (List.mem_cons_of_mem _ hp)
   rcases List.mem_cons.1 hp with rfl|hp
   ·exact h _ List.mem_cons_self
   exact ih (fun p hp=>h p (List.mem_cons_of_mem _ hp)) p hp
 exact key l _ hl p hp
theorem Yields.lookOp {m k:Operand}{i:TypeInfo}{b:Nat}{l:List (α×β)}{a u:α}{z:β}{A R S':SS}(hu:P.underlying t=some (.map kt et)) (hi:P.info? et=some i) (hz:i.zero=some (g z)) (K:Keys P kt f ok) (hl:∀p∈l,ok p.1) (ha:ok a) (hau:ok u)
  (hm:(cV m).val T=some (.map (some b))) (hx:(cV k).val T=some (f u)) (hS:OpS f g l a z b A R S') :
  Yields P w0 n (.more (.other (.gen (.lookup t m k false)))) T S' (g ((fo l u).getD z)):=by
 rcases hS with rfl|⟨en,clk,ho,rfl⟩
 ·have:=Yields.lookG (P:=P) (w0:=w0) (n:=n) (T:=T) (S:=A++[(b,.gm (dU f g l))]::R) (okc:=false) hu hi hz K hl hau hm hx (by simp)
  simpa using this
 have:=Yields.lookO (P:=P) (w0:=w0) (n:=n) (T:=T) (S:=A++[(b,.obj (.map en clk))]::R) (okc:=false) hu hi hz K (entL_ok hl ha) hau hm hx ho (by simp)
 rw[mgt_entL] at this;simpa using this
end
end Go.SL

namespace Go.Proofs.Gr
open Go.SL Go.RowKit Go.Proofs Go.GP Go.Proofs.Tryz
set_option maxHeartbeats 1000000
def dK (z:Int):Value:=.int .i64 z
theorem zero3:∃i,prog.info? 3=some i/\i.zero=some (dK 0):=Option.bind_eq_some_iff.1 (show(prog.info? 3).bind (·.zero)=some (dK 0) by kernel_rfl)
def lv (left:List (ay×Int)) (v:ay):Int:=(fo left v).getD 0
theorem lv_put (left:List (ay×Int)) (w:ay) (z:Int) (u:ay):lv (dM (entL left w 0) w z) u=if u=w then z else lv left u:=by
 unfold lv;rw[mgt_mpt];split
 ·rfl
 exact mgt_entL
theorem put_ok {left:List (ay×Int)}{w:ay}{z:Int}(hl:∀q∈left,er q.1) (hw:er w):∀q∈dM (entL left w 0) w z,er q.1:=by
 intro q hq;rcases mem_mpt hq with rfl|h
 ·exact hw
 exact entL_ok hl hw q h
def GO (m:dV) (en:Array MapEntry) (clk:Nat):SS:=[[(m.r,.cells m.cells 111 4)],[(m.pb,.gm (dU aP fz m.parts))],[(m.nb,.obj (.map en clk))],m.aH]
theorem GO_n {S:SS}{m:dV}{en:Array MapEntry}{clk:Nat}(h:Over (GO m en clk) S):(m.nb,AO.obj (.map en clk))∈S.flatten:=h _ (by simp[GO])
theorem Rd.go {w0:World}{m:dV}{S X:SS}{en:Array MapEntry}{clk:Nat}{A:Option Addr}{l:List Value}(h:Rd w0 (m.aH::X) A l) (hS:Over (GO m en clk++X) S):Rd w0 S A l:=h.mono fun p hp=>by
 rw[List.flatten_cons,List.mem_append] at hp;refine hS p ?_;rw[List.flatten_append,List.mem_append];rcases hp with hp|hp
 ·exact .inl (by simp[GO,hp])
 exact .inr hp
theorem plN_app (a b:List (ay×ck)):plN (a++b)=plN a++plN b:=by unfold plN;simp
theorem tgts_app (a b:List (ay×bK)):tgts (a++b)=tgts a++tgts b:=by unfold tgts;simp
theorem done_len {m:dV}{done rest:List (ay×ck)}{p:ay×ck}(h:((done++[p])++rest).Perm m.nodes):(tgts (plN done)).length+p.2.next.length<=(EG m.gr.nodes).length:=by
 have h2:(plN ((done++[p])++rest)).Perm m.gr.nodes:=h.map _
 rw[<- tgts_len,<- (tgts_perm h2).length_eq,plN_app,plN_app,tgts_app,tgts_app,List.length_append,List.length_append];have:(tgts (plN [p])).length=p.2.next.length:=by simp[tgts,plN,ck.pl]
 omega
theorem inN_snoc (done:List (ay×ck)) (p:ay×ck) (u:ay):inN (plN (done++[p])) u=inN (plN done) u+dJ u p.2.next:=by
 unfold inN;rw[plN_app,tgts_app,cntV_app];congr 1;simp[tgts,plN,ck.pl]
theorem cnt_take {l:List ay}{k:Nat}(hk:k<l.length) (u:ay):dJ u (l.take (k+1))=dJ u (l.take k)+if u=l[k] then 1 else 0:=by
 rw[vtake_snoc hk,cntV_app,cntV_cons];have:dJ u [] = 0:=by simp[dJ]
 rw[this];by_cases h:l[k] = u
 ·rw[if_pos h,if_pos h.symm];omega
 rw[if_neg h,if_neg (fun e=>h e.symm)];omega
theorem done_get {m:dV}{X:SS}{w0:World}(hm:GOk w0 X m) {done rest:List (ay×ck)}{p:ay×ck}{i:Nat}(hp:(done++rest).Perm m.nodes) (hi:rest[i]? = some p):p∈m.nodes:=hp.subset (List.mem_append_right _ (List.mem_of_getElem? hi))
theorem ahead_fc {w0:World}{S X:SS}{m:dV}(hm:GOk w0 X m) (hX:Over X S) (hE:(EG m.gr.nodes).length<=1000000000) :
  FC prog w0 84 [m.ptr] (GS m++S) (fun v S'=>∃(ra:Nat) (left:List (ay×Int)),v=.map (some ra)/\S'=[(ra,.gm (dU aP dK left))]::(GS m++S)/\(∀q∈left,er q.1)/\∀u,lv left u=inN m.gr.nodes u):=by
 have hS:Over (GS m++X) (GS m++S):=Over.both hX
 obtain⟨z,hz1,hz2⟩:=zero3;have hml:=hm.lim
 refine FC.ofD known84 (by simp) ?_
 unfold pc84;simp only[bo];refine PW.s1 rfl (PW.k1 0 rfl (PW.ae (OL.dp rfl (OL.x (Yields.cF rfl) (OL.dp rfl (OL.x (Yields.ld rfl (dz hS)) (OL.x (Yields.lenG rfl (fw hS).2.2.1) (OL.c (OW.mkGr (j:=(m.nodes.length:Int)) Tryz.underlying153 rfl) ?_))))))));rintro _ _ ⟨ra,rfl,rfl⟩;change OL _ _ _ _ _ ([(ra,.gm (dU aP dK []))]::(GS m++S)) _;refine OL.n1 rfl (PW.k2 0 3 rfl (PW.seq fun K1 hK1=>PW.ae (OL.dp rfl (OL.x (Yields.cF rfl) (OL.dp rfl (OL.x (Yields.ld rfl (dz hS.cons)) (OL.c (OW.rngG (j:=3) (l:=m.nodes) Tryz.underlying109 rfl rfl) ?_)))))))
 rintro _ _ ⟨ri,en,clk,rfl,hopen,hit0,rfl⟩;change OL _ _ _ _ _ ([(ri,.obj (.mapIter (some m.nb) clk #[] clk))]::[(ra,.gm (dU aP dK []))]::(GO m en clk++S)) _;refine OL.nil (PW.k3 0 3 19 rfl (PW.block (PW.k3 0 3 19 rfl ?_)));refine PW.aR (I:=fun mm T S'=>∃(seen:Array Nat) (done rest:List (ay×ck)) (left:List (ay×Int)),(It aP nodeV en seen m.nodes done rest/\(∀q∈left,er q.1)/\(∀u,lv left u=0)/\mm=rest.length)/\T=([(0,m.ptr),(3,.map (some ra)),(19,.pointer (some ⟨ri,0,none⟩))]:TT)/\S'=[(ri,.obj (.mapIter (some m.nb) clk seen clk))]::[(ra,.gm (dU aP dK left))]::(GO m en clk++S)) (m:=m.nodes.length) ⟨#[],[],m.nodes,[],⟨hit0,(fun q h=>nomatch h),fun u=>rfl,rfl⟩,rfl,rfl⟩ ?_
 rintro mm _ _ ⟨seen,done,rest,left,⟨hit,hlk,hall,hmm⟩,rfl,rfl⟩;refine PW.ae (OL.c (OW.nxtG (j:=0) (b:=m.nb) (l:=m.nodes) (done:=done) (rest:=rest) rfl rfl (GO_n (en:=en) (clk:=clk) (Over.app (b:=S)).cons.cons) hopen hit) ?_);refine fun v S' h=>Or.elim h.symm ?_ ?_
 ·skip;rintro⟨ii,p,qq,hri,rfl,hit2,rfl⟩;refine OL.x (Yields.pure rfl) (OL.nil (PW.k4 0 3 19 21 rfl (PW.seq fun K2 hK2=>PW.ite (b:=true) rfl ?_)))
  rw[if_pos rfl];refine PW.skip (hK2 _ _ (PW.k3 0 3 19 rfl (PW.block (PW.ae (OL.x (Yields.entG (b:=m.nb) rfl bF (GO_n (en:=en) (clk:=clk) (Over.app (b:=S)).cons.cons) hopen hit2) (OL.dp rfl (OL.c OW.al ?_)))))));rintro _ _ ⟨r4,rfl,rfl⟩;refine OL.c (vtx_st rfl rfl rfl) ?_;rintro _ _ rfl;obtain⟨v,n0⟩:=p;have hpm:=done_get hm hit.perm hri
  have hov:er v:=hm.nk _ hpm
  change OL _ _ _ _ _ (bs r4 v::[(ri,.obj (.mapIter (some m.nb) clk (seen.push qq) clk))]::[(ra,.gm (dU aP dK left))]::(GO m en clk++S)) _;refine OL.nil (PW.k4 0 3 4 19 rfl ?_);refine PW.dy (Ss:=OpS aP dK left v 0 ra (bs r4 v::[[(ri,.obj (.mapIter (some m.nb) clk (seen.push qq) clk))]]) (GO m en clk++S)) (fr:=false) [(0,0),(1,0),(2,0),(3,0),(4,2),(5,2)] mixed (by decide +kernel) (.inl rfl) (fun h=>by cases h) ?_
  refine GL.dp rfl ?_;refine GL.ak trivial (fun Sx hSx=>Yields.aT rfl (aa _) (av (c:=au v) (E:=27) (tot:=33) (hSx.over _ (by simp)))) ?_
  refine GL.ak trivial (fun Sx hSx=>Yields.lookOp (u:=v) Tryz.underlying153 hz1 hz2 dj hlk hov hov rfl rfl hSx) ?_
  refine GL.ak trivial (fun Sx hSx=>Yields.to (v':=dK (lv left v+0)) (Yields.ao rfl rfl (by show _<=lv left v+0;rw[hall];decide) (by show lv left v+0<=_;rw[hall];decide)) rfl) ?_
  refine GL.lo trivial (OW.mono (OW.entry (j:=2) (a:=v) (z:=(0:Int)) Tryz.underlying153 hz1 hz2 dj hlk hov rfl rfl rfl) ?_);rintro _ _ ⟨en2,clk2,qq2,e2,rfl,hop2,hee2,heb2,hek2,rfl⟩;refine⟨.inr ⟨en2,clk2,hop2,rfl⟩,?_⟩;refine GL.lo trivial (OW.mono (OW.of_yields (Yields.pure rfl)) ?_);rintro _ _ ⟨rfl,rfl⟩;refine⟨.inr ⟨en2,clk2,hop2,rfl⟩,?_⟩;change OL _ _ _ [_] _ _ _;refine OL.c (OW.store (j:=2) (v:=lv left v+0) (fun a b=>vtx_inj') rfl rfl rfl hop2 hee2 heb2 hek2 rfl) ?_
  rintro _ _ rfl;change OL _ _ _ _ _ (bs r4 v::[(ri,.obj (.mapIter (some m.nb) clk (seen.push qq) clk))]::[(ra,.gm (dU aP dK (dM (entL left v 0) v (lv left v+0))))]::(GO m en clk++S)) _;refine OL.nil ?_;refine af.dE (Sub.drop (Sub.refl _)) (T'':=[(0,_),(3,_),(19,_)]) (wi rfl) ?_;have hil:ii<rest.length:=(List.getElem?_eq_some_iff.1 hri).1
  refine⟨(rest.eraseIdx ii).length,by rw[List.length_eraseIdx,if_pos hil];omega,seen.push qq,done++[(v,n0)],rest.eraseIdx ii,dM (entL left v 0) v (lv left v+0),⟨hit2,put_ok hlk hov,fun u=>?_,rfl⟩,rfl,rfl⟩
  rw[lv_put,hall,hall];split<;>rfl
 skip;rintro⟨hr0,rfl,rfl⟩;refine OL.x (Yields.pure rfl) (OL.nil (PW.k4 0 3 19 21 rfl (PW.seq fun K3 hK3=>PW.ite (b:=false) rfl ?_)))
 rw[if_neg Bool.false_ne_true];refine PW.exit (hK1 _ _ (PW.k2 0 3 rfl (PW.seq fun K4 hK4=>PW.ae ?_)))
 refine OL.tell (k:=4) rfl (fun w hw=>hopen.close _ w hw) ?_
 refine OL.bZ (S':=[(ra,.gm (dU aP dK left))]::(GS m++S)) (Sub.drop (Sub.refl _)) (OL.x (Yields.pure rfl) (OL.x (Yields.cF rfl) (OL.dp rfl (OL.x (Yields.ld rfl (dz hS.cons)) (OL.c (OW.rngG (j:=3) (l:=m.nodes) Tryz.underlying109 rfl rfl) ?_)))));rintro _ _ ⟨ri,en,clk,rfl,hopen,hit0,rfl⟩;change OL _ _ _ _ _ ([(ri,.obj (.mapIter (some m.nb) clk #[] clk))]::[(ra,.gm (dU aP dK left))]::(GO m en clk++S)) _;refine OL.nil (PW.k2 3 34 rfl (PW.block (PW.k2 3 34 rfl ?_)));refine PW.aR (I:=fun mm T S'=>∃(seen:Array Nat) (done rest:List (ay×ck)) (left:List (ay×Int)),(It aP nodeV en seen m.nodes done rest/\(∀q∈left,er q.1)/\(∀u,lv left u=inN (plN done) u)/\mm=rest.length)/\T=([(3,.map (some ra)),(34,.pointer (some ⟨ri,0,none⟩))]:TT)/\S'=[(ri,.obj (.mapIter (some m.nb) clk seen clk))]::[(ra,.gm (dU aP dK left))]::(GO m en clk++S)) (m:=m.nodes.length) ⟨#[],[],m.nodes,left,⟨hit0,hlk,fun u=>(hall u).trans rfl,rfl⟩,rfl,rfl⟩ ?_
 rintro mm _ _ ⟨seen,done,rest,left,⟨hit,hlk,hall,hmm⟩,rfl,rfl⟩;refine PW.ae (OL.c (OW.nxtG (j:=0) (b:=m.nb) (l:=m.nodes) (done:=done) (rest:=rest) rfl rfl (GO_n (en:=en) (clk:=clk) (Over.app (b:=S)).cons.cons) hopen hit) ?_);refine fun v S' h=>Or.elim h.symm ?_ ?_
 ·skip;rintro⟨ii,p,qq,hri,rfl,hit2,rfl⟩;refine OL.x (Yields.pure rfl) (OL.nil (PW.k3 3 34 36 rfl (PW.seq fun K5 hK5=>PW.ite (b:=true) rfl ?_)))
  rw[if_pos rfl];refine PW.skip (hK5 _ _ (PW.k2 3 34 rfl (PW.block (PW.ae (OL.x (Yields.entG (b:=m.nb) rfl bF (GO_n (en:=en) (clk:=clk) (Over.app (b:=S)).cons.cons) hopen hit2) (OL.dp rfl (OL.c OW.al ?_)))))));rintro _ _ ⟨r6,rfl,rfl⟩;refine OL.c (node_st rfl rfl _ _ _ _) ?_;rintro _ _ rfl;obtain⟨v,n0⟩:=p;have hpm:=done_get hm hit.perm hri
  have hno:=hm.node _ hpm
  have hdl:=done_len hit2.perm
  change OL _ _ _ _ _ ([(r6,.cells (cB n0) 121 4)]::[(ri,.obj (.mapIter (some m.nb) clk (seen.push qq) clk))]::[(ra,.gm (dU aP dK left))]::(GO m en clk++S)) _;refine OL.nil (PW.k3 3 6 34 rfl (PW.ae (OL.dp rfl (OL.x (Yields.ld rfl (az (j:=3) (c:=cB n0) (E:=121) (tot:=4) bF rfl)) (OL.dp rfl ?_)))));have hdl1:n0.next.length<=1000000000:=by simp only at hdl;omega
  refine OL.x (Yields.pure rfl) (OL.nil (PW.k5 3 34 40 41 42 rfl (PW.block (PW.k5 3 34 40 41 42 rfl ?_))));refine PW.aR (I:=fun mi T S'=>∃(k:Nat) (left:List (ay×Int)),(k<=n0.next.length/\mi=n0.next.length-k/\(∀q∈left,er q.1)/\∀u,lv left u=inN (plN done) u+dJ u (n0.next.take k))/\T=([(3,.map (some ra)),(34,.pointer (some ⟨ri,0,none⟩)),(40,.slice n0.A n0.next.length n0.c),(41,.int .i64 (n0.next.length:Int)),(42,.int .i64 k)]:TT)/\S'=[(r6,.cells (cB n0) 121 4)]::[(ri,.obj (.mapIter (some m.nb) clk (seen.push qq) clk))]::[(ra,.gm (dU aP dK left))]::(GO m en clk++S)) (m:=n0.next.length) ⟨0,left,⟨by omega,by omega,hlk,fun u=>by rw[hall];simp[dJ]⟩,rfl,rfl⟩ ?_
  rintro mi _ _ ⟨k,left,⟨hk,hmi,hlk,hall2⟩,rfl,rfl⟩;refine PW.s1 rfl (PW.k6 3 34 40 41 42 43 rfl (PW.seq fun K6 hK6=>?_))
  refine PW.cond rfl (fun c43=>?_) (fun c43=>?_)
  ·try simp only[aD] at c43
   have hdl1:n0.next.length<=1000000000:=by simp only at hdl;omega
   have hkl:k<n0.next.length:=by omega
   obtain⟨a0,ha0⟩:=bE (l:=n0.next) hno.rd (by omega)
   have hrd2:Rd w0 ([(r6,.cells (cB n0) 121 4)]::[(ri,.obj (.mapIter (some m.nb) clk (seen.push qq) clk))]::[(ra,.gm (dU aP dK left))]::(GO m en clk++S)) (some a0) (aI n0.next):=by rw[<- ha0];exact Rd.go hno.rd (Over.both hX).cons.cons.cons
   refine PW.skip (hK6 _ _ (PW.k5 3 34 40 41 42 rfl (PW.seq fun K7 hK7=>PW.block (PW.ae ?_))))
   rw[ha0];refine OL.x (Yields.bO rfl rfl rfl (by omega)) (OL.x (Yields.aT rfl (aa _) (bS hrd2 hkl)) (OL.c OW.al ?_))
   rintro _ _ ⟨r8,rfl,rfl⟩;refine OL.c (vtx_st rfl rfl rfl) ?_;rintro _ _ rfl;obtain⟨w,hw⟩:∃z,z=n0.next[k]:=⟨_,rfl⟩
   rw[<- hw];have how:er w:=by rw[hw];exact hno.ok _ (List.getElem_mem hkl)
   have hlw:=hall2 w
   have hc1:=cntV_le w (tgts (plN done))
   have hc2:=cntV_le w (n0.next.take k)
   rw[List.length_take] at hc2;unfold inN at hlw;refine OL.nil (PW.k6 3 8 34 40 41 42 rfl ?_);refine PW.dy (Ss:=OpS aP dK left w 0 ra (bs r8 w::[(r6,.cells (cB n0) 121 4)]::[[(ri,.obj (.mapIter (some m.nb) clk (seen.push qq) clk))]]) (GO m en clk++S)) (fr:=false) [(0,0),(1,0),(2,0),(3,0),(4,2),(5,2)] mixed (by decide +kernel) (.inl rfl) (fun h=>by cases h) ?_
   refine GL.dp rfl ?_;refine GL.ak trivial (fun Sx hSx=>Yields.aT rfl (aa _) (av (c:=au w) (E:=27) (tot:=33) (hSx.over _ (by simp)))) ?_
   refine GL.ak trivial (fun Sx hSx=>Yields.lookOp (u:=w) Tryz.underlying153 hz1 hz2 dj hlk how how rfl rfl hSx) ?_
   refine GL.ak trivial (fun Sx hSx=>Yields.to (v':=dK (lv left w+1)) (Yields.ao rfl rfl (by show _<=lv left w+1;omega) (by show lv left w+1<=_;simp only at hdl;omega)) rfl) ?_
   refine GL.lo trivial (OW.mono (OW.entry (j:=3) (a:=w) (z:=(0:Int)) Tryz.underlying153 hz1 hz2 dj hlk how rfl rfl rfl) ?_);rintro _ _ ⟨en2,clk2,qq2,e2,rfl,hop2,hee2,heb2,hek2,rfl⟩;refine⟨.inr ⟨en2,clk2,hop2,rfl⟩,?_⟩;refine GL.lo trivial (OW.mono (OW.of_yields (Yields.pure rfl)) ?_);rintro _ _ ⟨rfl,rfl⟩;refine⟨.inr ⟨en2,clk2,hop2,rfl⟩,?_⟩;change OL _ _ _ [_] _ _ _;refine OL.c (OW.store (j:=3) (v:=lv left w+1) (fun a b=>vtx_inj') rfl rfl rfl hop2 hee2 heb2 hek2 rfl) ?_
   rintro _ _ rfl;change OL _ _ _ _ _ (bs r8 w::[(r6,.cells (cB n0) 121 4)]::[(ri,.obj (.mapIter (some m.nb) clk (seen.push qq) clk))]::[(ra,.gm (dU aP dK (dM (entL left w 0) w (lv left w+1))))]::(GO m en clk++S)) _;refine OL.nil (hK7 _ _ (PW.k5 3 34 40 41 42 rfl (PW.ops (OL.x (Yields.ao rfl rfl (by omega) (by omega)) ?_))))
   have hdl1:n0.next.length<=1000000000:=by simp only at hdl;omega
   refine OL.x (Yields.pure rfl) (OL.nil ?_);refine af.dE (Sub.drop (Sub.refl _)) (T'':=[(3,_),(34,_),(40,_),(41,_),(42,_)]) (wi rfl) ?_;rw[ha0];refine⟨n0.next.length-(k+1),by omega,k+1,dM (entL left w 0) w (lv left w+1),⟨by omega,rfl,put_ok hlk how,fun u=>?_⟩,rfl,rfl⟩
   rw[lv_put,cnt_take hkl,<- hw];have:=hall2 u
   by_cases hu:u=w
   ·subst hu;rw[if_pos rfl,if_pos rfl];omega
   rw[if_neg hu,if_neg hu];omega
  try simp only[aD] at c43
  refine PW.exit ?_;refine af.dE (Sub.drop (Sub.refl _)) (T'':=[(3,_),(34,_)]) (wi rfl) ?_;have hil:ii<rest.length:=(List.getElem?_eq_some_iff.1 hri).1
  refine⟨(rest.eraseIdx ii).length,by rw[List.length_eraseIdx,if_pos hil];omega,seen.push qq,done++[(v,n0)],rest.eraseIdx ii,left,⟨hit2,hlk,fun u=>?_,rfl⟩,rfl,rfl⟩
  rw[hall2,inN_snoc,List.take_of_length_le (by omega)]
 skip;rintro⟨hr0,rfl,rfl⟩;refine OL.x (Yields.pure rfl) (OL.nil (PW.k3 3 34 36 rfl (PW.seq fun K8 hK8=>PW.ite (b:=false) rfl ?_)))
 rw[if_neg Bool.false_ne_true];refine PW.exit (hK4 _ _ (PW.k1 3 rfl (PW.ae ?_)));refine OL.tell (k:=4) rfl (fun w hw=>hopen.close _ w hw) ?_
 refine OL.bZ (S':=[(ra,.gm (dU aP dK left))]::(GS m++S)) (Sub.drop (Sub.refl _)) (OL.x (Yields.pure rfl) (OL.n1 rfl (PW.k1 2 rfl ?_)));refine PW.ret (zR rfl ?_);refine⟨_,Sub.refl _,ra,left,rfl,rfl,hlk,fun u=>?_⟩
 rw[hall u];refine inN_perm ?_ u;have:=hit.perm
 rw[hr0,List.append_nil] at this;exact this.map _
end Go.Proofs.Gr

namespace Go.GP
open Go.SL
theorem mks_mdl_erase {β:Type}{l:List (ay×β)}(h:(bu l).Nodup) (a:ay):bu (mdl l a)=(bu l).erase a:=by
 rw[mks_mdl,h.erase_eq_filter];congr 1;funext c;by_cases e:a=c
 ·subst e;simp
 have:c≠a:=fun h=>e h.symm
 simp[e,this]
theorem mks_mdl_erase' {α β:Type}[DecidableEq α] {l:List (α×β)}(h:(bu l).Nodup) (a:α):bu (mdl l a)=(bu l).erase a:=by
 rw[mks_mdl,h.erase_eq_filter];congr 1;funext c;by_cases e:a=c
 ·subst e;simp
 have:c≠a:=fun h=>e h.symm
 simp[e,this]
theorem mdl_out {α β:Type}[DecidableEq α] {l:List (α×β)}{a:α}(h:a∉bu l):mdl l a=l:=by
 unfold mdl;rw[List.filter_eq_self];intro p hp;have:a≠p.1:=fun e=>h (e▸List.mem_map.2 ⟨p,hp,rfl⟩)
 simp[this]
theorem cntV_nil (u:ay):dJ u [] = 0:=by simp[dJ]
theorem inN_cons (p:ay×bK) (N:List (ay×bK)) (u:ay):inN (p::N) u=dJ u p.2.next+inN N u:=by
 unfold inN tgts;rw[List.flatMap_cons,cntV_app]
theorem inN_nonneg (N:List (ay×bK)) (u:ay):0<=inN N u:=(cntV_le u _).1
theorem inN_mdl {N:List (ay×bK)}(h:(bu N).Nodup) {v:ay}{n:bK}(hv:(v,n)∈N) (u:ay):inN N u=inN (mdl N v) u+dJ u n.next:=by
 induction N with
 |nil=>cases hv
 |cons p N ih=>
  have hn:(p.1::bu N).Nodup:=h
  obtain⟨h1,h2⟩:=List.nodup_cons.1 hn;rcases List.mem_cons.1 hv with rfl|hv
  ·have:mdl ((v,n)::N) v=N:=by
    have e:=mdl_out (l:=N) h1
    unfold mdl at e ⊢;rw[List.filter_cons];simp only[decide_true,Bool.not_true,Bool.false_eq_true,if_false];exact e
   rw[this,inN_cons]
   show dJ u n.next+inN N u=_
   omega
  have hne:v≠p.1:=fun e=>h1 (e▸List.mem_map.2 ⟨_,hv,rfl⟩)
  have:mdl (p::N) v=p::mdl N v:=by
   unfold mdl;rw[List.filter_cons];simp[hne]
  rw[this,inN_cons,inN_cons,ih h2 hv];omega
theorem inN_pos {N:List (ay×bK)}{u:ay}:0<inN N u↔∃p∈N,u∈p.2.next:=by
 unfold inN dJ tgts;rw[show(0:Int)<((List.count u (List.flatMap (fun p=>p.2.next) N):Nat):Int)↔0<List.count u (List.flatMap (fun p=>p.2.next) N) by omega,List.count_pos_iff,List.mem_flatMap]
structure Kahn (lt:ay->ay->Bool) (N rem:List (ay×bK)) (q:List ay) (cnt:ay->Int) (out pend:List ay):Prop where
 nn:(bu N).Nodup
 nd:(bu rem).Nodup
 sub:∀p∈rem,p∈N
 ct:∀u,cnt u=inN rem u+dJ u pend
 qn:q.Nodup
 qm:∀u,u∈q↔u∈bu rem/\cnt u=0
 topo:∀L,eZ lt (EG N) (bu rem) L->eZ lt (EG N) (bu N) (out++L)
 zero:∀u∈out,cnt u=0
 key:∀u∈bu N,u∈out∨u∈bu rem
variable {lt:ay->ay->Bool}{N rem:List (ay×bK)}{q out pend:List ay}{cnt:ay->Int}{w:ay}
theorem Kahn.free (K:Kahn lt N rem q cnt out pend) (u:ay):Free (EG N) (bu rem) u↔inN rem u=0:=by
 constructor
 ·intro h;have:=inN_nonneg rem u
  refine Classical.byContradiction fun hne=>?_
  obtain⟨p,hp,hu⟩:=inN_pos.1 (show 0<inN rem u by omega)
  refine h (p.1,u) ?_ rfl (List.mem_map.2 ⟨p,hp,rfl⟩);unfold EG;exact List.mem_flatMap.2 ⟨p,K.sub p hp,List.mem_map.2 ⟨u,hu,rfl⟩⟩
 intro h e he heu hm;obtain⟨p,hp,hpe⟩:=List.mem_map.1 hm;obtain⟨p',hp',w,hw,rfl⟩:∃p'∈N,∃w,w∈p'.2.next/\(p'.1,w)=e:=by
  unfold EG at he;obtain⟨p',h1,h2⟩:=List.mem_flatMap.1 he;obtain⟨w,h3,h4⟩:=List.mem_map.1 h2;exact⟨p',h1,w,h3,h4⟩
 have hpp:p=p':=by
  have h1:=(mgt_mem K.nn).2 (show(p.1,p.2)∈N from K.sub p hp)
  have h2:=(mgt_mem K.nn).2 (show(p'.1,p'.2)∈N from hp')
  rw[show p.1=p'.1 from hpe,h2] at h1
  exact Prod.ext hpe (Option.some.inj h1).symm
 subst hpp;have:0<inN rem u:=inN_pos.2 ⟨p,hp,heu▸hw⟩
 omega
theorem Kahn.pop (K:Kahn lt N rem q cnt out []) {v:ay}{n:bK}{q':List ay}(hq:(v::q').Perm q) (hmin:∀x∈q,lt x v=false) (hv:(v,n)∈N) :
  Kahn lt N (mdl rem v) q' cnt (out++[v]) n.next:=by
 obtain⟨hvr,hv0⟩:=(K.qm v).1 (hq.mem_iff.1 (by simp))
 obtain⟨p,hp,hpv⟩:=List.mem_map.1 hvr;have hvn:(v,n)∈rem:=by
  have h1:=(mgt_mem K.nn).2 (show(p.1,p.2)∈N from K.sub p hp)
  have h2:=(mgt_mem K.nn).2 hv
  rw[hpv,h2] at h1;have:p=(v,n):=Prod.ext hpv (Option.some.inj h1).symm
  exact this▸hp
 have hc:∀u,cnt u=inN (mdl rem v) u+dJ u n.next:=fun u=>by
  rw[K.ct,cntV_nil,inN_mdl K.nd hvn];omega
 have hmk:=mks_mdl_erase K.nd v
 have hqn:(v::q').Nodup:=hq.nodup_iff.2 K.qn
 refine⟨K.nn,mdl_nodup K.nd v,fun p hp=>K.sub p (List.mem_filter.1 hp).1,hc,(List.nodup_cons.1 hqn).2,fun u=>?_,fun L hL=>?_,fun u hu=>?_,fun u hu=>?_⟩
 ·rw[hmk,K.nd.mem_erase_iff];constructor
  ·intro hu;have h1:=(K.qm u).1 (hq.mem_iff.1 (List.mem_cons_of_mem _ hu))
   exact⟨⟨fun e=>(List.nodup_cons.1 hqn).1 (e▸hu),h1.1⟩,h1.2⟩
  rintro⟨⟨h1,h2⟩,h3⟩;have:=hq.mem_iff.2 ((K.qm u).2 ⟨h2,h3⟩)
  rcases List.mem_cons.1 this with h|h
  ·exact absurd h h1
  exact h
 ·rw[List.append_assoc];refine K.topo _ (.cons hvr ((K.free v).2 ?_) (fun u hu hf=>?_) (by rw[mks_mdl_erase' K.nd v] at hL;exact hL))
  ·have:=K.ct v;rw[cntV_nil] at this;omega
  refine hmin u ((K.qm u).2 ⟨hu,?_⟩);have:=(K.free u).1 hf
  have h2:=K.ct u;rw[cntV_nil] at h2;omega
 ·rcases List.mem_append.1 hu with h|h
  ·exact K.zero u h
  rw[List.mem_singleton.1 h];exact hv0
 rcases K.key u hu with h|h
 ·exact .inl (List.mem_append_left _ h)
 by_cases e:u=v
 ·exact .inl (List.mem_append_right _ (by simp[e]))
 exact .inr (by rw[hmk,K.nd.mem_erase_iff];exact⟨e,h⟩)
theorem cntV_hd (u w:ay) (l:List ay):dJ u (w::l)=dJ u l+if u=w then 1 else 0:=by
 rw[cntV_cons];by_cases h:w=u
 ·rw[if_pos h,if_pos h.symm]
 rw[if_neg h,if_neg (fun e=>h e.symm)]
theorem Kahn.dec (K:Kahn lt N rem q cnt out (w::pend)) {cnt':ay->Int}(hc:∀u,cnt' u=if u=w then cnt w-1 else cnt u) {q':List ay}
  (hq:if w∈bu N/\cnt w=1 then q'.Perm (w::q) else q'=q):Kahn lt N rem q' cnt' out pend:=by
 have hw1:1<=cnt w:=by
  have:=K.ct w
  rw[cntV_hd,if_pos rfl] at this;have h1:=inN_nonneg rem w
  have h2:=(cntV_le w pend).1
  omega
 have hwo:w∉out:=fun h=>by have:=K.zero w h;omega
 have hwq:w∉q:=fun h=>by have:=((K.qm w).1 h).2;omega
 have hcnt:∀u,cnt' u=inN rem u+dJ u pend:=fun u=>by
  rw[hc];have:=K.ct u
  rw[cntV_hd] at this;by_cases e:u=w
  ·subst e;rw[if_pos rfl] at this ⊢;omega
  rw[if_neg e] at this ⊢;omega
 have hz:∀u,u≠w->cnt' u=cnt u:=fun u hu=>by rw[hc,if_neg hu]
 refine⟨K.nn,K.nd,K.sub,hcnt,?_,fun u=>?_,K.topo,fun u hu=>?_,K.key⟩
 ·split at hq
  ·exact hq.nodup_iff.2 (List.nodup_cons.2 ⟨hwq,K.qn⟩)
  rw[hq];exact K.qn
 ·by_cases e:u=w
  ·subst e;have h1:cnt' u=cnt u-1:=by rw[hc,if_pos rfl]
   split at hq
   ·rename_i hh;constructor
    ·intro _;exact⟨(K.key u hh.1).resolve_left hwo,by omega⟩
    intro _;exact hq.mem_iff.2 (by simp)
   rename_i hh;rw[hq];constructor
   ·intro h;exact absurd h hwq
   rintro⟨h2,h3⟩;refine absurd ⟨?_,by omega⟩ hh
   obtain⟨p,hp,rfl⟩:=List.mem_map.1 h2;exact List.mem_map.2 ⟨p,K.sub p hp,rfl⟩
  rw[hz u e,<- K.qm u];split at hq
  ·rw[hq.mem_iff];simp[e]
  rw[hq]
 have:u≠w:=fun e=>hwo (e▸hu)
 rw[hz u this];exact K.zero u hu
theorem Kahn.fin (K:Kahn lt N rem [] cnt out []):eZ lt (EG N) (bu N) out:=by
 have:=K.topo [] (.nil fun v hv hf=>?_)
 ·simpa using this
 have h1:=(K.free v).1 hf
 have h2:=K.ct v
 rw[cntV_nil] at h2;exact absurd ((K.qm v).2 ⟨hv,by omega⟩) (by simp)
end Go.GP

namespace Go.Proofs.Gr
open Go.SL Go.RowKit Go.Proofs Go.GP Go.HP
theorem cb_cons (a b:UInt8) (l r:List UInt8):Lib.compareBytes (a::l) (b::r)=if a.toNat<b.toNat then -1 else if b.toNat<a.toNat then 1 else Lib.compareBytes l r:=by
 show(if a<b then(-1:Int) else if b<a then 1 else Lib.compareBytes l r)=_
 simp only[UInt8.lt_iff_toNat_lt]
theorem cb_neg:∀a b:List UInt8,Lib.compareBytes b a=-Lib.compareBytes a b
 |[],[]=>rfl
 |[],_::_=>rfl
 |_::_,[]=>rfl
 |a::l,b::r=>by
  rw[cb_cons,cb_cons,cb_neg l r];split<;>split<;>(try split)<;>omega
theorem cb_eq:∀{a b:List UInt8},Lib.compareBytes a b=0->a=b
 |[],[],_=>rfl
 |[],_::_,h=>by simp[Lib.compareBytes] at h
 |_::_,[],h=>by simp[Lib.compareBytes] at h
 |a::l,b::r,h=>by
  rw[cb_cons] at h;split at h
  ·omega
  split at h
  ·omega
  rw[cb_eq h,UInt8.toNat_inj.1 (show a.toNat=b.toNat by omega)]
theorem cb_trans:∀{a b c:List UInt8},Lib.compareBytes a b<=0->Lib.compareBytes b c<=0->Lib.compareBytes a c<=0/\(Lib.compareBytes a c=0->Lib.compareBytes a b=0/\Lib.compareBytes b c=0)
 |[],[],[],_,_=>by decide
 |[],[],_::_,_,_=>by simp[Lib.compareBytes]
 |[],_::_,[],_,h=>by simp[Lib.compareBytes] at h
 |[],_::_,_::_,_,_=>by simp[Lib.compareBytes]
 |_::_,[],_,h,_=>by simp[Lib.compareBytes] at h
 |_::_,_::_,[],_,h=>by simp[Lib.compareBytes] at h
 |a::l,b::r,c::s,h1,h2=>by
  rw[cb_cons] at h1 h2 ⊢;rw[cb_cons,cb_cons];by_cases x1:a.toNat<b.toNat
  ·by_cases x2:b.toNat<c.toNat
   ·rw[if_pos (show a.toNat<c.toNat by omega)];omega
   rw[if_neg x2] at h2;by_cases x3:c.toNat<b.toNat
   ·rw[if_pos x3] at h2;omega
   rw[if_pos (show a.toNat<c.toNat by omega)];omega
  rw[if_neg x1] at h1;by_cases x4:b.toNat<a.toNat
  ·rw[if_pos x4] at h1;omega
  rw[if_neg x4] at h1;by_cases x2:b.toNat<c.toNat
  ·rw[if_pos (show a.toNat<c.toNat by omega)];omega
  rw[if_neg x2] at h2;by_cases x3:c.toNat<b.toNat
  ·rw[if_pos x3] at h2;omega
  rw[if_neg x3] at h2;rw[if_neg (show ¬a.toNat<c.toNat by omega),if_neg (show ¬c.toNat<a.toNat by omega),if_neg x1,if_neg x4,if_neg x2,if_neg x3]
  exact cb_trans h1 h2
theorem ordV_def (a b:ay):ordV a b=if Lib.compareBytes a.1.1 b.1.1≠0 then Lib.compareBytes a.1.1 b.1.1 else cmpI a.2 b.2:=by
 unfold ordV orL orL orL;by_cases h:Lib.compareBytes a.1.1 b.1.1≠0
 ·rw[if_pos h,if_pos h]
 rw[if_neg h,if_neg h];by_cases h2:cmpI a.2 b.2≠0
 ·rw[if_pos h2]
 rw[if_neg h2];omega
theorem ordV_neg (a b:ay):ordV b a=-ordV a b:=by
 rw[ordV_def,ordV_def,cb_neg];have:cmpI b.2 a.2=-cmpI a.2 b.2:=by unfold cmpI;split<;>split<;>(try split)<;>omega
 rw[this];split<;>split<;>omega
theorem ordV_eq {a b : ay} (h : ordV a b = 0) : a = b := by
  rw [ordV_def] at h
  split at h
  · omega
  rename_i h1
  have e1 := cb_eq (Classical.not_not.1 h1)
  have e2 : a.2 = b.2 := by unfold cmpI at h; split at h; · omega
                            split at h <;> omega
  exact Prod.ext (Subtype.ext e1) e2
theorem ordV_trans {a b c:ay}(h1:ordV a b<=0) (h2:ordV b c<=0):ordV a c<=0:=by
 rw[ordV_def] at h1 h2 ⊢;have k1:Lib.compareBytes a.1.1 b.1.1<=0:=by split at h1<;>omega
 have k2:Lib.compareBytes b.1.1 c.1.1<=0:=by split at h2<;>omega
 obtain⟨k3,k4⟩:=cb_trans k1 k2;split
 ·exact k3
 rename_i h3;obtain⟨e1,e2⟩:=k4 (Classical.not_not.1 h3);rw[if_neg (by rw[e1];simp)] at h1
 rw[if_neg (by rw[e2];simp)] at h2
 unfold cmpI at h1 h2 ⊢;split at h1<;>split at h2<;>(try split at h1)<;>(try split at h2)<;>split<;>(try split)<;>omega
theorem dN:Ord cy where
 asymm:=fun a b h=>by
  unfold cy at h ⊢;have:=ordV_neg a b
  simp only[decide_eq_true_eq,decide_eq_false_iff_not] at h ⊢;omega
 trans:=fun a b c h1 h2=>by
  unfold cy at h1 h2 ⊢;simp only[decide_eq_false_iff_not] at h1 h2 ⊢;have e1:=ordV_neg a b
  have e2:=ordV_neg b c
  have e3:=ordV_neg a c
  have:=ordV_trans (a:=a) (b:=b) (c:=c) (by omega) (by omega)
  omega
theorem ltV_tot (a b:ay) (h1:cy a b=false) (h2:cy b a=false):a=b:=by
 unfold cy at h1 h2;simp only[decide_eq_false_iff_not] at h1 h2;have:=ordV_neg a b
 exact ordV_eq (by omega)
end Go.Proofs.Gr

namespace Go.Proofs.Gr
open Go.SL Go.RowKit Go.Proofs Go.GP
set_option maxHeartbeats 1000000
open Go.HP
structure aG where
 v:ay
 text:ByteArray
 alive:Bool
def bq (l:aG):List Value:=au l.v++[.string l.text,.bool l.alive]
def lineV (l:aG):Value:=.agg (bq l).toArray
def lines (l:List aG):List Value:=l.flatMap bq
theorem aJ (l:aG):(bq l).length=35:=by simp[bq,aa]
theorem eT (l:List aG):(lines l).length=l.length*35:=by unfold lines;rw[List.length_flatMap];simp[aJ,List.map_const']
theorem eW (l:aG):(bq l).all (·.oneCell')=true:=by rw[bq,List.all_append,bL];rfl
theorem lines_snoc (l:List aG) (x:aG):lines (l++[x])=lines l++bq x:=by unfold lines;simp
def z35:List Value:=z33++[.string ⟨#[]⟩,.bool false]
theorem fill_line {T:TT}{v:ay}{s:ByteArray}{al:Bool}{a b c:Nat}(h1:Go.SL.look T a=some (aP v)) (h2:Go.SL.look T b=some (.string s)) (h3:Go.SL.look T c=some (.bool al)):dw T z35 [(0,33,.t a),(33,1,.t b),(34,1,.t c)] = some (bq ⟨v,s,al⟩):=by
 have hv:=aa v
 have e0:(aP v).cells.size=33:=(List.size_toArray).trans hv
 have f1:setAt z35 0 (au v)=au v++[.string ⟨#[]⟩,.bool false]:=by
  rw[bU _ _ _ (by rw[hv];decide),hv]
  rfl
 have f2:setAt (au v++[Value.string ⟨#[]⟩,.bool false]) 33 [.string s] = au v++[.string s,.bool false]:=by
  rw[bU _ _ _ (by simp[hv]),List.take_append_of_le_length (by omega),List.take_of_length_le (by omega),List.drop_append,List.drop_eq_nil_of_le (by simp[hv])]
  simp[hv]
 have f3:setAt (au v++[Value.string s,.bool false]) 34 [.bool al] = au v++[.string s,.bool al]:=by
  rw[bU _ _ _ (by simp[hv]),List.take_append,List.take_of_length_le (by omega)]
  simp[hv]
 simp only[dw,PV.val,h1,h2,h3];rw[if_pos ⟨e0,by decide⟩]
 rw[show(aP v).cells.toList=au v from rfl,f1,if_pos ⟨rfl,by simp[hv]⟩,show(Value.string s).cells.toList=[.string s] from rfl,f2,if_pos ⟨rfl,by simp[hv]⟩,show(Value.bool al).cells.toList=[.bool al] from rfl]
 exact congrArg some f3
def lineOf (N:List (ay×bK)) (v:ay):aG:=⟨v,(nd N v).text,decide ((nd N v).gone=0)⟩
theorem filter_snoc (A:List (ay×ck)) (p:ay×ck) (f:ay->Bool):(bu (A++[p])).filter f=(bu A).filter f++(if f p.1 then [p.1] else []):=by
 unfold bu;rw[List.map_append,List.filter_append];congr 1;simp only[List.map_cons,List.map_nil,List.filter_cons,List.filter_nil]
end Go.Proofs.Gr

namespace Go.Proofs.Gr
open Go.SL Go.RowKit Go.Proofs Go.GP Go.Proofs.Tryz
set_option maxHeartbeats 1000000
open Go.HP
theorem kahn_start {w0:World}{X:SS}{m:dV}(hm:GOk w0 X m) {left:List (ay×Int)}{q:List ay}{done:List (ay×ck)}(hd:done.Perm m.nodes) (hlv:∀u,lv left u=inN m.gr.nodes u) (hq:q.Perm ((bu done).filter fun u=>decide (lv left u=0))) :
  Kahn cy m.gr.nodes m.gr.nodes q (lv left) [] []:=by
 have hk:bu m.gr.nodes=bu m.nodes:=eV _
 have hn:(bu m.gr.nodes).Nodup:=by rw[hk];exact hm.nkd
 have hdk:(bu done).Perm (bu m.nodes):=hd.map _
 refine⟨hn,hn,fun p hp=>hp,fun u=>by rw[hlv,cntV_nil];omega,hq.nodup_iff.2 ((hdk.nodup_iff.2 hm.nkd).filter _),fun u=>?_,fun L hL=>by simpa using hL,fun u hu=>by simp at hu,fun u hu=>.inr hu⟩
 rw[hq.mem_iff,List.mem_filter,hdk.mem_iff,hk];simp
theorem nd_mem {w0:World}{X:SS}{m:dV}(hm:GOk w0 X m) {v:ay}(hv:v∈bu m.nodes):(v,((fo m.nodes v).getD zM).pl)∈m.gr.nodes/\nd m.gr.nodes v=((fo m.nodes v).getD zM).pl:=by
 obtain⟨n,hn⟩:=mem_mks.1 hv;refine⟨?_,nd_plN _ _⟩;rw[hn];exact List.mem_map.2 ⟨(v,n),dZ hn,rfl⟩
theorem nodup_le:∀{l l':List ay},l.Nodup->(∀x∈l,x∈l')->l.length<=l'.length
 |[],l',_,_=>by simp
 |a::l,l',hn,h=>by
  obtain⟨h1,h2⟩:=List.nodup_cons.1 hn;have ha:a∈l':=h a (by simp)
  have:=nodup_le (l:=l) (l':=l'.erase a) h2 (fun x hx=>by
   have hne:x≠a:=fun e=>h1 (e▸hx)
   exact(List.mem_erase_of_ne hne).2 (h x (by simp[hx])))
  rw[List.length_erase_of_mem ha] at this;have hp:0<l'.length:=List.length_pos_of_mem ha
  simp only[List.length_cons];omega
theorem kahn_qlen {lt:ay->ay->Bool}{N rem:List (ay×bK)}{q out pend:List ay}{cnt:ay->Int}(K:Kahn lt N rem q cnt out pend):q.length<=N.length:=by
 have:=nodup_le (l':=bu N) K.qn (fun x hx=>by
  obtain⟨p,hp,rfl⟩:=List.mem_map.1 ((K.qm x).1 hx).1;exact List.mem_map.2 ⟨p,K.sub p hp,rfl⟩)
 unfold bu at this
 rwa [List.length_map] at this
theorem kahn_one {lt:ay->ay->Bool}{N rem:List (ay×bK)}{q out pend:List ay}{cnt:ay->Int}{w:ay}(K:Kahn lt N rem q cnt out (w::pend)):1<=cnt w:=by
 have:=K.ct w
 rw[cntV_hd,if_pos rfl] at this;have h1:=inN_nonneg rem w
 have h2:=(cntV_le w pend).1
 omega
theorem rem_len {N:List (ay×bK)}{v:ay}(hn:(bu N).Nodup) (hv:v∈bu N):(mdl N v).length+1=N.length:=by
 have h:=mks_mdl_erase hn v
 have:=congrArg List.length h
 rw[List.length_erase_of_mem hv] at this;have hp:0<(bu N).length:=List.length_pos_of_mem hv
 unfold bu at this hp;simp only[List.length_map] at this hp;omega
theorem lines_fc {w0:World}{S X:SS}{m:dV}(hm:GOk w0 X m) (hX:Over X S) (hE:(EG m.gr.nodes).length<=1000000000) (hN:m.nodes.length<=1000000000) (hT:∀e∈EG m.gr.nodes,e.2∈bu m.nodes∨e.2=bQ) (hend:bQ∉bu m.nodes) :
  FC prog w0 38 [m.ptr] (GS m++S) (fun v S'=>∃seg out,S'=seg::(GS m++S)/\eZ cy (EG m.gr.nodes) (bu m.gr.nodes) out/\aV 99 35 v out.length (lines (out.map (lineOf m.gr.nodes))) seg):=by
 have hS:Over (GS m++X) (GS m++S):=Over.both hX
 obtain⟨z,hz1,hz2⟩:=zero3;obtain⟨y,hy1,hy2⟩:=zero100;have hml:=hm.lim
 have hb00:∀u,inN m.gr.nodes u<=1000000000:=fun u=>by unfold inN;have:=(cntV_le u (tgts m.gr.nodes)).2;rw[tgts_len] at this;omega
 refine FC.ofD known38 (by simp) ?_
 unfold pc38;simp only[bo];refine PW.s1 rfl (PW.k2 0 2 rfl (PW.seq fun K1 hK1=>PW.ae (OL.dp rfl (OL.q rfl (is_fc hS) (OL.n1 rfl (PW.k3 0 2 13 rfl (PW.ite (b:=false) rfl ?_)))))))
 rw[if_neg Bool.false_ne_true];refine PW.skip (hK1 _ _ (PW.k2 0 2 rfl (PW.ae (OL.dp rfl (OL.l rfl (ahead_fc hm hX hE) ?_)))));rintro _ _ ⟨ra,left,rfl,rfl,hlk,hlv⟩;have hb0:∀u,lv left u<=1000000000:=fun u=>by rw[hlv];exact hb00 u
 refine OL.n1 rfl (PW.k3 0 2 3 rfl (PW.ae (OL.c OW.bsl0 ?_)));rintro _ _ ⟨r16,rfl,rfl⟩;refine OL.c (OW.bx rfl) ?_;rintro _ _ ⟨r17,rfl,rfl⟩;change OL _ _ _ _ _ (dn r17 (.slice (some ⟨r16,0,none⟩) 0 0)::[(r16,.cells [] 27 0)]::[(ra,.gm (dU aP dK left))]::(GS m++S)) _;have hs0:aV 27 33 (.slice (some ⟨r16,0,none⟩) 0 0) ([]:List ay).length (aI []) [(r16,.cells [] 27 0)]:=aV.mk' (cap:=0) rfl (Nat.le_refl 0) (by decide)
 obtain⟨vq,hvq⟩:∃z:Value,z=.slice (some ⟨r16,0,none⟩) 0 0:=⟨_,rfl⟩;obtain⟨sgq,hsgq⟩:∃z:bD,z=[(r16,.cells [] 27 0)]:=⟨_,rfl⟩;rw[<- hvq,<- hsgq] at hs0 ⊢;refine OL.n1 rfl (PW.k4 0 2 3 4 rfl (PW.seq fun K2 hK2=>PW.ae (OL.dp rfl (OL.x (Yields.cF rfl) (OL.dp rfl (OL.x (Yields.ld rfl (dz hS.cons.cons.cons)) (OL.c (OW.rngG (j:=5) (l:=m.nodes) Tryz.underlying109 rfl rfl) ?_)))))))
 rintro _ _ ⟨ri,en,clk,rfl,hopen,hit0,rfl⟩;change OL _ _ _ _ _ ([(ri,.obj (.mapIter (some m.nb) clk #[] clk))]::dn r17 vq::sgq::[(ra,.gm (dU aP dK left))]::(GO m en clk++S)) _;refine OL.bZ (S':=dn r17 vq::sgq::[(ri,.obj (.mapIter (some m.nb) clk #[] clk))]::[(ra,.gm (dU aP dK left))]::(GO m en clk++S)) (Sub.ec [1,2,0] 3 (by decide) ([(ri,.obj (.mapIter (some m.nb) clk #[] clk))]::dn r17 vq::sgq::[(ra,.gm (dU aP dK left))]::(GO m en clk++S))) (OL.nil (PW.k5 0 2 3 4 22 rfl (PW.block (PW.k5 0 2 3 4 22 rfl ?_))))
 refine PW.aR (I:=fun mm T S'=>∃(seen:Array Nat) (done rest:List (ay×ck)) (q:List ay) (vq:Value) (sgq:bD),(It aP nodeV en seen m.nodes done rest/\aV 27 33 vq q.length (aI q) sgq/\Hp cy q q.length/\q.Perm ((bu done).filter fun u=>decide (lv left u=0))/\mm=rest.length)/\T=([(0,m.ptr),(2,.slice none 0 0),(3,.map (some ra)),(4,.pointer (some ⟨r17,0,none⟩)),(22,.pointer (some ⟨ri,0,none⟩))]:TT)/\S'=dn r17 vq::sgq::[(ri,.obj (.mapIter (some m.nb) clk seen clk))]::[(ra,.gm (dU aP dK left))]::(GO m en clk++S)) (m:=m.nodes.length) ⟨#[],[],m.nodes,[],vq,sgq,⟨hit0,hs0,(fun k h0 hk=>by simp at hk),.nil,rfl⟩,rfl,rfl⟩ ?_
 rintro mm _ _ ⟨seen,done,rest,q,vq,sgq,⟨hit,hsq,hhp,hqp,hmm⟩,rfl,rfl⟩;have hql:q.length<=done.length:=by have h1:=hqp.length_eq;have h2:=List.length_filter_le (fun u=>decide (lv left u=0)) (bu done);unfold bu at h1 h2;rw[List.length_map] at h2;omega
 refine PW.ae (OL.c (OW.nxtG (j:=2) (b:=m.nb) (l:=m.nodes) (done:=done) (rest:=rest) rfl rfl (GO_n (en:=en) (clk:=clk) (Over.app (b:=S)).cons.cons.cons.cons) hopen hit) ?_);refine fun v S' h=>Or.elim h.symm ?_ ?_
 ·skip;rintro⟨ii,p,qq,hri,rfl,hit2,rfl⟩;refine OL.x (Yields.pure rfl) (OL.nil (PW.k6 0 2 3 4 22 24 rfl (PW.seq fun K3 hK3=>PW.ite (b:=true) rfl ?_)))
  rw[if_pos rfl];refine PW.skip (hK3 _ _ (PW.k5 0 2 3 4 22 rfl (PW.block (PW.ae (OL.x (Yields.entG (b:=m.nb) rfl zM2 (GO_n (en:=en) (clk:=clk) (Over.app (b:=S)).cons.cons.cons.cons) hopen hit2) (OL.dp rfl (OL.c OW.al ?_)))))));rintro _ _ ⟨r5,rfl,rfl⟩;refine OL.c (vtx_st rfl rfl rfl) ?_;rintro _ _ rfl;obtain⟨v,n0⟩:=p;have hpm:=done_get hm hit.perm hri
  have hov:er v:=hm.nk _ hpm
  have hdl:done.length<=m.nodes.length:=by have:=hit.perm.length_eq;rw[List.length_append] at this;omega
  change OL _ _ _ _ _ (bs r5 v::dn r17 vq::sgq::[(ri,.obj (.mapIter (some m.nb) clk (seen.push qq) clk))]::[(ra,.gm (dU aP dK left))]::(GO m en clk++S)) _;refine OL.nil (PW.k6 0 2 3 4 5 22 rfl (PW.ae (OL.dp rfl (OL.x (Yields.aT rfl (aa _) (av bF)) (OL.x (Yields.lookG (okc:=false) (a:=v) Tryz.underlying153 hz1 hz2 dj hlk hov rfl rfl zM4) (OL.n1 rfl (PW.k7 0 2 3 4 5 22 30 rfl ?_)))))));refine PW.cond rfl (fun c30=>?_) (fun c30=>?_)
  ·try simp only[aD] at c30
   have hz0:lv left v=0:=c30
   refine PW.bZ (S':=dn r17 vq::sgq::bs r5 v::[(ri,.obj (.mapIter (some m.nb) clk (seen.push qq) clk))]::[(ra,.gm (dU aP dK left))]::(GO m en clk++S)) (Sub.ec [1,2,0] 3 (by decide) (bs r5 v::dn r17 vq::sgq::[(ri,.obj (.mapIter (some m.nb) clk (seen.push qq) clk))]::[(ra,.gm (dU aP dK left))]::(GO m en clk++S))) (PW.ops (OL.dp rfl (OL.x (Yields.mkI rfl) (OL.x (Yields.aT rfl (aa _) (av (c:=au v) (E:=27) (tot:=33) zM2)) (OL.x (Yields.mkI rfl) (OL.l rfl (hpush_fc (x:=v) hsq (by omega)) ?_))))))
   rintro _ _ ⟨rfl,v35,sg35,rfl,hs35⟩;refine OL.nil ?_;refine af.dE (Sub.ec [0,1] 3 (by decide) _) (T'':=[(0,_),(2,_),(3,_),(4,_),(22,_)]) (wi rfl) ?_
   have hil:ii<rest.length:=(List.getElem?_eq_some_iff.1 hri).1
   obtain⟨hp1,hp2⟩:=pushL_spec dN hhp v;refine⟨(rest.eraseIdx ii).length,by rw[List.length_eraseIdx,if_pos hil];omega,seen.push qq,done++[(v,n0)],rest.eraseIdx ii,pushL cy q v,v35,sg35,⟨hit2,hs35,hp1,?_,rfl⟩,rfl,rfl⟩
   rw[filter_snoc,if_pos (by simpa using hz0)]
   exact hp2.trans ((List.Perm.cons v hqp).trans (List.perm_append_singleton v _).symm)
  try simp only[aD] at c30
  have hz0:¬lv left v=0:=c30
  refine PW.bZ (S':=dn r17 vq::sgq::bs r5 v::[(ri,.obj (.mapIter (some m.nb) clk (seen.push qq) clk))]::[(ra,.gm (dU aP dK left))]::(GO m en clk++S)) (Sub.ec [1,2,0] 3 (by decide) (bs r5 v::dn r17 vq::sgq::[(ri,.obj (.mapIter (some m.nb) clk (seen.push qq) clk))]::[(ra,.gm (dU aP dK left))]::(GO m en clk++S))) (PW.skip ?_)
  refine af.dE (Sub.ec [0,1] 3 (by decide) _) (T'':=[(0,_),(2,_),(3,_),(4,_),(22,_)]) (wi rfl) ?_
  have hil:ii<rest.length:=(List.getElem?_eq_some_iff.1 hri).1
  refine⟨(rest.eraseIdx ii).length,by rw[List.length_eraseIdx,if_pos hil];omega,seen.push qq,done++[(v,n0)],rest.eraseIdx ii,q,vq,sgq,⟨hit2,hsq,hhp,?_,rfl⟩,rfl,rfl⟩
  rw[filter_snoc,if_neg (by simpa using hz0),List.append_nil]
  exact hqp
 skip;rintro⟨hr0,rfl,rfl⟩;refine OL.tell (k:=6) rfl (fun w hw=>hopen.close _ w hw) ?_
 refine OL.bZ (S':=dn r17 vq::sgq::[]::[(ra,.gm (dU aP dK left))]::(GS m++S)) ((Sub.cons (Sub.cons (Sub.cL (Sub.refl _)))).trans (Sub.ec [0,1,3] 4 (by decide) (dn r17 vq::sgq::[(ri,.obj (.mapIter (some m.nb) clk seen clk))]::[(ra,.gm (dU aP dK left))]::(GS m++S)))) (OL.x (Yields.pure rfl) (OL.nil (PW.k6 0 2 3 4 22 24 rfl (PW.seq fun K4 hK4=>PW.ite (b:=false) rfl ?_))))
 rw[if_neg Bool.false_ne_true];refine PW.exit (hK2 _ _ (PW.k4 0 2 3 4 rfl (PW.seq fun K5 hK5=>PW.block (PW.k4 0 2 3 4 rfl ?_))))
 refine PW.aR (I:=fun mm T S'=>∃(q:List ay) (vq:Value) (sgq:bD) (out:List ay) (vout:Value) (sgo:bD) (left:List (ay×Int)) (rem:List (ay×bK)),(Kahn cy m.gr.nodes rem q (lv left) out []/\Hp cy q q.length/\aV 27 33 vq q.length (aI q) sgq/\aV 99 35 vout out.length (lines (out.map (lineOf m.gr.nodes))) sgo/\(∀q∈left,er q.1)/\(∀u,lv left u<=1000000000)/\mm=rem.length/\out.length+rem.length<=1000000000)/\T=([(0,m.ptr),(2,vout),(3,.map (some ra)),(4,.pointer (some ⟨r17,0,none⟩))]:TT)/\S'=dn r17 vq::sgq::sgo::[(ra,.gm (dU aP dK left))]::(GS m++S)) (m:=m.nodes.length) ⟨q,vq,sgq,[],_,[],left,m.gr.nodes,⟨kahn_start hm (by have:=hit.perm;rwa [hr0,List.append_nil] at this) hlv hqp,hhp,hsq,aV.nil 99 35,hlk,hb0,(List.length_map _).symm,by rw[show m.gr.nodes.length=m.nodes.length from List.length_map _];simpa using hN⟩,rfl,rfl⟩ ?_
 rintro mm _ _ ⟨q,vq,sgq,out,vout,sgo,left,rem,⟨hK,hhp,hsq,hso,hlk,hb,hmm,hor⟩,rfl,rfl⟩;obtain⟨Aq,cq,rfl,-,-,-⟩:=aF (w0:=w0) hsq;have hqb:q.length<=1000000000:=by have:=kahn_qlen hK;have e:m.gr.nodes.length=m.nodes.length:=List.length_map _;omega
 refine PW.seq fun K6 hK6=>PW.ae (OL.dp rfl (OL.x (Yields.cF rfl) (OL.x (Yields.ld rfl (az (j:=0) (c:=[.slice Aq q.length cq]) (E:=156) (tot:=1) bF rfl)) (OL.q rfl (wlen_fc) (OL.n1 rfl (PW.k5 0 2 3 4 40 rfl ?_))))))
 refine PW.cond rfl (fun c40=>?_) (fun c40=>?_)
 ·try simp only[aD] at c40
  obtain⟨rq,capq,eq0,rfl,hc1,hc2⟩:=slv_own hsq (by omega)
  simp only[Value.slice.injEq,true_and] at eq0;obtain⟨rfl,rfl⟩:=eq0;obtain⟨hp1,hp2,hp3,hp4,hp5⟩:=popL_spec dN hhp (by omega)
  refine PW.skip (hK6 _ _ (PW.k4 0 2 3 4 rfl (PW.block (PW.ae (OL.dp rfl (OL.x (Yields.mkI rfl) (OL.l rfl (hpop_fc (q:=q) (by omega) hc1 hc2 (by omega)) ?_)))))))
  rintro _ _ ⟨rfl,rfl⟩;rw[hp3];obtain⟨v,hv⟩:∃z,z=q[0]!:=⟨_,rfl⟩;rw[<- hv] at hp2 hp5 ⊢;have hvq:v∈q:=hp2.mem_iff.1 (by simp)
  have hvr:=((hK.qm v).1 hvq).1
  have hvk:v∈bu m.nodes:=by
   obtain⟨p,hp,rfl⟩:=List.mem_map.1 hvr;rw[<- eV];exact List.mem_map.2 ⟨p,hK.sub p hp,rfl⟩
  have hov:er v:=by
   obtain⟨n,hn⟩:=mem_mks.1 hvk;exact hm.nk _ (dZ hn)
  have hmin:∀x∈q,cy x v=false:=by
   intro x hx;rcases List.mem_cons.1 (hp2.mem_iff.2 hx) with rfl|h
   ·cases h:cy x x with
    |false=>rfl
    |true=>have:=dN.asymm x x h;rw[h] at this;cases this
   exact hp5 x h
  obtain⟨hnm,hnd⟩:=nd_mem hm hvk;have hK2:=hK.pop hp2 hmin hnm
  have hrl:=rem_len hK.nd hvr
  have hs2:aV 27 33 (.slice (some ⟨rq,0,none⟩) (q.length-1) cq) (popL cy q).length (aI (popL cy q)) [(rq,.cells (aI (popL cy q)) 27 (cq*33))]:=by
   have:=aV.mk' (E:=27) (sz:=33) (m:=(popL cy q).length) (cap:=cq) (r:=rq) (xs:=aI (popL cy q)) (bT _) (by omega) hc2
   rw[hp4] at this ⊢;exact this
  refine OL.x (Yields.tas (ok:=true) rfl Tryz.underlying27 (by intro ms h;cases h)) ?_
  refine OL.p3 rfl rfl rfl (OL.c OW.al ?_);rintro _ _ ⟨r6,rfl,rfl⟩;refine OL.c (vtx_st rfl rfl rfl) ?_;rintro _ _ rfl;refine OL.n1 rfl (PW.k6 0 2 3 4 6 7 rfl (PW.seq fun K7 hK7=>PW.s2 rfl rfl (PW.k6 0 2 3 4 6 49 rfl (PW.ite (b:=false) rfl ?_))))
  rw[if_neg Bool.false_ne_true];refine PW.skip (hK7 _ _ (PW.k5 0 2 3 4 6 rfl (PW.seq fun K8 hK8=>?_)))
  refine PW.dy (Ss:=Over _) (fr:=true) [(0,0),(1,0),(2,0),(3,0),(4,0),(5,0),(6,3)] mixed (by decide +kernel) (Over.refl _) (fun _ _ _ h=>h.cons) ?_
  refine GL.dp rfl ?_;refine GL.ak trivial (fun Sx hSx=>Yields.cF rfl) ?_
  refine GL.dp rfl ?_;refine GL.ak trivial (fun Sx hSx=>Yields.ld rfl (dz (hS.cons.cons.cons.cons.cons.trans hSx))) ?_
  refine GL.ak trivial (fun Sx hSx=>Yields.aT rfl (aa _) (av (c:=au v) (E:=27) (tot:=33) (hSx _ bF))) ?_
  refine GL.ak trivial (fun Sx hSx=>Yields.lookG (okc:=false) (a:=v) Tryz.underlying109 hy1 hy2 dj hm.nk hov rfl rfl (fw (hS.cons.cons.cons.cons.cons.trans hSx)).2.2.1) ?_
  refine GL.fresh trivial fun r8=>?_
  change OL _ _ _ _ _ ([(r8,.cells [.string ⟨#[]⟩,.int .i64 0,.int .i64 0,.slice none 0 0] 121 4)]::bs r6 v::dn r17 (.slice (some ⟨rq,0,none⟩) (q.length-1) cq)::qseg rq (cq*33) (popL cy q)::sgo::[(ra,.gm (dU aP dK left))]::(GS m++S)) _;change OL _ _ _ [_] _ _ _;refine OL.c (node_st rfl rfl _ _ _ _) ?_;rintro _ _ rfl;obtain⟨n0,hn0⟩:∃z,z=(fo m.nodes v).getD zM:=⟨_,rfl⟩;rw[<- hn0] at hnd hnm hK2 ⊢;have hno:=getD_ok hm v
  rw[<- hn0] at hno;have hnl:=hno.len
  refine OL.nil (hK8 _ _ (PW.k6 0 2 3 4 6 8 rfl (PW.ae (OL.dp rfl (OL.x (Yields.aT rfl (aa _) (av dm)) (OL.dp rfl (OL.x (Yields.ld rfl (az (j:=0) (c:=cB n0) (E:=121) (tot:=4) bF rfl)) (OL.dp rfl (OL.x (Yields.ld rfl (az (j:=1) (c:=cB n0) (E:=121) (tot:=4) bF rfl)) ?_)))))))));refine OL.x (Yields.to (v':=.bool (decide (n0.gone=0))) (Yields.pure rfl) (congrArg Value.bool (by rw[Bool.eq_iff_iff];simp))) ?_
  refine OL.x (Yields.build (fill_line rfl rfl rfl)) ?_;apply OL.bV (k:=4)
  ·rfl
  ·rfl
  ·exact(List.size_toArray).trans (aJ _)
  ·rfl
  ·rfl
  ·rfl
  ·exact hso
  ·exact eW _
  ·omega
  ·unfold maxLen;omega
  intro v65 sgo2 hso2;change OL _ _ _ _ _ ([(r8,.cells (cB n0) 121 4)]::bs r6 v::dn r17 (.slice (some ⟨rq,0,none⟩) (q.length-1) cq)::qseg rq (cq*33) (popL cy q)::sgo2::[(ra,.gm (dU aP dK left))]::(GS m++S)) _;obtain⟨vout2,hvo2⟩:∃z:Value,z=v65:=⟨_,rfl⟩;rw[<- hvo2] at hso2 ⊢;have hso3:aV 99 35 vout2 (out++[v]).length (lines ((out++[v]).map (lineOf m.gr.nodes))) sgo2:=by
   rw[List.map_append,List.map_cons,List.map_nil,lines_snoc,List.length_append];have e:lineOf m.gr.nodes v=⟨v,n0.text,decide (n0.gone=0)⟩:=by unfold lineOf;rw[hnd];rfl
   rw[e];exact hso2
  refine OL.n1 rfl (PW.k5 0 2 3 4 8 rfl (PW.ae (OL.dp rfl (OL.x (Yields.ld rfl (az (j:=3) (c:=cB n0) (E:=121) (tot:=4) bF rfl)) (OL.n2 rfl rfl (PW.k7 0 2 3 4 67 68 69 rfl (PW.block (PW.k7 0 2 3 4 67 68 69 rfl ?_))))))));refine PW.aR (I:=fun mi T S'=>∃(k:Nat) (q2:List ay) (vq2:Value) (sgq2:bD) (left2:List (ay×Int)),(k<=n0.next.length/\mi=n0.next.length-k/\Kahn cy m.gr.nodes (mdl rem v) q2 (lv left2) (out++[v]) (n0.next.drop k)/\Hp cy q2 q2.length/\aV 27 33 vq2 q2.length (aI q2) sgq2/\(∀q∈left2,er q.1)/\∀u,lv left2 u<=1000000000)/\T=([(0,m.ptr),(2,vout2),(3,.map (some ra)),(4,.pointer (some ⟨r17,0,none⟩)),(67,.slice n0.A n0.next.length n0.c),(68,.int .i64 (n0.next.length:Int)),(69,.int .i64 k)]:TT)/\S'=[(r8,.cells (cB n0) 121 4)]::bs r6 v::dn r17 vq2::sgq2::sgo2::[(ra,.gm (dU aP dK left2))]::(GS m++S)) (m:=n0.next.length) ⟨0,popL cy q,_,_,left,⟨by omega,by omega,hK2,hp1,hs2,hlk,hb⟩,rfl,rfl⟩ ?_
  rintro mi _ _ ⟨k,q2,vq2,sgq2,left2,⟨hk,hmi,hK3,hhp2,hsq2,hlk2,hb2⟩,rfl,rfl⟩;refine PW.s1 rfl (PW.k8 0 2 3 4 67 68 69 70 rfl (PW.seq fun K9 hK9=>?_))
  refine PW.cond rfl (fun c70=>?_) (fun c70=>?_)
  ·try simp only[aD] at c70
   have hkl:k<n0.next.length:=by omega
   obtain⟨a0,ha0⟩:=bE (l:=n0.next) hno.rd (by omega)
   have hrd2:Rd w0 ([(r8,.cells (cB n0) 121 4)]::bs r6 v::dn r17 vq2::sgq2::sgo2::[(ra,.gm (dU aP dK left2))]::(GS m++S)) (some a0) (aI n0.next):=by rw[<- ha0];exact hno.rd.aH hS.cons.cons.cons.cons.cons.cons
   refine PW.skip (hK9 _ _ (PW.k7 0 2 3 4 67 68 69 rfl (PW.seq fun K10 hK10=>PW.block (PW.ae ?_))))
   rw[ha0];refine OL.x (Yields.bO rfl rfl rfl (by omega)) (OL.x (Yields.aT rfl (aa _) (bS hrd2 hkl)) (OL.c OW.al ?_))
   rintro _ _ ⟨r10,rfl,rfl⟩;refine OL.c (vtx_st rfl rfl rfl) ?_;rintro _ _ rfl;obtain⟨w,hw⟩:∃z,z=n0.next[k]:=⟨_,rfl⟩
   rw[<- hw];have how:er w:=by rw[hw];exact hno.ok _ (List.getElem_mem hkl)
   rw[List.drop_eq_getElem_cons hkl,<- hw] at hK3;have hw1:=kahn_one hK3
   have hb1:=hb2 w
   have hwT:=hT (v,w) (by rw[mem_EG hK3.nn,hnd,hw];exact List.getElem_mem hkl)
   refine OL.nil (PW.k8 0 2 3 4 10 67 68 69 rfl (PW.seq fun K11 hK11=>?_))
   refine PW.dy (Ss:=OpS aP dK left2 w 0 ra (bs r10 w::[(r8,.cells (cB n0) 121 4)]::bs r6 v::dn r17 vq2::sgq2::[sgo2]) (GS m++S)) (fr:=false) [(0,0),(1,0),(2,0),(3,0),(4,2),(5,2)] mixed (by decide +kernel) (.inl rfl) (fun h=>by cases h) ?_
   refine GL.dp rfl ?_;refine GL.ak trivial (fun Sx hSx=>Yields.aT rfl (aa _) (av (c:=au w) (E:=27) (tot:=33) (hSx.over _ (by simp)))) ?_
   refine GL.ak trivial (fun Sx hSx=>Yields.lookOp (u:=w) Tryz.underlying153 hz1 hz2 dj hlk2 how how rfl rfl hSx) ?_
   refine GL.ak trivial (fun Sx hSx=>Yields.to (v':=dK (lv left2 w-1)) (Yields.cH rfl rfl (by show _<=lv left2 w-1;omega) (by show lv left2 w-1<=_;omega)) rfl) ?_
   refine GL.lo trivial (OW.mono (OW.entry (j:=6) (a:=w) (z:=(0:Int)) Tryz.underlying153 hz1 hz2 dj hlk2 how rfl rfl rfl) ?_);rintro _ _ ⟨en2,clk2,qq2,e2,rfl,hop2,hee2,heb2,hek2,rfl⟩;refine⟨.inr ⟨en2,clk2,hop2,rfl⟩,?_⟩;refine GL.lo trivial (OW.mono (OW.of_yields (Yields.pure rfl)) ?_);rintro _ _ ⟨rfl,rfl⟩;refine⟨.inr ⟨en2,clk2,hop2,rfl⟩,?_⟩;change OL _ _ _ [_] _ _ _;refine OL.c (OW.store (j:=6) (v:=lv left2 w-1) (fun a b=>vtx_inj') rfl rfl rfl hop2 hee2 heb2 hek2 rfl) ?_
   rintro _ _ rfl;obtain⟨left3,hl3⟩:∃z,z=dM (entL left2 w 0) w (lv left2 w-1):=⟨_,rfl⟩;change OL _ _ _ _ _ (bs r10 w::[(r8,.cells (cB n0) 121 4)]::bs r6 v::dn r17 vq2::sgq2::sgo2::[(ra,.gm (dU aP dK (dM (entL left2 w 0) w (lv left2 w-1))))]::(GS m++S)) _;rw[<- hl3];have hlk3:∀q∈left3,er q.1:=by rw[hl3];exact put_ok hlk2 how
   have hlv3:∀u,lv left3 u=if u=w then lv left2 w-1 else lv left2 u:=fun u=>by rw[hl3];exact lv_put _ _ _ _
   have hlw3:lv left3 w=lv left2 w-1:=by rw[hlv3,if_pos rfl]
   have hb3:∀u,lv left3 u<=1000000000:=fun u=>by rw[hlv3];have:=hb2 u;split<;>omega
   refine OL.nil (hK11 _ _ (PW.k8 0 2 3 4 10 67 68 69 rfl (PW.seq fun K12 hK12=>PW.aQ mixed (QK.x (Yields.aT rfl (aa _) (av bF)) (QK.l rfl (end_fc) (QK.x (Yields.eb (neg:=true) rfl rfl (aO _ _)) ?_))))))
   refine QK.bool trivial (Yields.pure rfl) (fun g82=>?_) (fun g82=>?_)
   ·try simp only[aD] at g82
    refine QK.ak rfl (.pure rfl) (QK.ak rfl (.aT rfl (aa _) (av bF)) (QK.nil ?_));change OL _ _ _ [_,_,_] _ _ _;refine OL.ak rfl (.lookG (okc:=false) (a:=w) Tryz.underlying153 hz1 hz2 dj hlk3 how rfl rfl zM6) (OL.ak rfl (.pure rfl) (OL.n1 rfl (hK12 _ _ (PW.k9 0 2 3 4 10 67 68 69 87 rfl ?_))));refine PW.cond rfl (fun c87=>?_) (fun c87=>?_)
    ·try simp only[aD] at c87
     refine PW.ops (OL.dp rfl (OL.x (Yields.mkI rfl) (OL.x (Yields.aT rfl (aa _) (av bF)) (OL.x (Yields.mkI rfl) ?_))));refine OL.l rfl (FC.bZ (Sub.ec [3,4,0,1,2] 5 (by decide) (bs r10 w::[(r8,.cells (cB n0) 121 4)]::bs r6 v::dn r17 vq2::sgq2::sgo2::[(ra,.gm (dU aP dK left3))]::(GS m++S))) (hpush_fc (x:=w) hsq2 (by have:=kahn_qlen hK3;have e:m.gr.nodes.length=m.nodes.length:=List.length_map _;omega))) ?_
     rintro _ _ ⟨rfl,v92,sg92,rfl,hs92⟩;refine OL.bZ (S':=bs r10 w::[(r8,.cells (cB n0) 121 4)]::bs r6 v::dn r17 v92::sg92::sgo2::[(ra,.gm (dU aP dK left3))]::(GS m++S)) (Sub.ec [2,3,4,0,1] 5 (by decide) (dn r17 v92::sg92::bs r10 w::[(r8,.cells (cB n0) 121 4)]::bs r6 v::sgo2::[(ra,.gm (dU aP dK left3))]::(GS m++S))) (OL.nil (hK10 _ _ (PW.k7 0 2 3 4 67 68 69 rfl (PW.ops (OL.x (Yields.ao rfl rfl (by omega) (by omega)) (OL.n1 rfl ?_))))))
     refine af.dE (Sub.drop (Sub.refl _)) (T'':=[(0,_),(2,_),(3,_),(4,_),(67,_),(68,_),(69,_)]) (wi rfl) ?_;rw[ha0];obtain⟨hp1',hp2'⟩:=pushL_spec dN hhp2 w;refine⟨n0.next.length-(k+1),by omega,k+1,pushL cy q2 w,v92,sg92,left3,⟨by omega,rfl,hK3.dec hlv3 ?_,hp1',hs92,hlk3,hb3⟩,rfl,rfl⟩
     rw[if_pos ⟨by rw[show bu m.gr.nodes=bu m.nodes from eV _];exact hwT.resolve_right g82,by have:lv left3 w=0:=c87;omega⟩]
     exact hp2'
    try simp only[aD] at c87
    refine PW.skip (hK10 _ _ (PW.k7 0 2 3 4 67 68 69 rfl (PW.ops (OL.x (Yields.ao rfl rfl (by omega) (by omega)) (OL.n1 rfl ?_)))))
    refine af.dE (Sub.drop (Sub.refl _)) (T'':=[(0,_),(2,_),(3,_),(4,_),(67,_),(68,_),(69,_)]) (wi rfl) ?_;rw[ha0];refine⟨n0.next.length-(k+1),by omega,k+1,q2,vq2,sgq2,left3,⟨by omega,rfl,hK3.dec hlv3 ?_,hhp2,hsq2,hlk3,hb3⟩,rfl,rfl⟩
    rw[if_neg (fun h=>by have:¬lv left3 w=0:=c87;omega)]
   try simp only[aD] at g82
   refine QK.off rfl rfl (QK.off rfl rfl (QK.nil ?_));change OL _ _ _ [_,_,_] _ _ _;refine OL.off rfl rfl (OL.off rfl rfl (OL.n1 rfl (hK12 _ _ (PW.k9 0 2 3 4 10 67 68 69 87 rfl (PW.ite (b:=false) rfl ?_)))));rw[if_neg Bool.false_ne_true];refine PW.skip (hK10 _ _ (PW.k7 0 2 3 4 67 68 69 rfl (PW.ops (OL.x (Yields.ao rfl rfl (by omega) (by omega)) (OL.n1 rfl ?_)))))
   refine af.dE (Sub.drop (Sub.refl _)) (T'':=[(0,_),(2,_),(3,_),(4,_),(67,_),(68,_),(69,_)]) (wi rfl) ?_;rw[ha0];refine⟨n0.next.length-(k+1),by omega,k+1,q2,vq2,sgq2,left3,⟨by omega,rfl,hK3.dec hlv3 ?_,hhp2,hsq2,hlk3,hb3⟩,rfl,rfl⟩
   rw[if_neg (fun h=>hend (by rw[<- g82,<- show bu m.gr.nodes=bu m.nodes from eV _];exact h.1))]
  try simp only[aD] at c70
  refine PW.exit ?_;refine af.dE (Sub.ec [2,3,4] 5 (by decide) _) (T'':=[(0,_),(2,_),(3,_),(4,_)]) (wi rfl) ?_
  refine⟨(mdl rem v).length,by omega,q2,vq2,sgq2,out++[v],vout2,sgo2,left2,mdl rem v,⟨?_,hhp2,hsq2,hso3,hlk2,hb2,rfl,by rw[List.length_append,List.length_singleton];omega⟩,rfl,rfl⟩
  rw[List.drop_eq_nil_of_le (by omega)] at hK3
  exact hK3
 try simp only[aD] at c40
 refine PW.exit (hK5 _ _ (PW.k1 2 rfl (PW.s2 rfl rfl (PW.k1 2 rfl ?_))));refine PW.ret (zR rfl ?_);obtain rfl:q=[]:=List.eq_nil_of_length_eq_zero (by omega)
 exact⟨_,Sub.ec [2] 4 (by decide) _,sgo,out,rfl,hK.fin,hso⟩
end Go.Proofs.Gr

namespace Go.GP
open Go.SL
theorem mem_outE {ps:List ar}{v w:ay}:w∈outE ps v↔(v,w)∈cN ps:=by
 unfold outE;simp only[List.mem_map,List.mem_filter,decide_eq_true_eq];constructor
 ·rintro⟨e,⟨h1,h2⟩,rfl⟩;subst h2;exact h1
 intro h;exact⟨_,⟨h,rfl⟩,rfl⟩
theorem Inv.edge {ps:List ar}{G:Gr}(h:Inv ps G) (hs:Sq ps) {e:ay×ay}:e∈EG G.nodes↔e∈cN ps/\e.1≠aU:=by
 obtain⟨v,w⟩:=e;rw[mem_EG h.nk];constructor
 ·intro hw;cases hv:fo G.nodes v with
  |none=>unfold nd at hw;rw[hv] at hw;simp[zN] at hw
  |some n=>
   have hn:=h.node v n hv
   have hnd:nd G.nodes v=n:=by unfold nd;rw[hv];rfl
   rw[hnd] at hw;exact⟨mem_outE.1 (hn.next.mem_iff.1 hw),fun e=>h.root hs (e▸mem_mks.2 ⟨n,hv⟩)⟩
 rintro⟨h1,h2⟩;have hk:v∈bu G.nodes:=(h.keys v).2 ((hs.edge h1).1.resolve_left h2)
 have hv:=nd_some hk
 exact(h.node v _ hv).next.mem_iff.2 (mem_outE.2 h1)
theorem Inv.noRoot {ps:List ar}{G:Gr}(h:Inv ps G) (hs:Sq ps):∀e∈EG G.nodes,e.2≠aU:=by
 intro e he hr;rcases(hs.edge ((h.edge hs).1 he).1).2 with h1|h1
 ·exact root_ne_end (hr.symm.trans h1)
 exact(hs.line h1).1 hr
theorem Inv.tgt {ps:List ar}{G:Gr}(h:Inv ps G) (hs:Sq ps):∀e∈EG G.nodes,e.2∈bu G.nodes∨e.2=bQ:=by
 intro e he;rcases(hs.edge ((h.edge hs).1 he).1).2 with h1|h1
 ·exact .inr h1
 exact .inl ((h.keys _).2 h1)
theorem Inv.noEnd {ps:List ar}{G:Gr}(h:Inv ps G) (hs:Sq ps):bQ∉bu G.nodes:=fun hm=>(hs.line ((h.keys _).1 hm)).2 rfl
theorem Inv.has {ps:List ar}{G:Gr}(h:Inv ps G) {v:ay}:dX G v↔HasV ps v:=by
 unfold dX HasV;rw[h.keys]
theorem Inv.rch {ps:List ar}{G:Gr}(h:Inv ps G) (hs:Sq ps) {a b:ay}(ha:a≠aU):Rch (EG G.nodes) a b↔Rch (cN ps) a b:=by
 constructor
 ·exact fun hr=>hr.mono fun e he=>((h.edge hs).1 he).1
 intro hr
 induction hr with
 |one h1=>exact .one ((h.edge hs).2 ⟨h1,ha⟩)
 |cons h1 _ ih=>
  have h2:=(h.edge hs).2 ⟨h1,ha⟩
  exact .cons h2 (ih (h.noRoot hs _ h2))
theorem Inv.bef {ps:List ar}{G:Gr}(h:Inv ps G) (hs:Sq ps) {a b:ay}:BefG G a b↔Bef ps a b:=by
 unfold BefG Bef;rw[h.has,h.has];by_cases ha:a=aU
 ·simp[ha]
 rw[h.rch hs ha]
theorem Inv.there {ps:List ar}{G:Gr}(h:Inv ps G) {p:ar}:eM G p↔(∃q∈ps,q.name=p.name)∨∃v∈own p,v∈bh ps:=by
 unfold eM;constructor
 ·rintro (h1|⟨v,h1,h2⟩)
  ·obtain⟨q,hq,hqn⟩:=List.mem_map.1 h1;have:=h.pname q hq
   refine .inl ⟨q.2,(h.part q.2).1 ?_,by rw[<- this];exact hqn⟩
   rw[<- this];exact hq
  exact .inr ⟨v,h1,(h.keys v).1 h2⟩
 rintro (⟨q,hq,hqn⟩|⟨v,h1,h2⟩)
 ·exact .inl (List.mem_map.2 ⟨_,(h.part q).2 hq,hqn⟩)
 exact .inr ⟨v,h1,(h.keys v).2 h2⟩
theorem Inv.new {ps:List ar}{G:Gr}(h:Inv ps G) (hs:Sq ps) {p:ar}:(¬eM G p/\eJ p/\dX G p.up/\dX G p.down/\(∀v∈p.gone,v∈bu G.nodes)/\BefG G p.up p.down)↔New ps p:=by
 constructor
 ·rintro⟨h1,h2,h3,h4,h5,h6⟩;exact⟨fun q hq e=>h1 (h.there.2 (.inl ⟨q,hq,e⟩)),fun v hv hm=>h1 (h.there.2 (.inr ⟨v,hv,hm⟩)),h2.first,h2.upE,h2.downR,h2.gone0,h2.goneR,h.has.1 h3,h.has.1 h4,fun v hv=>(h.keys v).1 (h5 v hv),(h.bef hs).1 h6⟩
 intro n;refine⟨fun ht=>?_,⟨n.gone0,n.goneR,n.first,n.upE,n.downR⟩,h.has.2 n.up,h.has.2 n.down,fun v hv=>(h.keys v).2 (n.gone v hv),(h.bef hs).2 n.bef⟩
 rcases h.there.1 ht with⟨q,hq,e⟩|⟨v,hv,hm⟩
 ·exact n.name q hq e
 exact n.own v hv hm
theorem len_le:∀{l l':List ay},l.Nodup->(∀x∈l,x∈l')->l.length<=l'.length
 |[],l',_,_=>by simp
 |a::l,l',hn,h=>by
  obtain⟨h1,h2⟩:=List.nodup_cons.1 hn;have ha:a∈l':=h a (by simp)
  have:=len_le (l:=l) (l':=l'.erase a) h2 (fun x hx=>by
   have hne:x≠a:=fun e=>h1 (e▸hx)
   exact(List.mem_erase_of_ne hne).2 (h x (by simp[hx])))
  rw[List.length_erase_of_mem ha] at this;have hp:0<l'.length:=List.length_pos_of_mem ha
  simp only[List.length_cons];omega
theorem Inv.nodesLen {ps:List ar}{G:Gr}(h:Inv ps G):G.nodes.length<=(bh ps).length:=by
 have:=len_le h.nk (fun x hx=>(h.keys x).1 hx)
 unfold bu at this
 rwa [List.length_map] at this
theorem outs_le (E:List (ay×ay)):∀{K:List ay},K.Nodup->(K.flatMap fun v=>E.filter fun e=>decide (e.1=v)).length<=E.length:=by
 intro K hK
 induction E with
 |nil=>
  have:(K.flatMap fun v=>([]:List (ay×ay)).filter fun e=>decide (e.1=v))=[]:=by simp
  rw[this];simp
 |cons e E ih=>
  have key:∀{K:List ay},K.Nodup->(K.flatMap fun v=>(e::E).filter fun x=>decide (x.1=v)).length<=(K.flatMap fun v=>E.filter fun x=>decide (x.1=v)).length+if e.1∈K then 1 else 0:=by
   intro K hK
   induction K with
   |nil=>simp
   |cons a K ih=>
    obtain⟨h1,h2⟩:=List.nodup_cons.1 hK;have:=ih h2
    rw[List.flatMap_cons,List.flatMap_cons,List.length_append,List.length_append,List.filter_cons];by_cases ha:e.1=a
    ·subst ha;rw[if_neg h1] at this;simp only[decide_true,if_true,List.length_cons,List.mem_cons,true_or];omega
    have e2:(e.1∈a::K)↔e.1∈K:=by simp[ha]
    simp only[ha,decide_false,Bool.false_eq_true,if_false,e2];omega
  have:=key hK
  simp only[List.length_cons];split at this<;>omega
theorem Inv.edgesLen {ps:List ar}{G:Gr}(h:Inv ps G):(EG G.nodes).length<=(cN ps).length:=by
 refine Nat.le_trans (Nat.le_of_eq ?_) (outs_le (cN ps) h.nk);unfold EG bu;have:∀N:List (ay×bK),(∀p∈N,p∈G.nodes)->(N.flatMap fun p=>p.2.next.map fun w=>(p.1,w)).length=((N.map (·.1)).flatMap fun v=>(cN ps).filter fun e=>decide (e.1=v)).length:=by
  intro N hN
  induction N with
  |nil=>rfl
  |cons p N ih=>
   have hp:=hN p (by simp)
   have hn:=h.node p.1 p.2 ((mgt_mem h.nk).2 hp)
   have hl:=hn.next.length_eq
   unfold outE at hl;rw[List.length_map] at hl;rw[List.flatMap_cons,List.map_cons,List.flatMap_cons,List.length_append,List.length_append,List.length_map,hl,ih fun q hq=>hN q (by simp[hq])]
 exact this G.nodes fun p hp=>hp
theorem allV_app (A B:List ar):bh (A++B)=bh A++bh B:=by unfold bh;simp
end Go.GP

namespace Go.Proofs.Gr
open Go.SL Go.RowKit Go.Proofs Go.GP
theorem befB_iff {G:Gr}{a b:ay}:befB G a b=true↔BefG G a b:=by
 constructor
 ·intro h;exact Classical.byContradiction fun k=>by rw[fx k] at h;cases h
 exact befB_true
theorem addE_zero' {G:Gr}{p:ar}:addE G p=0↔¬eM G p/\eJ p/\dX G p.up/\dX G p.down/\(∀v∈p.gone,v∈bu G.nodes)/\BefG G p.up p.down:=by
 constructor
 ·intro h;by_cases h1:eM G p
  ·rw[addE_there h1] at h;omega
  by_cases h2:eJ p
  ·by_cases h3:¬dX G p.up∨¬dX G p.down∨∃v∈p.gone,v∉bu G.nodes
   ·rw[addE_dep h1 h2 h3] at h;omega
   have k1:dX G p.up:=Classical.byContradiction fun k=>h3 (.inl k)
   have k2:dX G p.down:=Classical.byContradiction fun k=>h3 (.inr (.inl k))
   have k3:∀v∈p.gone,v∈bu G.nodes:=fun v hv=>Classical.byContradiction fun k=>h3 (.inr (.inr ⟨v,hv,k⟩))
   rw[addE_bef h1 h2 k1 k2 k3] at h;split at h
   ·omega
   rename_i h4;exact⟨h1,h2,k1,k2,k3,befB_iff.1 (by simpa using h4)⟩
  rw[addE_form h1 h2] at h;omega
 rintro⟨h1,h2,h3,h4,h5,h6⟩;rw[addE_bef h1 h2 h3 h4 h5,if_neg (by rw[befB_iff.2 h6];simp)]
theorem addE_zero {ps:List ar}{G:Gr}(h:Inv ps G) (hs:Sq ps) {p:ar}:addE G p=0↔New ps p:=addE_zero'.trans (h.new hs)
open Classical in
noncomputable def came (ps:List ar) (p:ar):List ar:=if New ps p then p::ps else ps
open Classical in
theorem came_new {ps:List ar}{p:ar}(h:New ps p):came ps p=p::ps:=by unfold came;rw[if_pos h]
open Classical in
theorem came_not {ps:List ar}{p:ar}(h:¬New ps p):came ps p=ps:=by unfold came;rw[if_neg h]
theorem addT_inv {ps:List ar}{G:Gr}(h:Inv ps G) (hs:Sq ps) (p:ar):Inv (came ps p) (addT G p)/\Sq (came ps p):=by
 unfold addT;by_cases hn:New ps p
 ·rw[if_pos ((addE_zero h hs).2 hn),came_new hn];exact⟨h.add hs hn,.cons hn hs⟩
 rw[if_neg (fun e=>hn ((addE_zero h hs).1 e)),came_not hn]
 exact⟨h,hs⟩
theorem Inv.get {ps:List ar}{G:Gr}(h:Inv ps G) {p:ar}(hp:p∈ps):fo G.parts p.name=some p:=(mgt_mem h.pk).2 ((h.part p).2 hp)
end Go.Proofs.Gr

namespace Go.SL
open Go.ChangeShapes Go.WideShapes Go.ChangeAt Go.RowKit
section
variable {H:Type}{enc:TypeId×Value->H}{P:Program}{W:World}
theorem trod_parts {fs:Array Field}{t:TypeId}{n:Nat}{cs:List Value}{y:DataW H×List MemPlace}(hu:P.underlying t=some (.struct fs)) (h:DataW.trod enc P W 0 (fun _=>true) true n t cs=some y) (hw:∀k∈y.1.weights P t,k<=reachBytes) :
  ∃(m:Nat) (xs:List (DataW H×List MemPlace)),cs.length=P.cellsOf t/\(DataW.weightsEach P (fs.toList.map (·.type)) (xs.map (·.1))).all (·<=reachBytes)=true /\
   ∀(i:Nat) (f:Field),fs[i]? = some f->∃y',xs[i]? = some y'/\DataW.trod enc P W 0 (fun _=>true) true m f.type ((cs.drop f.offset).take (P.cellsOf f.type))=some y':=by
 obtain⟨xs,m,_,hx,hl,hlx,hq⟩:=DataW.trod_struct hu h;have hd':y.1=.agg (xs.map (·.1)):=congrArg Prod.fst hx
 refine⟨m,xs,hl,?_,fun i f hi=>?_⟩
 ·rw[List.all_eq_true];intro k hk;have:=hw k (by rw[hd'];simp only[DataW.weights,hu];exact hk)
  simpa using this
 have h1:=hq i f hi
 have hil:i<xs.length:=by
  have:=(Array.getElem?_eq_some_iff.1 hi).1
  omega
 rw[List.getElem?_eq_getElem hil] at h1;exact⟨_,List.getElem?_eq_getElem hil,by simpa using h1⟩
end
end Go.SL

namespace Go.Proofs.Gr
open Go.SL Go.RowKit Go.Proofs Go.GP Go.Proofs.Tryz
theorem bytes_of:∀{n:Nat}{cs:List Value},cM (List.replicate n (.int .u8)) cs->∃l:List UInt8,l.length=n/\cs=bd l
 |0,[],_=>⟨[],rfl,rfl⟩
 |0,_::_,h=>h.elim
 |n+1,[],h=>h.elim
 |n+1,v::cs,h=>by
  obtain⟨h1,h2⟩:=h;obtain⟨l,hl,rfl⟩:=bytes_of h2;obtain⟨z,hz,hw⟩:∃z:Int,v=.int .u8 z/\(Lit.int .u8 z).wf=true:=h1;subst hz;simp only[Lit.wf,Bool.and_eq_true,decide_eq_true_eq] at hw;have h0:(0:Int)<=z:=hw.1
  have h3:z<=255:=hw.2
  refine⟨UInt8.ofNat z.toNat::l,by simp[hl],?_⟩
  have e:((UInt8.ofNat z.toNat).toNat:Int)=z:=by
   rw[UInt8.toNat_ofNat'];omega
  show _=Value.int .u8 ((UInt8.ofNat z.toNat).toNat:Int)::bd l
  rw[e]
theorem cM.parts:∀{s t:List CK}{cs:List Value},cM (s++t) cs->∃a b,cs=a++b/\cM s a/\cM t b
 |[],t,cs,h=>⟨[],cs,rfl,trivial,h⟩
 |c::s,t,[],h=>h.elim
 |c::s,t,v::cs,h=>by
  obtain⟨h1,h2⟩:=h;obtain⟨a,b,rfl,h3,h4⟩:=cM.parts h2;exact⟨v::a,b,rfl,⟨h1,h3⟩,h4⟩
theorem one_of {b:List Value}{k:IntKind}(h:cM [.int k] b):∃z:Int,b=[.int k z]/\(Lit.int k z).wf=true:=by
 cases b with
 |nil=>exact h.elim
 |cons u b=>
  cases b with
  |nil=>
   obtain⟨z,rfl,hw⟩:∃z:Int,u=.int k z/\(Lit.int k z).wf=true:=h.1;exact⟨z,rfl,hw⟩
  |cons v b=>exact h.2.elim
theorem vtx_of {cs:List Value}(h:cM (List.replicate 32 (.int .u8)++[.int .i64]) cs):∃v:ay,cs=au v/\er v:=by
 obtain⟨a,b,rfl,h1,h2⟩:=cM.parts h;obtain⟨l,hl,rfl⟩:=bytes_of h1;obtain⟨z,rfl,hw⟩:=one_of h2;simp only[Lit.wf,Bool.and_eq_true,decide_eq_true_eq] at hw;exact⟨(⟨l,hl⟩,z),rfl,hw.1,hw.2⟩
structure PartA (W:World) (p:aN):Prop where
 at_:-9223372036854775808<=p.at_/\p.at_<=9223372036854775807
 first:-9223372036854775808<=p.first/\p.first<=9223372036854775807
 up:er p.up
 down:er p.down
 gone:∀v∈p.gone,er v
 text:∀s∈p.lines,s.size<=140737488351232
 rdL:Rd W [] p.LA (strs p.lines)
 rdG:Rd W [] p.GA (aI p.gone)
 gnil:p.GA=none->p.gc=0
 gcap:p.gone.length<=p.gc
 len:p.lines.length<=1000000000000000/\p.gone.length<=1000000000000000
theorem cut7 {α:Type}{cs:List α}(h:cs.length=102):cs=(cs.drop 0).take 32++((cs.drop 32).take 1++((cs.drop 33).take 1++((cs.drop 34).take 33++((cs.drop 67).take 33++((cs.drop 100).take 1++(cs.drop 101).take 1))))):=by
 have cut:∀k n,cs.drop k=(cs.drop k).take n++cs.drop (k+n):=fun k n=>by rw[<- List.drop_drop,List.take_append_drop]
 have e7:(cs.drop 101).take 1=cs.drop 101:=List.take_of_length_le (by rw[List.length_drop];omega)
 rw[e7,<- cut 100 1,<- cut 67 33,<- cut 34 33,<- cut 33 1,<- cut 32 1,<- cut 0 32];rfl
set_option maxRecDepth 100000 in
theorem part_of {H:Type}{enc:TypeId×Value->H}{W:World}{n:Nat}{cs:List Value}{y:DataW H×List MemPlace}(h:DataW.trod enc prog W 0 (fun _=>true) true n 59 cs=some y) (hw:∀k∈y.1.weights prog 59,k<=reachBytes):∃p:aN,cs=bG p/\PartA W p:=by
 obtain⟨m,xs,hl,hsz,hf⟩:=trod_parts Tryz.underlying59 h hw;rw[show prog.cellsOf 59=102 by kernel_rfl] at hl
 have c30:prog.cellsOf 25=32:=by kernel_rfl
 have c3:prog.cellsOf 3=1:=by kernel_rfl
 have c32:prog.cellsOf 27=33:=by kernel_rfl
 have c33:prog.cellsOf 23=1:=by kernel_rfl
 have c34:prog.cellsOf 44=1:=by kernel_rfl
 obtain⟨y0,_,t0⟩:=hf 0 _ rfl;obtain⟨y1,_,t1⟩:=hf 1 _ rfl;obtain⟨y2,_,t2⟩:=hf 2 _ rfl;obtain⟨y3,_,t3⟩:=hf 3 _ rfl;obtain⟨y4,_,t4⟩:=hf 4 _ rfl;obtain⟨y5,e5,t5⟩:=hf 5 _ rfl;obtain⟨y6,e6,t6⟩:=hf 6 _ rfl;have s0:DataW.trod enc prog W 0 (fun _=>true) true m 25 ((cs.drop 0).take (prog.cellsOf 25))=some y0:=t0
 rw[c30] at s0;have s1:DataW.trod enc prog W 0 (fun _=>true) true m 3 ((cs.drop 32).take (prog.cellsOf 3))=some y1:=t1
 rw[c3] at s1;have s2:DataW.trod enc prog W 0 (fun _=>true) true m 3 ((cs.drop 33).take (prog.cellsOf 3))=some y2:=t2
 rw[c3] at s2;have s3:DataW.trod enc prog W 0 (fun _=>true) true m 27 ((cs.drop 34).take (prog.cellsOf 27))=some y3:=t3
 rw[c32] at s3;have s4:DataW.trod enc prog W 0 (fun _=>true) true m 27 ((cs.drop 67).take (prog.cellsOf 27))=some y4:=t4
 rw[c32] at s4;have s5:DataW.trod enc prog W 0 (fun _=>true) true m 23 ((cs.drop 100).take (prog.cellsOf 23))=some y5:=t5
 rw[c33] at s5;have s6:DataW.trod enc prog W 0 (fun _=>true) true m 44 ((cs.drop 101).take (prog.cellsOf 44))=some y6:=t6
 rw[c34] at s6;have f0:=deep_fits 6 m 25 (List.replicate 32 (.int .u8)) _ y0 (by kernel_rfl) s0 (by rw[List.length_take,List.length_drop,hl];rfl)
 have f3:=deep_fits 6 m 27 (List.replicate 32 (.int .u8)++[.int .i64]) _ y3 (by kernel_rfl) s3 (by rw[List.length_take,List.length_drop,hl];rfl)
 have f4:=deep_fits 6 m 27 (List.replicate 32 (.int .u8)++[.int .i64]) _ y4 (by kernel_rfl) s4 (by rw[List.length_take,List.length_drop,hl];rfl)
 obtain⟨hb,hbl,e0⟩:=bytes_of f0;obtain⟨at_,e1,w1⟩:=DataW.trod_int Tryz.underlying3 s1;obtain⟨first,e2,w2⟩:=DataW.trod_int Tryz.underlying3 s2
 obtain⟨up,e3,o3⟩:=vtx_of f3;obtain⟨down,e4,o4⟩:=vtx_of f4;obtain⟨LA,ll,lc,e5',T5⟩:=trod_slice1 Tryz.underlying23 s5;obtain⟨GA,gl,gc,e6',T6⟩:=trod_slice1 Tryz.underlying44 s6;have e:=cut7 hl
 obtain⟨L,rfl,hLr,hLs,hLb,hLc⟩:=arg_stringW_list (j:=5) Tryz.underlying23 Tryz.underlying9 T5 hsz rfl (by rw[List.getElem?_map,e5];rfl)
 obtain⟨Gs,rfl,hGr,hGs,hGb,hGc⟩:=arg_list (j:=6) (f:=au) (R:=er) Tryz.underlying44 (fun n cs y hh hl=>by
  rw[c32] at hl;exact vtx_of (deep_fits 6 n 27 (List.replicate 32 (.int .u8)++[.int .i64]) cs y (by kernel_rfl) hh (by rw[hl];rfl))) T6 hsz rfl (by rw[List.getElem?_map,e6];rfl)
 rw[show prog.bytesOf 9=16 by kernel_rfl] at hLb
 rw[show prog.bytesOf 27=40 by kernel_rfl] at hGb
 simp only[reachBytes] at hLb hGb;simp only[Lit.wf,Bool.and_eq_true,decide_eq_true_eq] at w1 w2;refine⟨⟨⟨hb,hbl⟩,at_,first,up,down,LA,lc,L,GA,gc,Gs⟩,?_,⟨w1.2,w2.2,o3,o4,hGs,hLs,hLr,hGr,nil_cap Tryz.underlying44 T6,hGc,(by show L.length<=_;omega),(by show Gs.length<=_;omega)⟩⟩
 rw[e,e0,e1,e2,e3,e4,e5',e6',da]
end Go.Proofs.Gr

namespace Go.Proofs.Gr
open Go.SL Go.RowKit Go.Proofs Go.GP Go.HP
section
variable {V:Type}[DecidableEq V] {lt:V->V->Bool}
theorem Ord.irr (hO:Ord lt) (a:V):lt a a=false:=by
 cases h:lt a a with
 |false=>rfl
 |true=>have:=hO.asymm a a h;rw[h] at this;cases this
def freeB (E:List (V×V)) (left:List V) (v:V):Bool:=E.all fun e=>!(decide (e.2=v) && decide (e.1∈left))
theorem freeB_iff {E:List (V×V)}{left:List V}{v:V}:freeB E left v=true↔Free E left v:=by
 unfold freeB Free;rw[List.all_eq_true];constructor
 ·intro h e he h2 h1;have:=h e he
  simp[h1,h2] at this
 intro h e he;by_cases h2:e.2=v
 ·have:=h e he h2
  simp[this]
 simp[h2]
def leastL (lt:V->V->Bool):List V->Option V
 |[]=>none
 |v::l=>match leastL lt l with|none=>some v|some w=>if lt w v then some w else some v
theorem leastL_none {l:List V}(h:leastL lt l=none):l=[]:=by
 cases l with
 |nil=>rfl
 |cons v l=>
  unfold leastL at h;cases e:leastL lt l with
  |none=>rw[e] at h;cases h
  |some w=>rw[e] at h;simp only at h;split at h<;>cases h
theorem leastL_some (hO:Ord lt):∀{l:List V}{v:V},leastL lt l=some v->v∈l/\∀u∈l,lt u v=false
 |[],v,h=>by cases h
 |a::l,v,h=>by
  unfold leastL at h;cases e:leastL lt l with
  |none=>
   rw[e] at h;obtain rfl:=Option.some.inj h;rw[leastL_none e];exact⟨by simp,fun u hu=>by simp at hu;subst hu;exact Ord.irr hO u⟩
  |some w=>
   rw[e] at h;obtain⟨h1,h2⟩:=leastL_some hO e;simp only at h;split at h
   ·rename_i h3;obtain rfl:=Option.some.inj h;refine⟨by simp[h1],fun u hu=>?_⟩
    rcases List.mem_cons.1 hu with rfl|hu
    ·exact hO.asymm _ _ h3
    exact h2 u hu
   rename_i h3;obtain rfl:=Option.some.inj h;refine⟨by simp,fun u hu=>?_⟩
   rcases List.mem_cons.1 hu with rfl|hu
   ·exact Ord.irr hO u
   have h4:=h2 u hu
   cases h5:lt u a with
   |false=>rfl
   |true=>
    exfalso;have h6:lt w a=false:=by simpa using h3
    have:=hO.trans _ _ _ h6 h4
    rw[this] at h5;cases h5
def kahnF (lt:V->V->Bool) (E:List (V×V)):Nat->List V->List V
 |0,_=>[]
 |n+1,left=>match leastL lt (left.filter (freeB E left)) with|none=>[]|some v=>v::kahnF lt E n (left.erase v)
theorem kahnF_topo (hO:Ord lt) {E:List (V×V)}:∀(n:Nat) (left:List V),left.length<=n->eZ lt E left (kahnF lt E n left)
 |0,left,h=>by
  have:left=[]:=List.eq_nil_of_length_eq_zero (by omega)
  subst this;exact .nil fun v hv=>by cases hv
 |n+1,left,h=>by
  unfold kahnF;cases e:leastL lt (left.filter (freeB E left)) with
  |none=>
   have h0:=leastL_none e
   refine .nil fun v hv hf=>?_
   have:v∈left.filter (freeB E left):=List.mem_filter.2 ⟨hv,freeB_iff.2 hf⟩
   rw[h0] at this;cases this
  |some v=>
   obtain⟨h1,h2⟩:=leastL_some hO e;rw[List.mem_filter] at h1;refine .cons h1.1 (freeB_iff.1 h1.2) (fun u hu hf=>h2 u (List.mem_filter.2 ⟨hu,freeB_iff.2 hf⟩)) (kahnF_topo hO n _ ?_)
   rw[List.length_erase_of_mem h1.1];omega
theorem eZ.congr {E:List (V×V)}{left L:List V}(h:eZ lt E left L):∀{E':List (V×V)}{left':List V},(∀e,e.1∈left->(e∈E↔e∈E'))->left.Perm left'->eZ lt E' left' L:=by
 have fr:∀{E E':List (V×V)}{left left':List V}{v:V},(∀e,e.1∈left->(e∈E↔e∈E'))->left.Perm left'->Free E left v->Free E' left' v:=fun hE hp hf e he hv hm=>by
  have hm':=hp.mem_iff.2 hm
  exact hf e ((hE e hm').2 he) hv hm'
 have fr':∀{E E':List (V×V)}{left left':List V}{v:V},(∀e,e.1∈left->(e∈E↔e∈E'))->left.Perm left'->Free E' left' v->Free E left v:=fun hE hp hf e he hv hm=>by
  exact hf e ((hE e hm).1 he) hv (hp.mem_iff.1 hm)
 induction h with
 |nil h=>
  intro E' left' hE hp;exact .nil fun v hv hf=>h v (hp.mem_iff.2 hv) (fr' hE hp hf)
 |cons h1 h2 h3 h4 ih=>
  intro E' left' hE hp;exact .cons (hp.mem_iff.1 h1) (fr hE hp h2) (fun u hu hf=>h3 u (hp.mem_iff.2 hu) (fr' hE hp hf)) (ih (fun e he=>hE e (List.mem_of_mem_erase he)) (hp.erase _))
end
def eF (ps:List ar):List ay:=kahnF cy (cN ps) (bh ps).length (bh ps)
theorem topoF_topo (ps:List ar):eZ cy (cN ps) (bh ps) (eF ps):=kahnF_topo dN _ _ (Nat.le_refl _)
theorem _root_.Go.GP.Sq.nodup {ps:List ar}(h:Sq ps):(bh ps).Nodup:=by
 induction h with
 |nil=>exact List.nodup_nil
 |@cons p ps h t ih=>
  rw[allV_cons,List.nodup_append];exact⟨own_nodup p,ih,fun a ha b hb e=>h.own a ha (e▸hb)⟩
theorem _root_.Go.GP.Inv.nodes_perm {ps:List ar}{G:Gr}(h:Inv ps G) (hs:Sq ps):(bu G.nodes).Perm (bh ps):=by
 rw[List.perm_iff_count];intro v;rw[List.Nodup.count h.nk,List.Nodup.count (Sq.nodup hs)];simp only[h.keys]
theorem _root_.Go.GP.Inv.told {ps:List ar}{G:Gr}(h:Inv ps G) (hs:Sq ps) {out:List ay}(ht:eZ cy (EG G.nodes) (bu G.nodes) out):out=eF ps:=by
 refine eZ.unique ltV_tot (eZ.congr ht (E':=cN ps) (fun e he=>?_) (h.nodes_perm hs)) (fun e=>Iff.rfl) (List.Perm.refl _) (topoF_topo ps)
 rw[h.edge hs];constructor
 ·exact fun h=>h.1
 intro h2;exact⟨h2,fun e2=>(Sq.line hs ((h.keys _).1 he)).1 e2⟩
def textV (ps:List ar) (v:ay):ByteArray:=(((ps.flatMap fun p=>(own p).zip p.lines).find? fun q=>decide (q.1=v)).map (·.2)).getD ⟨#[]⟩
def aliveV (ps:List ar) (v:ay):Bool:=!((ps.flatMap (·.gone)).contains v)
def lineP (ps:List ar) (v:ay):aG:=⟨v,textV ps v,aliveV ps v⟩
def bC (ps:List ar):List aG:=(eF ps).map (lineP ps)
theorem zip_mem {p:ar}{q:ay×ByteArray}:q∈(own p).zip p.lines↔∃i,p.lines[i]? = some q.2/\p.vtx i=q.1:=by
 obtain⟨v,s⟩:=q;rw[List.mem_iff_getElem?];constructor
 ·rintro⟨i,hi⟩;rw[List.getElem?_zip_eq_some] at hi;obtain⟨h1,h2⟩:=hi;refine⟨i,h2,?_⟩;unfold own at h1;rw[List.getElem?_map] at h1;obtain⟨k,hk,e⟩:=Option.map_eq_some_iff.1 h1;rw[List.getElem?_range (by have:=(List.getElem?_eq_some_iff.1 h2).1;omega)] at hk
  obtain rfl:=Option.some.inj hk;exact e
 rintro⟨i,h1,h2⟩;have hl:=(List.getElem?_eq_some_iff.1 h1).1
 refine⟨i,?_⟩;rw[List.getElem?_zip_eq_some];refine⟨?_,h1⟩;unfold own;rw[List.getElem?_map,List.getElem?_range hl];exact congrArg some h2
theorem _root_.Go.GP.Inv.textV {ps:List ar}{G:Gr}(h:Inv ps G) {v:ay}(hv:v∈bh ps):Gr.textV ps v=(nd G.nodes v).text:=by
 unfold Gr.textV;obtain⟨p,hp,hvo⟩:=bN.1 hv;obtain⟨i,hi,rfl⟩:=dG.1 hvo;have hm:(p.vtx i,p.lines[i])∈ps.flatMap fun p=>(own p).zip p.lines:=List.mem_flatMap.2 ⟨p,hp,zip_mem.2 ⟨i,List.getElem?_eq_getElem hi,rfl⟩⟩
 cases e:(ps.flatMap fun p=>(own p).zip p.lines).find? fun q=>decide (q.1=p.vtx i) with
 |none=>
  have:=List.find?_eq_none.1 e _ hm
  simp at this
 |some q=>
  have h1:=List.find?_some e
  have h2:=List.mem_of_find?_eq_some e
  simp only[decide_eq_true_eq] at h1;obtain⟨p',hp',hz⟩:=List.mem_flatMap.1 h2;obtain⟨j,hj,hj2⟩:=zip_mem.1 hz;have:=h.text p' hp' j _ hj
  rw[hj2,h1] at this;exact this.symm
theorem _root_.Go.GP.Inv.lineP {ps:List ar}{G:Gr}(h:Inv ps G) {v:ay}(hv:v∈bh ps):lineOf G.nodes v=Gr.lineP ps v:=by
 unfold lineOf Gr.lineP;rw[h.textV hv];have hn:=(h.node v _ (nd_some ((h.keys v).2 hv))).gone
 rw[hn];congr 1;unfold aliveV dJ;rw[Bool.eq_iff_iff];simp only[decide_eq_true_eq,Bool.not_eq_true',List.contains_eq_mem,decide_eq_false_iff_not];rw[show(((ps.flatMap (·.gone)).count v:Nat):Int)=0↔(ps.flatMap (·.gone)).count v=0 by omega,List.count_eq_zero]
theorem topoF_mem {ps:List ar}{v:ay}(h:v∈eF ps):v∈bh ps:=eZ.sub (topoF_topo ps) v h
theorem _root_.Go.GP.Inv.lines {ps:List ar}{G:Gr}(h:Inv ps G):(eF ps).map (lineOf G.nodes)=bC ps:=List.map_congr_left fun v hv=>h.lineP (topoF_mem hv)
theorem topoF_perm_all {ps:List ar}(hs:Sq ps):(eF ps).Perm (bh ps):=by
 obtain⟨r,hr,_⟩:=hs.rank;exact eZ.perm (topoF_topo ps) r fun e he _ _=>hr e he
theorem topoF_nodup {ps:List ar}(hs:Sq ps):(eF ps).Nodup:=(topoF_perm_all hs).nodup_iff.2 (Sq.nodup hs)
theorem topoF_order {ps:List ar}(hs:Sq ps) {i k:Nat}(hi:i<(eF ps).length) (hk:k<=i):¬Bef ps (eF ps)[i] (eF ps)[k]:=by
 intro h;have hkl:k<(eF ps).length:=by omega
 obtain⟨h1,h2⟩:=eZ.order (topoF_topo ps) (Sq.nodup hs);have hnr:=(Sq.line hs (topoF_mem (List.getElem_mem hi))).1
 have hne:=(Sq.line hs (topoF_mem (List.getElem_mem hkl))).2
 have hr:=(h.2.2.2.2.2.resolve_left hnr).resolve_left hne
 have key:∀a b:ay,Rch (cN ps) a b->∀(i k:Nat) (hi:i<(eF ps).length) (hk:k<(eF ps).length),(eF ps)[i] = a->(eF ps)[k] = b->i<k:=by
  intro a b hab
  induction hab with
  |one he=>
   intro i k hi hk ha hb;refine Classical.byContradiction fun hc=>?_
   by_cases e:k=i
   ·subst e;rw[<- ha,<- hb] at he;exact hs.irrefl (.one he)
   have:=(List.pairwise_iff_getElem.1 h1) k i hk hi (by omega)
   rw[ha,hb] at this;exact this he
  |@cons a c b he hcb ih=>
   intro i k hi hk ha hb;obtain⟨d,hd⟩:=hcb.src;have hcs:=(hs.edge hd).1
   have hct:=(hs.edge he).2
   have hcv:c∈bh ps:=by
    rcases hct with e|h3
    ·exfalso;subst e;exact hs.noEnd hcb
    exact h3
   obtain⟨j,hj,hjc⟩:=List.mem_iff_getElem.1 ((topoF_perm_all hs).mem_iff.2 hcv);have hjk:=ih j k hj hk hjc hb
   refine Classical.byContradiction fun hc=>?_
   by_cases e:j=i
   ·subst e;rw[hjc] at ha;rw[ha] at he;exact hs.irrefl (.one he)
   have:=(List.pairwise_iff_getElem.1 h1) j i hj hi (by omega)
   rw[ha,hjc] at this;exact this he
 have:=key _ _ hr i k hi hkl rfl rfl
 omega
end Go.Proofs.Gr

namespace Go.Proofs.Gr
open Go.SL Go.RowKit Go.Proofs Go.GP Go.Proofs.Tryz
set_option maxHeartbeats 1000000
structure GG (w0:World) (X:SS) (m:dV) (ps:List ar):Prop where
 ok:GOk w0 X m
 inv:GP.Inv ps m.gr
 sq:Sq ps
 n:(bh ps).length+ps.length<=1000000
 lim:m.lim<=500000000000
theorem edges_len (p:ar):(dB p).length<=(own p).length+2:=by
 unfold dB;split
 ·simp
 rw[edgeL_len];unfold way;simp
theorem allE_len (ps:List ar):(cN ps).length<=(bh ps).length+2*ps.length:=by
 induction ps with
 |nil=>simp[cN]
 |cons p ps ih=>
  have:=edges_len p
  unfold cN bh at ih ⊢;rw[List.flatMap_cons,List.flatMap_cons,List.length_append,List.length_append,List.length_cons];omega
theorem GG.nE {w0:World}{X:SS}{m:dV}{ps:List ar}(h:GG w0 X m ps):(EG m.gr.nodes).length<=1000000000:=by
 have:=h.inv.edgesLen
 have:=allE_len ps
 have:=h.n
 omega
theorem GG.nN {w0:World}{X:SS}{m:dV}{ps:List ar}(h:GG w0 X m ps):m.nodes.length<=1000000000:=by
 have h1:=h.inv.nodesLen
 have h2:m.gr.nodes.length=m.nodes.length:=List.length_map _
 have:=h.n
 omega
theorem lines2_fc {w0:World}{S X:SS}{m:dV}{ps:List ar}(h:GG w0 X m ps) (hX:Over X S) :
  FC prog w0 38 [m.ptr] (GS m++S) (fun v S'=>∃seg,S'=seg::(GS m++S)/\aV 99 35 v (bC ps).length (lines (bC ps)) seg):=by
 have hk:bu m.gr.nodes=bu m.nodes:=eV _
 refine(lines_fc h.ok hX h.nE h.nN (fun e he=>?_) (fun he=>?_)).mono ?_
 ·rw[<- hk];exact h.inv.tgt h.sq e he
 ·rw[<- hk] at he;exact h.inv.noEnd h.sq he
 rintro v S' ⟨seg,out,rfl,ht,hs⟩;have e:=h.inv.told h.sq ht
 subst e;refine⟨seg,rfl,?_⟩;rw[h.inv.lines] at hs;have:(eF ps).length=(bC ps).length:=(List.length_map _).symm
 rwa [this] at hs
open Classical in
noncomputable def befP (ps:List ar) (a b:ay):Bool:=decide (Bef ps a b)
open Classical in
theorem befP_iff {ps:List ar}{a b:ay}:befP ps a b=true↔Bef ps a b:=by unfold befP;exact decide_eq_true_iff
theorem GG.bef {w0:World}{X:SS}{m:dV}{ps:List ar}(h:GG w0 X m ps) {a b:ay}:befB m.gr a b=befP ps a b:=by
 rw[Bool.eq_iff_iff,befB_iff,befP_iff,h.inv.bef h.sq]
theorem before2_fc {w0:World}{S X:SS}{m:dV}{ps:List ar}(h:GG w0 X m ps) (hS:Over (GS m++X) S) {a b:ay}(ha:er a) (hb:er b) :
  FC prog w0 52 [m.ptr,aP a,aP b] S (fun u S'=>u=.bool (befP ps a b)/\S'=S):=by
 rw[<- h.bef];exact before_fc h.ok hS ha hb (h.inv.noRoot h.sq) h.nE
theorem came_n (ps:List ar) (p:ar):(bh (came ps p)).length+(came ps p).length<=(bh ps).length+ps.length+p.lines.length+1:=by
 by_cases h:New ps p
 ·rw[came_new h,allV_cons,List.length_append,eE,List.length_cons];omega
 rw[came_not h];omega
theorem add2_fc {w0:World}{S X:SS}{m:dV}{ps:List ar}(h:GG w0 X m ps) (hX:Over X S) {p:aN}(hp:PartR p) (hrL:Rd w0 S p.LA (strs p.lines)) (hrG:Rd w0 S p.GA (aI p.gone))
  (hn:(bh ps).length+ps.length+p.lines.length+1<=1000000) (hlim:m.lim+addL p<=500000000000) :
  FC prog w0 25 [m.ptr,fz p] (GS m++S) (fun v S'=>∃m',v=.int .i64 (addE m.gr p.pl)/\S'=GS m'++S/\GG w0 X m' (came ps p.pl)/\m'.lim<=m.lim+addL p/\m'.r=m.r/\∀x∈m.aH,x∈m'.aH):=by
 refine(add_fc h.ok hX hp hrL hrG (h.inv.noRoot h.sq) h.nE (by omega)).mono ?_
 rintro v S' ⟨m',h1,h2,h3,h4,h5,h6,h7⟩;obtain⟨i,s⟩:=addT_inv h.inv h.sq p.pl;have hc:=came_n ps p.pl
 have hl:p.pl.lines.length=p.lines.length:=rfl
 exact⟨m',h1,h2,⟨h3,h4▸i,s,by omega,by omega⟩,h6,h5,h7⟩
instance:Inhabited aG:=⟨⟨v0,⟨#[]⟩,false⟩⟩
theorem lines_get {l:List aG}{k:Nat}(hk:k<l.length) {j:Nat}(hj:j<35):(lines l)[k*35+j]? = (bq l[k])[j]?:=by
 unfold lines;rw[fm aJ l (k*35+j) (by omega),show(k*35+j) / 35=k from by omega,show(k*35+j) % 35=j from by omega,getElem!_pos l k hk]
theorem bR {w0:World}{S:SS}{A:Option Addr}{l:List aG}(h:Rd w0 S A (lines l)) (hk:0<l.length):∃a,A=some a:=
 h.some (fun e=>by have:=eT l;rw[e] at this;simp at this;omega)
section
variable {w0:World}{S:SS}{a:Addr}{l:List aG}{k:Nat}
theorem dA (h:Rd w0 S (some a) (lines l)) (hk:k<l.length):∀(j:Nat) (v:Value),(bq l[k])[j]? = some v->Cell w0 S ((a.add (k*35)).add j) v:=by
 intro j v hj;have hj2:j<35:=by have:=(List.getElem?_eq_some_iff.1 hj).1;rwa [aJ] at this
 rw[aZ];exact h.at (by rw[lines_get hk hj2];exact hj)
theorem lineC_text (l:aG):(bq l)[33]? = some (.string l.text)/\(bq l)[34]? = some (.bool l.alive):=by
 have h:=aa l.v
 unfold bq;constructor
 ·rw[List.getElem?_append_right (by omega),h];rfl
 rw[List.getElem?_append_right (by omega),h];rfl
theorem fA (h:Rd w0 S (some a) (lines l)) (hk:k<l.length):Cell w0 S ((a.add (k*35)).add 33) (.string l[k].text):=dA h hk _ _ (lineC_text _).1
theorem fJ (h:Rd w0 S (some a) (lines l)) (hk:k<l.length):∀(j:Nat) (v:Value),(au l[k].v)[j]? = some v->Cell w0 S (((a.add (k*35)).add 0).add j) v:=by
 intro j v hj;rw[aZ (a.add (k*35)),Nat.zero_add];refine dA h hk j v ?_;unfold bq;rw[List.getElem?_append_left (List.getElem?_eq_some_iff.1 hj).1];exact hj
end
theorem aA {α:Type}{l:List α}{k:Nat}(hk:k<l.length):l.take (k+1)=l.take k++[l[k]]:=by
 rw[List.take_add_one,List.getElem?_eq_getElem hk];rfl
theorem linesP_len {ps:List ar}(hs:Sq ps):(bC ps).length=(bh ps).length:=by
 unfold bC;rw[List.length_map,(topoF_perm_all hs).length_eq]
end Go.Proofs.Gr

namespace Go.Proofs.Gr
open Go.SL Go.RowKit Go.Proofs Go.GP
set_option maxHeartbeats 1000000
def hb1 (b:UInt8):HashB:=⟨b::List.replicate 31 0,by simp⟩
def fE (b:UInt8):ByteArray:=⟨#[b]⟩
def p1 (r:Nat):aN:=⟨hb1 1,0,0,aU,bQ,some ⟨r,0,none⟩,2,[fE 97,fE 98],none,0,[]⟩
def p2 (r:Nat):aN:=⟨hb1 2,0,0,(hb1 1,0),(hb1 1,1),some ⟨r,0,none⟩,1,[fE 120],none,0,[]⟩
def p3 (r g:Nat):aN:=⟨hb1 3,0,0,(hb1 1,0),(hb1 1,1),some ⟨r,0,none⟩,1,[fE 121],some ⟨g,0,none⟩,1,[(hb1 1,0)]⟩
theorem part_stk {w0:World}{S:SS}{P:Program}{n r k:Nat}{T:TT}{x v:PV}{u:aN}{z:List Value}(hk:S[k]? = some [(r,.cells z 59 102)]) (hx:x.val T=some (.pointer (some ⟨r,0,none⟩))) (hv:v.val T=some (fz u)) (hz:z.length=102) :
  OW P w0 n (.st 102 x v) T S (fun _ S'=>S'=S.set k (eB r u)):=by
 refine(OW.st (k:=k) (c:=z) (u:=fz u) hx hv hk ((List.size_toArray).trans (bm u)) (by omega) (partC_one u)).mono ?_
 rintro _ _ rfl;rw[fj,eP (by rw[bm,hz])]
structure ActM where
 rm:Bool
 p:aN
instance:Inhabited ActM:=⟨⟨false,zPart⟩⟩
theorem PartA.rng {W:World}{p:aN}(h:PartA W p) (h1:p.lines.length<=12) (h2:p.gone.length<=12) (h3:p.first<=1000000):PartR p:=
 ⟨h.at_,⟨h.first.1,by omega⟩,by omega,by omega,h.gcap,h.gnil,h.up,h.down,h.gone⟩
end Go.Proofs.Gr

namespace Go.Proofs.Gr
open Go.SL Go.RowKit Go.Proofs Go.GP
def stepR (E:List (ay×ay)) (l:List ay):List ay:=l++(E.filter fun e=>decide (e.1∈l) && !decide (e.2∈l)).map (·.2)
def iterR (E:List (ay×ay)):Nat->List ay->List ay
 |0,l=>l
 |n+1,l=>iterR E n (stepR E l)
def reachL (E:List (ay×ay)) (a:ay):List ay:=iterR E E.length ((E.filter fun e=>decide (e.1=a)).map (·.2))
def closedB (E:List (ay×ay)) (a:ay):Bool:=E.all fun e=>!(decide (e.1=a) || decide (e.1∈reachL E a)) || decide (e.2∈reachL E a)
theorem iterR_sound {E:List (ay×ay)}{a:ay}:∀(n:Nat) (l:List ay),(∀v∈l,Rch E a v)->∀v∈iterR E n l,Rch E a v
 |0,l,h=>h
 |n+1,l,h=>by
  refine iterR_sound n _ fun v hv=>?_
  unfold stepR at hv;rcases List.mem_append.1 hv with hv|hv
  ·exact h v hv
  obtain⟨e,he,rfl⟩:=List.mem_map.1 hv;rw[List.mem_filter,Bool.and_eq_true,decide_eq_true_eq] at he;exact(h _ he.2.1).snoc he.1
theorem rch_iff {E:List (ay×ay)}{a b:ay}(hc:closedB E a=true):Rch E a b↔b∈reachL E a:=by
 unfold closedB at hc;rw[List.all_eq_true] at hc;have hc':∀e∈E,(e.1=a∨e.1∈reachL E a)->e.2∈reachL E a:=by
  intro e he h;have:=hc e he
  rcases h with h|h
  ·simpa[h] using this
  simpa[h] using this
 constructor
 ·have key:∀x y,Rch E x y->(x=a∨x∈reachL E a)->y∈reachL E a:=by
   intro x y h
   induction h with
   |one h=>exact fun hx=>hc' _ h hx
   |cons h1 h2 ih=>exact fun hx=>ih (.inr (hc' _ h1 hx))
  exact fun h=>key _ _ h (.inl rfl)
 exact iterR_sound _ _ (fun v hv=>by
  obtain⟨e,he,rfl⟩:=List.mem_map.1 hv;rw[List.mem_filter,decide_eq_true_eq] at he;obtain⟨h1,h2⟩:=he;subst h2;exact .one h1) b
def hasC (ps:List ar) (v:ay):Bool:=decide (v=aU) || decide (v=bQ) || decide (v∈bh ps)
theorem hasC_iff {ps:List ar}{v:ay}:hasC ps v=true↔HasV ps v:=by
 unfold hasC HasV;simp[or_assoc]
def befC (ps:List ar) (a b:ay):Bool:=hasC ps a && hasC ps b && !decide (a=b) && !decide (a=bQ) && !decide (b=aU) && (decide (a=aU) || decide (b=bQ) || decide (b∈reachL (cN ps) a))
theorem befC_iff {ps:List ar}{a b:ay}(hc:closedB (cN ps) a=true):befC ps a b=true↔Bef ps a b:=by
 unfold befC Bef;rw[rch_iff hc];simp only[Bool.and_eq_true,hasC_iff,Bool.or_eq_true,decide_eq_true_eq,Bool.not_eq_true',decide_eq_false_iff_not,and_assoc,ne_eq,or_assoc]
def formedC (p:ar):Bool:=decide p.gone.Nodup && (p.gone.all fun v=>!decide (v=aU) && !decide (v=bQ)) && decide (0<=p.first) && !decide (p.up=bQ) && !decide (p.down=aU)
theorem formedC_iff {p:ar}:formedC p=true↔eJ p:=by
 unfold formedC;simp only[Bool.and_eq_true,decide_eq_true_eq,Bool.not_eq_true',decide_eq_false_iff_not,List.all_eq_true];constructor
 ·rintro⟨⟨⟨⟨h1,h2⟩,h3⟩,h4⟩,h5⟩;exact⟨h1,fun v hv=>h2 v hv,h3,h4,h5⟩
 rintro⟨h1,h2,h3,h4,h5⟩;exact⟨⟨⟨⟨h1,fun v hv=>h2 v hv⟩,h3⟩,h4⟩,h5⟩
def thereC (ps:List ar) (p:ar):Bool:=(ps.any fun q=>decide (q.name=p.name)) || (own p).any fun v=>decide (v∈bh ps)
def addC (ps:List ar) (p:ar):Int:=
 if thereC ps p then 6 else if !formedC p then 4 else if !hasC ps p.up || !hasC ps p.down || (p.gone.any fun v=>!decide (v∈bh ps)) then 10 else if !befC ps p.up p.down then 4 else 0
theorem thereC_iff {ps:List ar}{G:Gr}(h:GP.Inv ps G) {p:ar}:thereC ps p=true↔eM G p:=by
 rw[h.there];unfold thereC;simp only[Bool.or_eq_true,List.any_eq_true,decide_eq_true_eq]
theorem addC_eq {ps:List ar}{G:Gr}(h:GP.Inv ps G) (hs:Sq ps) {p:ar}(hc:closedB (cN ps) p.up=true):addE G p=addC ps p:=by
 unfold addC;by_cases h1:eM G p
 ·rw[addE_there h1,if_pos ((thereC_iff h).2 h1)]
 rw[if_neg (fun k=>h1 ((thereC_iff h).1 k))]
 by_cases h2:¬eJ p
 ·rw[addE_form h1 h2,if_pos (by
   cases e:formedC p with
   |false=>rfl
   |true=>exact absurd (formedC_iff.1 e) h2)]
 have h2:=Classical.not_not.1 h2
 rw[if_neg (by rw[formedC_iff.2 h2];simp)]
 have hh:∀v,hasC ps v=false↔¬dX G v:=fun v=>by
  rw[h.has,<- hasC_iff];simp
 have hg:(p.gone.any fun v=>!decide (v∈bh ps))=true↔∃v∈p.gone,v∉bu G.nodes:=by
  simp only[List.any_eq_true,Bool.not_eq_true',decide_eq_false_iff_not,h.keys]
 by_cases h3:¬dX G p.up∨¬dX G p.down∨∃v∈p.gone,v∉bu G.nodes
 ·rw[addE_dep h1 h2 h3,if_pos];simp only[Bool.or_eq_true,Bool.not_eq_true',hh,hg,or_assoc];exact h3
 rw[if_neg (by
  simp only[Bool.or_eq_true,Bool.not_eq_true',hh,hg,or_assoc];exact h3)]
 have k1:dX G p.up:=Classical.byContradiction fun k=>h3 (.inl k)
 have k2:dX G p.down:=Classical.byContradiction fun k=>h3 (.inr (.inl k))
 have k3:∀v∈p.gone,v∈bu G.nodes:=fun v hv=>Classical.byContradiction fun k=>h3 (.inr (.inr ⟨v,hv,k⟩))
 rw[addE_bef h1 h2 k1 k2 k3];have hb:befB G p.up p.down=befC ps p.up p.down:=by
  rw[Bool.eq_iff_iff,befB_iff,h.bef hs,befC_iff hc]
 rw[hb];simp only[Bool.not_eq_true']
def newC (ps:List ar) (p:ar):Bool:=decide (addC ps p=0) && closedB (cN ps) p.up
theorem newC_new {ps:List ar}{p:ar}(hs:Sq ps) (hi:∃G,GP.Inv ps G) (h:newC ps p=true):New ps p:=by
 unfold newC at h;rw[Bool.and_eq_true,decide_eq_true_eq] at h;obtain⟨G,hG⟩:=hi;exact(addE_zero hG hs).1 ((addC_eq hG hs h.2).trans h.1)
end Go.Proofs.Gr

namespace Go.Proofs.Gr
open Go.SL Go.RowKit Go.Proofs Go.GP
set_option maxHeartbeats 1000000
def dL (l:List aN):List Value:=l.flatMap bG
theorem partS_len (l:List aN):(dL l).length=l.length*102:=by unfold dL;rw[List.length_flatMap];simp[bm,List.map_const']
theorem partS_get {l:List aN}{k:Nat}(hk:k<l.length) {j:Nat}(hj:j<102):(dL l)[k*102+j]? = (bG l[k])[j]?:=by
 unfold dL;rw[fm bm l (k*102+j) (by omega),show(k*102+j) / 102=k from by omega,show(k*102+j) % 102=j from by omega,getElem!_pos l k hk]
theorem partS_some {w0:World}{S:SS}{A:Option Addr}{l:List aN}(h:Rd w0 S A (dL l)) (hk:0<l.length):∃a,A=some a:=
 h.some (fun e=>by have:=partS_len l;rw[e] at this;simp at this;omega)
theorem eL {w0:World}{S:SS}{a:Addr}{l:List aN}{k:Nat}(h:Rd w0 S (some a) (dL l)) (hk:k<l.length):∀(j:Nat) (v:Value),(bG l[k])[j]? = some v->Cell w0 S ((a.add (k*102)).add j) v:=by
 intro j v hj;have hj2:j<102:=by have:=(List.getElem?_eq_some_iff.1 hj).1;rwa [bm] at this
 rw[aZ];exact h.at (by rw[partS_get hk hj2];exact hj)
structure PartRd (w0:World) (S:SS) (p:aN):Prop where
 rdL:Rd w0 S p.LA (strs p.lines)
 rdG:Rd w0 S p.GA (aI p.gone)
 rng:PartR p
 small:p.lines.length<=100/\p.gone.length<=100
theorem PartRd.mono {w0:World}{S S':SS}{p:aN}(h:PartRd w0 S p) (hs:Over S S'):PartRd w0 S' p:=⟨h.rdL.mono hs,h.rdG.mono hs,h.rng,h.small⟩
theorem over_nil {S:SS}:Over [] S:=fun q h=>by simp at h
def bW (l:List aN):List ar:=l.map aN.pl
def q1:ar:=(p1 0).pl
def q2:ar:=(p2 0).pl
def q3:ar:=(p3 0 0).pl
theorem GG.er {w0:World}{X:SS}{m:dV}{ps:List ar}(h:GG w0 X m ps) {v:ay}(hv:v∈bh ps):Gr.er v:=by
 have hk:bu m.gr.nodes=bu m.nodes:=eV _
 have hv2:=(h.inv.keys v).2 hv
 rw[hk] at hv2;obtain⟨n,hn⟩:=mem_mks.1 hv2;exact h.ok.nk _ (dZ hn)
theorem linesP_v {ps:List ar}{k:Nat}(hk:k<(bC ps).length):(bC ps)[k].v∈bh ps:=by
 obtain⟨v,hv,e⟩:=List.mem_map.1 (show(bC ps)[k]∈(eF ps).map (lineP ps) from List.getElem_mem hk)
 rw[<- e];exact topoF_mem hv
theorem linesP_order {ps:List ar}(hs:Sq ps) {i k:Nat}(hi:i<(bC ps).length) (hk:k<=i):befP ps (bC ps)[i].v ((bC ps)[k]'(by omega)).v=false:=by
 cases e:befP ps (bC ps)[i].v ((bC ps)[k]'(by omega)).v with
 |false=>rfl
 |true=>
  have h:=befP_iff.1 e
  have hl:(bC ps).length=(eF ps).length:=List.length_map _
  have e:∀(j:Nat) (hj:j<(bC ps).length),(bC ps)[j].v=(eF ps)[j]'(by omega):=fun j hj=>congrArg aG.v (List.getElem_map (lineP ps) (h:=hj))
  rw[e,e] at h;exact absurd h (topoF_order hs (by omega) hk)
theorem befP_trans {ps:List ar}(hs:Sq ps) {a b c:ay}(h:befP ps a b=true) (k:befP ps b c=true):befP ps a c=true:=befP_iff.2 ((befP_iff.1 h).trans hs (befP_iff.1 k))
end Go.Proofs.Gr

namespace Go.Proofs.Gr
open Go.SL Go.RowKit Go.Proofs Go.GP Go.Proofs.Tryz
set_option maxHeartbeats 1000000
def gidx {α:Type}(q:α->Bool) (l:List α):Int:=match l.findIdx? q with|some k=>(k:Int)|none=>-1
theorem gidx_take {α:Type}{q:α->Bool}{l:List α}{k:Nat}(hk:k<l.length) (h:∀x∈l.take k,q x=false) (hq:q l[k] = true):gidx q l=(k:Int):=by
 unfold gidx;have:l.findIdx? q=some k:=by
  rw[List.findIdx?_eq_some_iff_getElem];refine⟨hk,hq,fun j hj=>?_⟩
  have:=h l[j] (List.mem_take_iff_getElem.2 ⟨j,by omega,rfl⟩)
  simp[this]
 rw[this]
theorem gidx_no {α:Type}{q:α->Bool}{l:List α}(h:∀x∈l,q x=false):gidx q l=-1:=by
 unfold gidx;have:l.findIdx? q=none:=by rw[List.findIdx?_eq_none_iff];exact h
 rw[this]
theorem gidx_any {α:Type}{q:α->Bool}{l:List α}:(gidx q l≥0)=(l.any q=true):=by
 unfold gidx;apply propext;cases h:l.findIdx? q with
 |none=>
  have:=List.findIdx?_eq_none_iff.1 h
  simp only[List.any_eq_true];constructor
  ·intro h;omega
  rintro⟨x,hx,hq⟩;rw[this x hx] at hq;cases hq
 |some k=>
  obtain⟨h1,h2,_⟩:=List.findIdx?_eq_some_iff_getElem.1 h;simp only[List.any_eq_true];exact⟨fun _=>⟨_,List.getElem_mem h1,h2⟩,fun _=>by omega⟩
theorem gidx_cases {α:Type}(q:α->Bool) (l:List α):(gidx q l=-1/\∀x∈l,q x=false)∨∃k,∃h:k<l.length,gidx q l=(k:Int)/\q l[k] = true/\∀x∈l.take k,q x=false:=by
 unfold gidx;cases h:l.findIdx? q with
 |none=>exact .inl ⟨rfl,List.findIdx?_eq_none_iff.1 h⟩
 |some k=>
  obtain⟨h1,h2,h3⟩:=List.findIdx?_eq_some_iff_getElem.1 h;refine .inr ⟨k,h1,rfl,h2,fun x hx=>?_⟩
  obtain⟨j,hj,rfl⟩:=List.mem_take_iff_getElem.1 hx;have:=h3 j (by omega)
  simpa using this
theorem lineV_box (x:aG):(lineV x).cells.toList=bq x:=rfl
abbrev lseg (r:Nat) (x:aG):bD:=[(r,.cells (bq x) 99 35)]
theorem line_st {w0:World}{S:SS}{P:Program}{n r:Nat}{T:TT}{x v:PV}{u:aG}{z:List Value}(hx:x.val T=some (.pointer (some ⟨r,0,none⟩))) (hv:v.val T=some (lineV u)) (hz:z.length=35) :
  OW P w0 n (.st 35 x v) T ([(r,.cells z 99 35)]::S) (fun _ S'=>S'=lseg r u::S):=by
 refine(OW.st (k:=0) (c:=z) (u:=lineV u) hx hv rfl ((List.size_toArray).trans (aJ u)) (by omega) (eW u)).mono ?_
 rintro _ _ rfl;rw[lineV_box,eP (by rw[aJ,hz])]
 rfl
section
variable {w0:World}{S:SS}{r E tot:Nat}{x:aG}
theorem lcell (hm:(r,AO.cells (bq x) E tot)∈S.flatten):∀(j:Nat) (v:Value),(bq x)[j]? = some v->Cell w0 S ((⟨r,0,none⟩:Addr).add j) v:=av hm
theorem lcell_vtx (hm:(r,AO.cells (bq x) E tot)∈S.flatten):∀(j:Nat) (v:Value),(au x.v)[j]? = some v->Cell w0 S (((⟨r,0,none⟩:Addr).add 0).add j) v:=fun j v hj=>by
 have:=lcell (w0:=w0) hm j v (by unfold bq;rw[List.getElem?_append_left (List.getElem?_eq_some_iff.1 hj).1];exact hj)
 simpa[Addr.add_lit] using this
theorem lcell_text (hm:(r,AO.cells (bq x) E tot)∈S.flatten):Cell w0 S ((⟨r,0,none⟩:Addr).add 33) (.string x.text):=lcell hm _ _ (lineC_text x).1
theorem lcell_alive (hm:(r,AO.cells (bq x) E tot)∈S.flatten):Cell w0 S ((⟨r,0,none⟩:Addr).add 34) (.bool x.alive):=lcell hm _ _ (lineC_text x).2
end
theorem lines_app (a b:List aG):lines (a++b)=lines a++lines b:=by unfold lines;rw[List.flatMap_append]
theorem lines_one (l:List aG):(lines l).all (·.oneCell')=true:=by
 unfold lines;rw[List.all_flatMap];exact List.all_eq_true.2 fun x _=>eW x
theorem lines_set {q:List aG}{i:Nat}(hi:i<q.length) (v:aG):setAt (lines q) (i*35) (bq v)=lines (q.set i v):=by
 have hl:=eT q
 have hv:=aJ v
 have e:q=q.take i++q[i]::q.drop (i+1):=by rw[List.getElem_cons_drop,List.take_append_drop]
 have e1:(lines (q.take i)).length=i*35:=by rw[eT,List.length_take,Nat.min_eq_left (by omega)]
 have e2:lines q=lines (q.take i)++(bq q[i]++lines (q.drop (i+1))):=by
  have:lines (q[i]::q.drop (i+1))=bq q[i]++lines (q.drop (i+1)):=by unfold lines;rw[List.flatMap_cons]
  rw[<- this,<- lines_app,<- e]
 have hq:=aJ q[i]
 rw[bU _ _ _ (by omega),e2,List.take_append_of_le_length (by omega),List.take_of_length_le (by omega),hv,List.drop_append,List.drop_eq_nil_of_le (by omega),e1,show i*35+35-i*35=35 by omega,List.drop_append,List.drop_eq_nil_of_le (by omega),hq,List.set_eq_take_append_cons_drop,if_pos hi,lines_app]
 unfold lines;simp
theorem madeL_len (z:List Value) (n:Nat):(madeL z n).length=n:=by simp[madeL]
theorem made_one {z:List Value}(hz:z.all (·.oneCell')=true) (h0:0<z.length) (n:Nat):(madeL z n).all (·.oneCell')=true:=by
 rw[List.all_eq_true];intro v hv;obtain⟨i,_,rfl⟩:=List.mem_map.1 hv;have hlt:=Nat.mod_lt i h0
 have:z.getD (i % z.length) undef=z[i % z.length]:=by simp[List.getD,List.getElem?_eq_getElem hlt]
 rw[this];exact List.all_eq_true.1 hz _ (List.getElem_mem hlt)
theorem indexFuncL_fc {w0:World}{S:SS}{A:Option Addr}{c:Nat}{l:List aG}{g:FuncId}{ca:List Value}{q:aG->Bool}(hx:Rd w0 S A (lines l)) (hb:l.length<=1000000000000) (hok:fnOk prog g=true)
  (hq:∀x∈l,FC prog w0 g ([]++[lineV x]++ca) S (fun u S'=>u=.bool (q x)/\S'=S)) :
  FC prog w0 83 [.slice A l.length c,.func (.func g) #[] ca.toArray] S (fun u S'=>u=.int .i64 (gidx q l)/\S'=S):=by
 refine FC.of known83 (by simp) ?_
 unfold pc83;simp only[bo];refine PW.s1 rfl (PW.k2 0 1 rfl (PW.seq fun K1 hK1=>PW.s3 rfl rfl rfl (PW.k4 0 1 7 8 rfl (PW.block ?_))))
 refine PW.k4 0 1 7 8 rfl ?_;refine PW.aR (I:=fun m T S'=>∃(k:Nat),(k<=l.length/\m=l.length-k/\∀x∈l.take k,q x=false)/\T=([(0,.slice A l.length c),(1,.func (.func g) #[] ca.toArray),(7,.int .i64 (l.length:Int)),(8,.int .i64 k)]:TT)/\S'=S) (m:=l.length) ⟨0,⟨by omega,by omega,by simp⟩,rfl,rfl⟩ ?_
 rintro m _ _ ⟨k,⟨hk,hm,hall⟩,rfl,rfl⟩;refine PW.s1 rfl (PW.k5 0 1 7 8 9 rfl (PW.seq fun K2 hK2=>?_))
 refine PW.cond rfl (fun c9=>?_) (fun c9=>?_)
 ·try simp only[aD] at c9
  have hkl:k<l.length:=by omega
  obtain⟨a0,rfl⟩:=bR hx (by omega)
  refine PW.skip (hK2 _ _ (PW.k4 0 1 7 8 rfl (PW.seq fun K3 hK3=>PW.block (PW.s2 rfl rfl (PW.k5 0 1 5 7 8 rfl (PW.ae (OL.dp rfl ?_)))))))
  refine OL.p2 rfl rfl (OL.x (Yields.bO rfl rfl rfl (by omega)) (OL.x (Yields.aT rfl (aJ _) (dA hx hkl)) (OL.c (OW.callv (fi:=[]) (ca:=ca) rfl hok rfl (hq _ (List.getElem_mem hkl))) ?_)))
  rintro _ Sx ⟨rfl,hSx⟩;rw[hSx];clear hSx;refine OL.nil (PW.k6 0 1 5 7 8 16 rfl ?_);refine PW.cond rfl (fun c16=>?_) (fun c16=>?_)
  ·skip;have hqt:q l[k] = true:=by simpa using c16
   exact PW.s2 rfl rfl (PW.k1 4 rfl (PW.ret (zR rfl ⟨by rw[gidx_take hkl hall hqt],rfl⟩)))
  skip;refine PW.skip (hK3 _ _ (PW.k4 0 1 7 8 rfl (PW.ops (OL.x (Yields.ao rfl rfl (by omega) (by omega)) (OL.n1 rfl ?_)))))
  refine af.mk (T'':=[(0,_),(1,_),(7,_),(8,_)]) (wi rfl) ?_;refine⟨l.length-(k+1),by omega,k+1,⟨by omega,rfl,fun x hx=>?_⟩,rfl,rfl⟩
  rw[aA hkl] at hx;rcases List.mem_append.1 hx with h|h
  ·exact hall x h
  rw[List.mem_singleton] at h;subst h;simpa using c16
 try simp only[aD] at c9
 exact PW.exit (hK1 _ _ (PW.cD (T':=[]) trivial (PW.s1 rfl (PW.k1 4 rfl (PW.ret (zR rfl ⟨by rw[gidx_no (fun x hx=>hall x (by rw[List.take_of_length_le (by omega)];exact hx))],rfl⟩))))))
theorem dead_fc {w0:World}{S:SS}{x:aG}:FC prog w0 39 [lineV x] S (fun v S'=>v=.bool (!x.alive)/\S'=S):=by
 refine FC.ofD known39 (by simp) ?_
 unfold pc39;simp only[bo];refine PW.ae (OL.c (OW.bx rfl) ?_);rintro _ _ ⟨r1,rfl,rfl⟩;rw[lineV_box,aJ];exact OL.n1 rfl (PW.k1 1 rfl (PW.ae (OL.dp rfl (OL.x (Yields.ld rfl (lcell_alive (x:=x) (E:=99) (tot:=35) bF)) (OL.n2 rfl rfl (PW.k1 2 rfl (PW.ret (zR rfl ⟨_,Sub.drop (Sub.refl _),rfl,rfl⟩))))))))
def live (l:List aG):List aG:=l.filter (·.alive)
theorem live_snoc {l:List aG}{j:Nat}(hj:j<l.length):live (l.take (j+1))=if l[j].alive then live (l.take j)++[l[j]] else live (l.take j):=by
 unfold live;rw[aA hj,List.filter_append,List.filter_cons,List.filter_nil];split<;>simp
theorem live_len (l:List aG):(live l).length<=l.length:=List.length_filter_le _ _
structure Pack (l R:List aG) (i j:Nat):Prop where
 jl:j<=l.length
 n:R.length=l.length
 ij:i<j
 pre:R.take i=live (l.take j)
 suf:R.drop j=l.drop j
theorem Pack.at {l R:List aG}{i j:Nat}(h:Pack l R i j) (hj:j<l.length):R[j]'(by have:=h.n;omega)=l[j]:=by
 have h1:=h.suf
 have hR:j<R.length:=by have:=h.n;omega
 have h2:(R.drop j)[0]? = (l.drop j)[0]?:=by rw[h1]
 rw[List.getElem?_drop,List.getElem?_drop,Nat.add_zero,List.getElem?_eq_getElem hR,List.getElem?_eq_getElem hj] at h2;exact Option.some.inj h2
theorem Pack.cD {l R:List aG}{i j:Nat}(h:Pack l R i j) (hj:j<l.length) (ha:l[j].alive=true):Pack l (R.set i l[j]) (i+1) (j+1) where
 jl:=by omega
 n:=by rw[List.length_set];exact h.n
 ij:=by have:=h.ij;omega
 pre:=by
  have hi:=h.ij
  have hR:=h.n
  rw[live_snoc hj,if_pos ha,<- h.pre,aA (by rw[List.length_set];omega),List.getElem_set_self,List.take_set_of_le (Nat.le_refl i)]
 suf:=by
  have hi:=h.ij
  have h1:R.drop (j+1)=l.drop (j+1):=by
   have:=congrArg (List.drop 1) h.suf
   simpa[List.drop_drop] using this
  rw[List.drop_set_of_lt (by omega)]
  exact h1
theorem Pack.skip {l R:List aG}{i j:Nat}(h:Pack l R i j) (hj:j<l.length) (ha:l[j].alive=false):Pack l R i (j+1) where
 jl:=by omega
 n:=h.n
 ij:=by have:=h.ij;omega
 pre:=by rw[live_snoc hj,if_neg (by rw[ha];simp)];exact h.pre
 suf:=by
  have:=congrArg (List.drop 1) h.suf
  simpa[List.drop_drop] using this
theorem lines_take {l:List aG}{i:Nat}(hi:i<=l.length):(lines l).take (i*35)=lines (l.take i):=by
 have e:lines l=lines (l.take i)++lines (l.drop i):=by rw[<- lines_app,List.take_append_drop]
 have e1:(lines (l.take i)).length=i*35:=by rw[eT,List.length_take,Nat.min_eq_left hi]
 rw[e,List.take_append_of_le_length (by omega),List.take_of_length_le (by omega)]
theorem setAt_take {c d:List Value}{o:Nat}(h:o+d.length<=c.length):(setAt c o d).take o=c.take o:=by
 rw[bU _ _ _ h,List.append_assoc,List.take_append_of_le_length (by rw[List.length_take];omega),List.take_take,Nat.min_self]
def zLine:aG:=⟨v0,⟨#[]⟩,false⟩
theorem deleteDead_fc {w0:World}{S:SS}{A:Option Addr}{c:Nat}{l:List aG}{seg:bD}(h:aV 99 35 (.slice A l.length c) l.length (lines l) seg) (hb:l.length<=1000000000) :
  FC prog w0 37 [.slice A l.length c,.func (.func 39) #[] #[]] (seg::S) (fun v S'=>∃seg',S'=seg'::S/\aV 99 35 v (live l).length (lines (live l)) seg'):=by
 obtain⟨A2,c2,e2,hnA,hcA,hrd0⟩:=aF (w0:=w0) h;obtain⟨rfl,rfl⟩:A=A2/\c=c2:=by simpa using e2
 have hrd:=hrd0 S
 refine FC.ofD known37 (by simp) ?_
 unfold pc37;simp only[bo];refine PW.s1 rfl (PW.k2 0 1 rfl (PW.ae (OL.p2 rfl rfl ?_)));refine OL.q rfl (indexFuncL_fc (g:=39) (ca:=[]) (q:=fun x=>!x.alive) hrd (by omega) (by kernel_rfl) (fun x _=>dead_fc)) ?_
 obtain⟨iz,hiz⟩:∃z,z=gidx (fun x:aG=>!x.alive) l:=⟨_,rfl⟩
 have hcs:=gidx_cases (fun x:aG=>!x.alive) l
 rw[<- hiz] at hcs ⊢;refine OL.n1 rfl (PW.k3 0 1 5 rfl (PW.seq fun K1 hK1=>PW.s2 rfl rfl (PW.k4 0 1 5 12 rfl ?_)))
 refine PW.cond rfl (fun c12=>?_) (fun c12=>?_)
 ·skip;have hi1:iz=-1:=by simpa using c12
  have hall:∀x∈l,(!x.alive)=false:=by
   rcases hcs with⟨_,h⟩|⟨k,hk,e,_⟩
   ·exact h
   omega
  have hlv:live l=l:=List.filter_eq_self.2 fun x hx=>by have:=hall x hx;simpa using this
  refine PW.s2 rfl rfl (PW.k1 4 rfl ?_);refine PW.ret (zR rfl ?_);rw[<- hlv] at h;exact⟨_,Sub.refl _,seg,rfl,by rw[hlv] at h ⊢;exact h⟩
 skip;have hi1:iz≠-1:=by simpa using c12
 obtain⟨i0,hi0,rfl,hdead,hpre⟩:∃k,∃h:k<l.length,iz=(k:Int)/\l[k].alive=false/\∀x∈l.take k,x.alive=true:=by
  rcases hcs with⟨e,_⟩|⟨k,hk,e,h1,h2⟩
  ·exact absurd e hi1
  exact⟨k,hk,e,by simpa using h1,fun x hx=>by have:=h2 x hx;simpa using this⟩
 obtain⟨r,c3,e3,rfl,hlc,hcm⟩:=slv_own h (by omega)
 obtain⟨rfl,rfl⟩:A=some ⟨r,0,none⟩/\c=c3:=by simpa using e3
 have hp0:Pack l l i0 (i0+1):=⟨by omega,rfl,by omega,by
  rw[live_snoc hi0,if_neg (by rw[hdead];simp)]
  exact(List.filter_eq_self.2 hpre).symm,rfl⟩
 refine PW.skip (hK1 _ _ (PW.k3 0 1 5 rfl (PW.seq fun K2 hK2=>PW.ae (OL.dp rfl (OL.x (Yields.to (v':=.int .i64 ((i0+1:Nat):Int)) (Yields.ao rfl rfl (by omega) (by omega)) rfl) (OL.n1 rfl (PW.k4 0 1 5 6 rfl (PW.block (PW.k4 0 1 5 6 rfl ?_)))))))))
 refine PW.aR (I:=fun mm T S'=>∃(i j:Nat) (R:List aG),(Pack l R i j/\mm=l.length-j)/\T=([(0,.slice (some ⟨r,0,none⟩) l.length c),(1,.func (.func 39) #[] #[]),(5,.int .i64 i),(6,.int .i64 j)]:TT)/\S'=[(r,.cells (lines R) 99 (c*35))]::S) (m:=l.length-(i0+1)) ⟨i0,i0+1,l,⟨hp0,by omega⟩,rfl,rfl⟩ ?_
 rintro mm _ _ ⟨i,j,R,⟨hp,hmm⟩,rfl,rfl⟩;refine PW.seq fun K3 hK3=>PW.s4 rfl rfl rfl rfl (PW.k5 0 1 5 6 19 rfl ?_)
 refine PW.cond rfl (fun c19=>?_) (fun c19=>?_)
 ·try simp only[aD] at c19
  have hjl:j<l.length:=by omega
  have hRn:=hp.n
  have hpi:=hp.ij
  have hrdR:Rd w0 ([(r,.cells (lines R) 99 (c*35))]::S) (some ⟨r,0,none⟩) (lines R):=Rd.own (E:=99) (tot:=c*35) (by simp)
  refine PW.skip (hK3 _ _ (PW.k4 0 1 5 6 rfl (PW.seq fun K4 hK4=>PW.block (PW.ae (OL.p2 rfl rfl (OL.x (Yields.ixO rfl rfl rfl hjl) ?_))))))
  refine OL.x (Yields.aT rfl (aJ _) ((fun i v hv=>by have:=dA (k:=j) hrdR (by omega) i v hv;simpa[Addr.add_lit] using this:∀(i:Nat) (v:Value),(bq (R[j]'(by omega)))[i]? = some v->Cell w0 ([(r,.cells (lines R) 99 (c*35))]::S) ((⟨r,j*35,none⟩:Addr).add i) v))) ?_
  refine OL.c OW.al ?_;rintro _ _ ⟨r7,rfl,rfl⟩;rw[hp.at hjl];refine OL.c (line_st rfl rfl rfl) ?_;rintro _ _ rfl;refine OL.nil (PW.k5 0 1 5 6 7 rfl (PW.ae (OL.dp rfl (OL.x (Yields.aT rfl (aJ _) (lcell (x:=l[j]) (E:=99) (tot:=35) bF)) ?_))));refine OL.c (OW.callv (fi:=[]) (ca:=[]) rfl (by kernel_rfl) rfl dead_fc) ?_
  rintro _ Sx ⟨rfl,hSx⟩;rw[hSx];clear hSx;refine OL.n1 rfl (PW.k6 0 1 5 6 7 29 rfl ?_);refine PW.cond rfl (fun c29=>?_) (fun c29=>?_)
  ·skip;have hal:l[j].alive=true:=by simpa using c29
   refine PW.ae (OL.p2 rfl rfl (OL.x (Yields.aT rfl (aJ _) (lcell (x:=l[j]) (E:=99) (tot:=35) bF)) (OL.x (Yields.ixO rfl rfl rfl (by omega)) ?_)))
   refine OL.c (OW.st (k:=1) (c:=lines R) (u:=lineV l[j]) rfl rfl rfl ((List.size_toArray).trans (aJ _)) (by rw[eT];omega) (eW _)) ?_
   rintro _ _ rfl;rw[lineV_box,lines_set (by omega)]
   refine OL.nil (PW.k4 0 1 5 6 rfl (PW.ops (OL.dp rfl (OL.x (Yields.ao rfl rfl (by omega) (by omega)) (OL.n1 rfl (hK4 _ _ (PW.k4 0 1 5 6 rfl (PW.ops (OL.dp rfl (OL.x (Yields.ao rfl rfl (by omega) (by omega)) ?_))))))))))
   refine OL.n1 rfl ?_;refine af.dE (Sub.drop (Sub.refl _)) (T'':=[(0,_),(1,_),(5,_),(6,_)]) (wi rfl) ?_
   first
    |exact⟨l.length-(j+1),by omega,i+1,j+1,R.set i l[j],⟨hp.cD hjl hal,rfl⟩,rfl,rfl⟩
    |exact⟨l.length-(j+1),by omega,i,j+1,R,⟨hp.skip hjl hal,rfl⟩,rfl,rfl⟩
  skip;have hal:l[j].alive=false:=by simpa using c29
  refine PW.skip (hK4 _ _ (PW.k4 0 1 5 6 rfl (PW.ops (OL.dp rfl (OL.x (Yields.ao rfl rfl (by omega) (by omega)) (OL.n1 rfl ?_))))))
  refine af.dE (Sub.drop (Sub.refl _)) (T'':=[(0,_),(1,_),(5,_),(6,_)]) (wi rfl) ?_
  first
   |exact⟨l.length-(j+1),by omega,i+1,j+1,R.set i l[j],⟨hp.cD hjl hal,rfl⟩,rfl,rfl⟩
   |exact⟨l.length-(j+1),by omega,i,j+1,R,⟨hp.skip hjl hal,rfl⟩,rfl,rfl⟩
 try simp only[aD] at c19
 have hpi:=hp.ij
 have hRn:=hp.n
 have hpj:=hp.jl
 obtain rfl:j=l.length:=by omega
 have hpp:=hp.pre
 rw[List.take_length] at hpp;refine PW.exit (hK2 _ _ (PW.k2 0 5 rfl (PW.ae (OL.p2 rfl rfl ?_))));refine OL.x (Yields.to (v':=.slice (some ⟨r,i*35,none⟩) (l.length-i) (c-i)) (Yields.slS (A:=some ⟨r,0,none⟩) (len:=l.length) (cap:=c) (l:=i) (h:=l.length) rfl rfl rfl (.inl rfl) (.inr ⟨rfl,rfl⟩) (by omega) (by omega)) (by unfold cutV;rw[if_neg (by omega)];simp[Addr.add_lit])) ?_
 have hz35:(Value.agg (bq zLine).toArray).cells.toList=bq zLine:=rfl
 have hzl:=aJ zLine
 have hml:=madeL_len (bq zLine) ((l.length-i)*35)
 refine OL.c (OW.clr (k:=0) (c:=lines R) (z:=lineV zLine) (news:=madeL (bq zLine) ((l.length-i)*35)) rfl rfl (by omega) (by decide) rfl (by rw[hml,eT];omega) (made_one (eW _) (by omega) _)) ?_
 rintro _ _ ⟨rfl,rfl⟩;refine OL.tell (k:=0) rfl (fun w h=>owns_take (i*35) h) ?_
 change OL _ _ _ _ _ ([(r,.cells ((setAt (lines R) (i*35) (madeL (bq zLine) ((l.length-i)*35))).take (i*35)) 99 (c*35))]::S) _;rw[setAt_take (by rw[hml,eT];omega),lines_take (by omega)]
 refine OL.nil (PW.k2 0 5 rfl (PW.ae (OL.p2 rfl rfl (OL.x (Yields.to (v':=.slice (some ⟨r,0,none⟩) i c) (Yields.slS (A:=some ⟨r,0,none⟩) (len:=l.length) (cap:=c) (l:=0) (h:=i) rfl rfl rfl (.inr ⟨rfl,rfl⟩) (.inl rfl) (by omega) (by omega)) (cutV0 _ _ _ _)) (OL.n1 rfl (PW.k1 4 rfl ?_))))))
 refine PW.ret (zR rfl ?_);refine⟨_,Sub.refl _,_,rfl,?_⟩;have hil:i=(live l).length:=by rw[<- hpp,List.length_take,hRn,Nat.min_eq_left (by omega)]
 rw[hpp];rw[show Value.slice (some ⟨r,0,none⟩) i c=.slice (some ⟨r,0,none⟩) (live l).length c from by rw[hil]]
 exact aV.mk' (by rw[eT]) (by omega) hcm
end Go.Proofs.Gr

namespace Go.Proofs.Gr
open Go.SL Go.RowKit Go.Proofs Go.GP
structure aB where
 lines:List aG
 block:Bool
 cY:List Int
noncomputable def ordP (ps:List ar) (a b:ay):Bool:=befP ps a b || befP ps b a
theorem ordP_comm (ps:List ar) (a b:ay):ordP ps a b=ordP ps b a:=by unfold ordP;rw[Bool.or_comm]
noncomputable def cP (ps:List ar) (l:List aG) (k:Nat):List Int:=((List.range k).filter fun i=>decide (0<i) && !ordP ps l[i-1]!.v l[i]!.v).map Int.ofNat
noncomputable def blockP (ps:List ar) (l:List aG):aB:=⟨l,true,cP ps l l.length⟩
theorem midsK_succ (ps:List ar) (l:List aG) (k:Nat):cP ps l (k+1)=if(decide (0<k) && !ordP ps l[k-1]!.v l[k]!.v)=true then cP ps l k++[(k:Int)] else cP ps l k:=by
 unfold cP;rw[List.range_succ,List.filter_append,List.map_append,List.filter_cons,List.filter_nil];split<;>simp
noncomputable def cR (ps:List ar) (l:List aG) (x:aG):Bool:=l.all fun y=>decide (x.v=y.v) || ordP ps x.v y.v
noncomputable def shut (ps:List ar) (open_:List aG):List aB:=if open_=[] then [] else [blockP ps open_]
noncomputable def stepI (ps:List ar) (l:List aG) (st:List aB×List aG) (x:aG):List aB×List aG:=
 if cR ps l x then(st.1++shut ps st.2++[⟨[x],false,[]⟩],[]) else(st.1,st.2++[x])
noncomputable def foldI (ps:List ar) (l:List aG) (k:Nat):List aB×List aG:=(l.take k).foldl (stepI ps l) ([],[])
noncomputable def itemsL (ps:List ar) (l:List aG):List aB:=(foldI ps l l.length).1++shut ps (foldI ps l l.length).2
noncomputable def b7 (ps:List ar):List aB:=itemsL ps (live (bC ps))
theorem fy {ps:List ar}{l:List aG}{k:Nat}(hk:k<l.length):foldI ps l (k+1)=stepI ps l (foldI ps l k) l[k]:=by
 unfold foldI;rw[aA hk,List.foldl_append];rfl
end Go.Proofs.Gr
namespace Go.Proofs.Gr
open Go.SL Go.RowKit Go.Proofs Go.GP
def beginB:ByteArray:=⟨#[62,62,62,62,62,62,62]⟩
def middleB:ByteArray:=⟨#[61,61,61,61,61,61,61]⟩
def closeB:ByteArray:=⟨#[60,60,60,60,60,60,60]⟩
def bp (x:aB) (k:Nat):List ByteArray:=(List.range k).flatMap fun(i:Nat)=>(if x.block && x.cY.contains (i:Int) then [middleB] else [])++[x.lines[i]!.text]
def dT (x:aB):List ByteArray:=(if x.block then [beginB] else [])++bp x x.lines.length++(if x.block then [closeB] else [])
def cJ (l:List aB):List ByteArray:=l.flatMap dT
instance:Inhabited aB:=⟨⟨[],false,[]⟩⟩
theorem rowsT_succ (x:aB) (k:Nat):bp x (k+1)=bp x k++((if x.block && x.cY.contains (k:Int) then [middleB] else [])++[x.lines[k]!.text]):=by
 unfold bp;rw[List.range_succ,List.flatMap_append];simp
theorem eu (x:aB):∀k,(bp x k).length<=2*k
 |0=>by simp[bp]
 |k+1=>by
  rw[rowsT_succ,List.length_append,List.length_append];have:=eu x k
  split<;>simp<;>omega
theorem textI_snoc {l:List aB}{k:Nat}(hk:k<l.length):cJ (l.take (k+1))=cJ (l.take k)++dT l[k]:=by
 unfold cJ;rw[aA hk,List.flatMap_append];simp
theorem oneT_len (x:aB):(dT x).length<=2*x.lines.length+2:=by
 unfold dT;have:=eu x x.lines.length
 simp only[List.length_append];split<;>simp<;>omega
theorem eQ {l:List aB}{N:Nat}(h:∀x∈l,x.lines.length<=N):∀k,k<=l.length->(cJ (l.take k)).length<=(2*N+2)*k
 |0,_=>by simp[cJ]
 |k+1,hk=>by
  rw[textI_snoc (by omega),List.length_append]
  have h1:=eQ h k (by omega)
  have h2:=oneT_len l[k]
  have h3:=h _ (List.getElem_mem (show k<l.length by omega))
  rw[Nat.mul_succ];omega
end Go.Proofs.Gr

namespace Go.Proofs.Gr
open Go.SL Go.RowKit Go.Proofs Go.GP Go.Proofs.Tryz
set_option maxHeartbeats 1000000
structure bg where
 LA:Option Addr
 lc:Nat
 lines:List aG
 block:Bool
 MA:Option Addr
 mc:Nat
 cY:List Int
instance:Inhabited bg:=⟨⟨none,0,[],false,none,0,[]⟩⟩
def bg.pl (x:bg):aB:=⟨x.lines,x.block,x.cY⟩
def bA (x:bg):List Value:=[.slice x.LA x.lines.length x.lc,.bool x.block,.slice x.MA x.cY.length x.mc]
def itemV (x:bg):Value:=.agg (bA x).toArray
def bl (l:List bg):List Value:=l.flatMap bA
theorem cU (x:bg):(bA x).length=3:=rfl
theorem eR (l:List bg):(bl l).length=l.length*3:=by unfold bl;rw[List.length_flatMap];simp[cU,List.map_const']
theorem itemS_app (a b:List bg):bl (a++b)=bl a++bl b:=by unfold bl;rw[List.flatMap_append]
theorem item_box (x:bg):(itemV x).cells.toList=bA x:=rfl
theorem item_read {w0:World}{S:SS}{r E tot:Nat}{u:bg}(hm:(r,AO.cells (bA u) E tot)∈S.flatten):ReadsAs w0 S (some 3) ⟨r,0,none⟩ (itemV u):=⟨bA u,rfl,rfl,av hm⟩
theorem ints_snoc {v:Value}{l:List Int}{z:Int}{seg:bD}(h:aV 3 1 v (l.length+1) (ints l++[Value.int .i64 z]) seg):aV 3 1 v (l++[z]).length (ints (l++[z])) seg:=by
 rw[List.length_append];unfold ints at h ⊢;rw[List.map_append];exact h
theorem ordered_fc {w0:World}{S X:SS}{m:dV}{ps:List ar}{x y:aG}(h:GG w0 X m ps) (hS:Over (GS m++X) S) (hx:er x.v) (hy:er y.v) :
  FC prog w0 40 [m.ptr,lineV x,lineV y] S (fun v S'=>v=.bool (ordP ps x.v y.v)/\S'=S):=by
 refine FC.ofD known40 (by simp) ?_
 unfold pc40;simp only[bo];refine PW.ae (OL.c (OW.bx rfl) ?_);rintro _ _ ⟨r4,rfl,rfl⟩;rw[lineV_box,aJ];refine OL.c (OW.bx rfl) ?_;rintro _ _ ⟨r5,rfl,rfl⟩;rw[lineV_box,aJ];refine OL.n1 rfl (PW.k3 0 4 5 rfl (PW.ae (OL.p2 rfl rfl (OL.x (Yields.aT rfl (aa _) (lcell_vtx (x:=x) (E:=99) (tot:=35) dm)) (OL.dp rfl (OL.x (Yields.aT rfl (aa _) (lcell_vtx (x:=y) (E:=99) (tot:=35) bF)) (OL.q rfl (before2_fc h hS.cons.cons hx hy) ?_)))))));refine OL.bool trivial (Yields.pure rfl) (fun g13=>?_) (fun g13=>?_)
 ·try simp only[aD] at g13
  refine OL.off rfl rfl (OL.off rfl rfl (OL.off rfl rfl (OL.off rfl rfl (OL.off rfl rfl (OL.off rfl rfl (OL.n2 rfl rfl (PW.k1 6 rfl ?_)))))));refine PW.ret (zR rfl ?_)
  first
   |exact⟨_,Sub.drop (Sub.drop (Sub.refl _)),by unfold ordP;rw[g13];rfl,rfl⟩
 try simp only[aD] at g13
 refine OL.ak rfl (.pure rfl) (OL.ak rfl (.pure rfl) (OL.ak rfl (.aT rfl (aa _) (lcell_vtx (x:=y) (E:=99) (tot:=35) bF)) (OL.ak rfl (.pure rfl) (OL.ak rfl (.aT rfl (aa _) (lcell_vtx (x:=x) (E:=99) (tot:=35) dm)) (OL.call rfl rfl (before2_fc h hS.cons.cons hy hx) ?_)))));rintro _ Sx ⟨rfl,hSx⟩;rw[hSx];clear hSx;refine OL.n2 rfl rfl (PW.k1 6 rfl ?_);refine PW.ret (zR rfl ?_)
 first
  |exact⟨_,Sub.drop (Sub.drop (Sub.refl _)),by unfold ordP;rw[g13];rfl,rfl⟩
theorem block_fc {w0:World}{S X:SS}{m:dV}{ps:List ar}{A:Option Addr}{c:Nat}{l:List aG}(h:GG w0 X m ps) (hS:Over (GS m++X) S) (hx:Rd w0 S A (lines l)) (hv:∀x∈l,er x.v) (hl:l.length<=1000000) :
    FC prog w0 41 [m.ptr,.slice A l.length c] S (fun v S'=>∃M mc seg,v=itemV ⟨A,c,l,true,M,mc,cP ps l l.length⟩/\S'=seg::S/\aV 3 1 (.slice M (cP ps l l.length).length mc) (cP ps l l.length).length (ints (cP ps l l.length)) seg):=by
  refine FC.ofC known41 (by simp) ?_
  unfold pc41;simp only[bo];refine PW.ae (OL.c OW.al ?_);rintro _ _ ⟨r4,rfl,rfl⟩;refine OL.nil (PW.k3 0 1 4 rfl (PW.ae (OL.dp rfl (OL.x (Yields.build rfl) (OL.c OW.al ?_)))));rintro _ _ ⟨r5,rfl,rfl⟩;refine OL.c (OW.st (k:=0) (c:=[.slice none 0 0,.bool false,.slice none 0 0]) (u:=.agg #[.slice A l.length c,.bool true,.slice none 0 0]) rfl rfl rfl rfl (Nat.le_refl 3) rfl) ?_;rintro _ _ rfl;refine OL.bZ (S':=[]::[(r5,.cells [.slice A l.length c,.bool true,.slice none 0 0] 75 3)]::[(r4,.cells [.slice none 0 0,.bool false,.slice none 0 0] 75 3)]::S) (Sub.cL (Sub.refl _)) (OL.nil (PW.k4 0 1 4 5 rfl (PW.seq fun K1 hK1=>PW.s1 rfl (PW.k5 0 1 4 5 6 rfl (PW.block (PW.k5 0 1 4 5 6 rfl ?_))))))
  refine PW.aR (I:=fun mm T S'=>∃(i:Nat) (vm:Value) (ms:List Int) (segm:bD),(1<=i/\(i<=l.length∨i=1)/\mm=l.length-i/\ms=cP ps l i/\ms.length<=i/\aV 3 1 vm ms.length (ints ms) segm)/\T=([(0,m.ptr),(1,.slice A l.length c),(4,.pointer (some ⟨r4,0,none⟩)),(5,.pointer (some ⟨r5,0,none⟩)),(6,.int .i64 i)]:TT)/\S'=segm::[(r5,.cells [.slice A l.length c,.bool true,vm] 75 3)]::[(r4,.cells [.slice none 0 0,.bool false,.slice none 0 0] 75 3)]::S) (m:=l.length-1) ⟨1,_,[],[],⟨Nat.le_refl 1,.inr rfl,rfl,by simp[cP],Nat.zero_le _,aV.nil 3 1⟩,rfl,rfl⟩ ?_
  rintro mm _ _ ⟨i,vm,ms,segm,⟨hi1,hil0,hmm,hms,hmsl,hsm⟩,rfl,rfl⟩;refine PW.seq fun K2 hK2=>PW.s4 rfl rfl rfl rfl (PW.k6 0 1 4 5 6 12 rfl ?_)
  refine PW.cond rfl (fun c12=>?_) (fun c12=>?_)
  · try simp only[aD] at c12
    have hil:i<l.length:=by omega
    have hx2:Rd w0 (segm::[(r5,.cells [.slice A l.length c,.bool true,vm] 75 3)]::[(r4,.cells [.slice none 0 0,.bool false,.slice none 0 0] 75 3)]::S) A (lines l):=hx.cons.cons.cons
    obtain⟨a0,rfl⟩:=bR hx (by omega)
    refine PW.skip (hK2 _ _ (PW.k5 0 1 4 5 6 rfl (PW.seq fun K3 hK3=>PW.block (PW.seq fun K4 hK4=>PW.aQ mixed (QK.p3 rfl rfl rfl (QK.x (Yields.cH rfl rfl (by omega) (by omega)) ?_))))))
    refine QK.x (Yields.bO rfl rfl (show((i:Nat):Int)-1=((i-1:Nat):Int) by omega) (by omega)) ?_
    refine QK.x (Yields.aT rfl (aJ _) (dA (k:=i-1) hx2 (by omega))) (QK.p2 rfl rfl (QK.x (Yields.bO rfl rfl rfl (by omega)) (QK.x (Yields.aT rfl (aJ _) (dA hx2 hil)) (QK.nil ?_))))
    change OL _ _ _ [_,_] _ _ _;refine OL.q rfl (ordered_fc (x:=l[i-1]) (y:=l[i]) h hS.cons.cons.cons (hv _ (List.getElem_mem _)) (hv _ (List.getElem_mem _))) (OL.n1 rfl (hK4 _ _ (PW.k6 0 1 4 5 6 26 rfl ?_)));refine PW.cond rfl (fun c26=>?_) (fun c26=>?_)
    · skip
      refine PW.ops (OL.dp rfl (OL.x (Yields.ld rfl (az (j:=2) (c:=[.slice (some a0) l.length c,.bool true,vm]) (E:=75) (tot:=3) dm rfl)) (OL.dp rfl ?_)));apply OL.bV (k:=0)
      · rfl
      · rfl
      · rfl
      · rfl
      · rfl
      · rfl
      · exact hsm
      · rfl
      · omega
      · unfold maxLen;omega
      intro v31 segd hsd;obtain⟨Ad,cd,rfl,hnd,hcd,hrdd⟩:=aF (w0:=w0) hsd;change OL _ _ _ _ _ (segd::[(r5,.cells [.slice (some a0) l.length c,.bool true,vm] 75 3)]::[(r4,.cells [.slice none 0 0,.bool false,.slice none 0 0] 75 3)]::S) _;refine OL.dp rfl (OL.c (OW.st (k:=1) (c:=[.slice (some a0) l.length c,.bool true,vm]) (u:=.slice Ad (ms.length+1) cd) rfl rfl rfl rfl (Nat.le_refl 3) rfl) ?_);rintro _ _ rfl;change OL _ _ _ _ _ (segd::[(r5,.cells [.slice (some a0) l.length c,.bool true,.slice Ad (ms.length+1) cd] 75 3)]::[(r4,.cells [.slice none 0 0,.bool false,.slice none 0 0] 75 3)]::S) _;refine OL.nil (hK3 _ _ (PW.k5 0 1 4 5 6 rfl (PW.ops (OL.dp rfl (OL.x (Yields.ao rfl rfl (by omega) (by omega)) (OL.n1 rfl ?_))))))
      refine af.mk (T'':=[(0,_),(1,_),(4,_),(5,_),(6,_)]) (wi rfl) ?_;have hms2:=midsK_succ ps l i
      rw[getElem!_pos l (i-1) (by omega),getElem!_pos l i hil,decide_eq_true (show 0<i by omega),Bool.true_and] at hms2
      first
        | (rw [if_pos c26, <- hms] at hms2
           exact⟨l.length-(i+1),by omega,i+1,_,ms++[(i:Int)],segd,⟨by omega,.inl (by omega),rfl,hms2.symm,by rw[List.length_append];exact Nat.succ_le_succ hmsl,ints_snoc hsd⟩,rfl,rfl⟩)
        | (rw [if_neg (by rw [c26]; simp), <- hms] at hms2
           exact⟨l.length-(i+1),by omega,i+1,vm,ms,segm,⟨by omega,.inl (by omega),rfl,hms2.symm,by omega,hsm⟩,rfl,rfl⟩)
    skip;refine PW.skip (hK3 _ _ (PW.k5 0 1 4 5 6 rfl (PW.ops (OL.dp rfl (OL.x (Yields.ao rfl rfl (by omega) (by omega)) (OL.n1 rfl ?_))))))
    refine af.mk (T'':=[(0,_),(1,_),(4,_),(5,_),(6,_)]) (wi rfl) ?_;have hms2:=midsK_succ ps l i
    rw[getElem!_pos l (i-1) (by omega),getElem!_pos l i hil,decide_eq_true (show 0<i by omega),Bool.true_and] at hms2
    first
      | (rw [if_pos c26, <- hms] at hms2
         exact⟨l.length-(i+1),by omega,i+1,_,ms++[(i:Int)],segd,⟨by omega,.inl (by omega),rfl,hms2.symm,by rw[List.length_append];exact Nat.succ_le_succ hmsl,ints_snoc hsd⟩,rfl,rfl⟩)
      | (rw [if_neg (by rw [c26]; simp), <- hms] at hms2
         exact⟨l.length-(i+1),by omega,i+1,vm,ms,segm,⟨by omega,.inl (by omega),rfl,hms2.symm,by omega,hsm⟩,rfl,rfl⟩)
  try simp only[aD] at c12
  refine PW.exit (hK1 _ _ (PW.k2 4 5 rfl (PW.ae ?_)));have hkm:cP ps l i=cP ps l l.length:=by
    by_cases h0:l.length=0
    · have:i=1:=by omega
      subst this;rw[h0,midsK_succ,if_neg (by simp)]
    rw[show i=l.length by omega]
  rw[hkm] at hms;obtain⟨Am,cm,rfl,hnm,hcm,hrdm⟩:=aF (w0:=w0) hsm;refine OL.x (Yields.aT rfl (cs:=[.slice A l.length c,.bool true,.slice Am ms.length cm]) rfl (av (c:=[.slice A l.length c,.bool true,.slice Am ms.length cm]) (E:=75) (tot:=3) dm)) (OL.c (OW.st (k:=2) (c:=[.slice none 0 0,.bool false,.slice none 0 0]) (u:=.agg #[.slice A l.length c,.bool true,.slice Am ms.length cm]) rfl rfl rfl rfl (Nat.le_refl 3) rfl) ?_);rintro _ _ rfl;refine OL.nil (PW.k1 4 rfl (PW.ret ?_));subst hms;exact⟨.inr rfl,_,itemV ⟨A,c,l,true,Am,cm,cP ps l l.length⟩,rfl,item_read (E:=75) (tot:=3) zM2,_,Sub.cons (Sub.drop (Sub.drop (Sub.refl _))),Am,cm,segm,rfl,rfl,hsm⟩
end Go.Proofs.Gr

namespace Go.Proofs.Gr
open Go.SL Go.RowKit Go.Proofs Go.GP
theorem _root_.Go.GP.New.more {ps qs:List ar}{p:ar}(h:New ps p) (hs:∀q∈ps,q∈qs) (hn:∀q∈qs,q.name≠p.name) (ho:∀v∈own p,v∉bh qs):New qs p:=
 ⟨hn,ho,h.first,h.upE,h.downR,h.gone0,h.goneR,h.up.mono hs,h.down.mono hs,fun v hv=>by
  obtain⟨q,hq,hvq⟩:=bN.1 (h.gone v hv);exact bN.2 ⟨q,hs q hq,hvq⟩,h.bef.mono hs⟩
theorem _root_.Go.GP.Sq.gr {ps:List ar}(h:Sq ps):∃G,GP.Inv ps G:=by
 induction h with
 |nil=>exact⟨_,GP.Inv.nil⟩
 |cons h t ih=>
  obtain⟨G,hG⟩:=ih;exact⟨_,hG.add t h⟩
end Go.Proofs.Gr

namespace Go.Proofs.Gr
open Go.SL Go.RowKit Go.Proofs Go.GP
set_option maxHeartbeats 1000000
theorem partS_app (a b:List aN):dL (a++b)=dL a++dL b:=by unfold dL;rw[List.flatMap_append]
theorem partS_one (l:List aN):(dL l).all (·.oneCell')=true:=by
 unfold dL;rw[List.all_flatMap];exact List.all_eq_true.2 fun x _=>partC_one x
section
variable {w0:World}{S:SS}{a:Addr}{l:List aN}{k:Nat}
end
structure PartB (w0:World) (p:aN):Prop where
 rdL:Rd w0 [] p.LA (strs p.lines)
 rdG:Rd w0 [] p.GA (aI p.gone)
 rng:PartR p
 small:p.lines.length<=12/\p.gone.length<=12
 text:∀s∈p.lines,s.size<=140737488351232
theorem pls_app (a b:List aN):bW (a++b)=bW a++bW b:=List.map_append
theorem pls_snoc {l:List aN}{p:aN}:(bW (l++[p])).reverse=p.pl::(bW l).reverse:=by rw[pls_app,List.reverse_append];rfl
theorem slv_len {E sz m m':Nat}{v:Value}{xs:List Value}{seg:bD}(h:aV E sz v m xs seg) (e:m=m'):aV E sz v m' xs seg:=e▸h
theorem gs_a {a:dV}{s:bD}{S:SS}:Sub (GS a++(s::S)) (s::(GS a++S)):=Sub.ec [1,2,3,4,0] 5 (by decide) (s::(GS a++S))
theorem br {w0:World}{S:SS}{s:bD}{A:Option Addr}{l:List Value}(h:Rd w0 (s::[]) A l) (hm:s∈S):Rd w0 S A l:=h.mono fun p hp=>List.mem_flatten.2 ⟨s,hm,by simpa using hp⟩
end Go.Proofs.Gr

namespace Go.Proofs.Gr
open Go.SL Go.RowKit Go.Proofs Go.GP Go.Proofs.Tryz
set_option maxHeartbeats 1000000
structure dP (w0:World) (j:bD) (x:bg):Prop where
 rdL:Rd w0 (j::[]) x.LA (lines x.lines)
 rdM:Rd w0 (j::[]) x.MA (ints x.cY)
 nL:x.lines.length<=60000
 nM:x.cY.length<=60000
theorem dP.more {w0:World}{j j':bD}{x:bg}(h:dP w0 j x) (hs:∀p∈j,p∈j'):dP w0 j' x:=
 ⟨h.rdL.mono fun p hp=>by simp at hp ⊢;exact hs p hp,h.rdM.mono fun p hp=>by simp at hp ⊢;exact hs p hp,h.nL,h.nM⟩
theorem ft {T:TT}{x:PV}{u:aG}{zero:List Value}(hx:x.val T=some (lineV u)) (hz:zero.length=35):dw T zero [(0,35,x)] = some (bq u):=by
 simp only[dw,hx];rw[if_pos ⟨(List.size_toArray).trans (aJ u),by omega⟩]
 exact congrArg some (eP (by rw[hz];exact(aJ u).symm))
theorem sub_pack {a b c p j:bD}{S:SS}:Sub (b::c::[]::(a++(p++j))::S) (a::b::c::p::j::S):=
 (Sub.cons (Sub.cons (Sub.cL (Sub.refl _)))).trans ((Sub.cons (Sub.cons Sub.join)).trans ((Sub.cons (Sub.cons (Sub.cons Sub.join))).trans (Sub.ec [1,2,0,3,4] 5 (by decide) (a::b::c::p::j::S))))
theorem sub_pack2 {a b c p j:bD}{S:SS}:Sub (c::p::(a++j)::S) (a::b::c::p::j::S):=
 (Sub.cons (Sub.cons Sub.join)).trans (Sub.ec [2,3,0,4] 5 (by decide) (a::b::c::p::j::S))
theorem sub_pack3 {a c p j s:bD}{S:SS}:Sub (c::(a++(p++j))::S) (a::c::p::j::s::S):=
 (Sub.cons Sub.join).trans ((Sub.cons (Sub.cons Sub.join)).trans (Sub.ec [1,0,2,3] 5 (by decide) (a::c::p::j::s::S)))
theorem sub_pack4 {c p j s:bD}{S:SS}:Sub (c::j::S) (c::p::j::s::S):=Sub.ec [0,2] 4 (by decide) (c::p::j::s::S)
theorem item_snoc {v:Value}{l:List bg}{x:bg}{seg:bD}(h:aV 75 3 v (l.length+1) (bl l++bA x) seg):aV 75 3 v (l++[x]).length (bl (l++[x])) seg:=by
 rw[List.length_append,itemS_app];have:bl [x] = bA x:=by simp[bl]
 rw[this];exact h
theorem line_snoc {v:Value}{l:List aG}{x:aG}{seg:bD}(h:aV 99 35 v (l.length+1) (lines l++bq x) seg):aV 99 35 v (l++[x]).length (lines (l++[x])) seg:=by
 rw[List.length_append,lines_app];have:lines [x] = bq x:=by simp[lines]
 rw[this];exact h
theorem midsK_len (ps:List ar) (l:List aG) (k:Nat):(cP ps l k).length<=k:=by
 unfold cP;rw[List.length_map];exact Nat.le_trans (List.length_filter_le _ _) (by simp)
theorem blockM_ok {w0:World}{ps:List ar}{A M:Option Addr}{c mc:Nat}{l:List aG}{s p j:bD}(hs:aV 3 1 (.slice M (cP ps l l.length).length mc) (cP ps l l.length).length (ints (cP ps l l.length)) s) (hp:aV 99 35 (.slice A l.length c) l.length (lines l) p) (hl:l.length<=60000) :
  dP w0 (s++(p++j)) ⟨A,c,l,true,M,mc,cP ps l l.length⟩:=by
 obtain⟨A1,c1,e1,_,_,r1⟩:=aF (w0:=w0) hs;obtain⟨A2,c2,e2,_,_,r2⟩:=aF (w0:=w0) hp;obtain⟨rfl,rfl⟩:M=A1/\mc=c1:=by simpa using e1
 obtain⟨rfl,rfl⟩:A=A2/\c=c2:=by simpa using e2
 have:=midsK_len ps l l.length
 exact⟨(r2 []).mono fun q hq=>by simp at hq ⊢;exact .inr (.inl hq),(r1 []).mono fun q hq=>by simp at hq ⊢;exact .inl hq,hl,Nat.le_trans this hl⟩
theorem solidP_iff {ps:List ar}{l:List aG}{x:aG}:cR ps l x=true↔∀y∈l,(decide (x.v=y.v) || ordP ps x.v y.v)=true:=by unfold cR;rw[List.all_eq_true]
theorem items_fc {w0:World}{S X:SS}{m:dV}{ps:List ar}(h:GG w0 X m ps) (hX:Over X S) (hn:(bh ps).length<=60000) :
  FC prog w0 16 [m.ptr] (GS m++S) (fun v S'=>∃aC seg aH,S'=seg::aH::(GS m++S)/\aC.map bg.pl=b7 ps/\aV 75 3 v aC.length (bl aC) seg/\(∀x∈aC,dP w0 aH x)/\aC.length<=120001):=by
 refine FC.ofD known16 (by simp) ?_
 unfold pc16;simp only[bo];refine PW.s1 rfl (PW.k1 0 rfl (PW.scope (PW.ae (OL.dp rfl (OL.l rfl (lines2_fc h hX) ?_)))));rintro _ _ ⟨seg0,rfl,hsl0⟩;obtain⟨LA,lc,rfl,hLn,hLc,hrd0⟩:=aF (w0:=w0) hsl0;have hln:=linesP_len h.sq
 refine OL.l rfl (deleteDead_fc hsl0 (by omega)) ?_
 rintro _ _ ⟨segl,rfl,hsl⟩;obtain⟨LB,lcB,rfl,hnB,hcB,hrdB⟩:=aF (w0:=w0) hsl;have hlv:=live_len (bC ps)
 have hok:∀x∈live (bC ps),er x.v:=fun x hx=>by
  obtain⟨v,hv,rfl⟩:=List.mem_map.1 (List.mem_filter.1 hx).1;exact h.er (topoF_mem hv)
 obtain⟨L,hL⟩:∃z,z=live (bC ps):=⟨_,rfl⟩;have hip:b7 ps=itemsL ps L:=by rw[hL];rfl
 rw[<- hL] at hrdB hcB hlv hok ⊢;have hLn:L.length<=60000:=by omega
 refine OL.n1 rfl (PW.k2 0 3 rfl (PW.s1 rfl (PW.k3 0 3 4 rfl (PW.s1 rfl (PW.k4 0 3 4 5 rfl (PW.seq fun K1 hK1=>?_))))))
 refine PW.label (hK1 _ _ (PW.k4 0 3 4 5 rfl (PW.seq fun K2 hK2=>PW.ae (OL.bZ (S':=[]::[]::[]::segl::(GS m++S)) (Sub.cL (Sub.cL (Sub.cL (Sub.refl _)))) (OL.n3 rfl rfl rfl (PW.k7 0 3 4 5 13 14 15 rfl (PW.block ?_)))))))
 refine PW.k7 0 3 4 5 13 14 15 rfl ?_;refine PW.aR (I:=fun mm T S'=>∃(k:Nat) (aC:List bg) (op:List aG) (vo vp:Value) (sgo sgp aH:bD),(k<=L.length/\mm=L.length-k/\(aC.map bg.pl,op)=foldI ps L k/\aC.length<=2*k/\op.length<=k/\aV 75 3 vo aC.length (bl aC) sgo/\aV 99 35 vp op.length (lines op) sgp/\(∀x∈aC,dP w0 aH x)/\(∀x∈op,x∈L))/\T=([(0,m.ptr),(3,.slice LB L.length lcB),(4,vo),(5,vp),(13,.slice LB L.length lcB),(14,.int .i64 (L.length:Int)),(15,.int .i64 k)]:TT)/\S'=sgo::sgp::aH::segl::(GS m++S)) (m:=L.length) ⟨0,[],[],_,_,[],[],[],⟨by omega,by omega,rfl,Nat.zero_le _,Nat.zero_le _,aV.nil 75 3,aV.nil 99 35,(fun x hx=>by cases hx),(fun x hx=>by cases hx)⟩,rfl,rfl⟩ ?_
 rintro mm _ _ ⟨k,aC,op,vo,vp,sgo,sgp,aH,⟨hk,hmm,hfold,hitl,hopl,hso,hsp,hio,hin⟩,rfl,rfl⟩;obtain⟨Ap,cp,rfl,hnp,hcp,hrdp⟩:=aF (w0:=w0) hsp;refine PW.s1 rfl (PW.k8 0 3 4 5 13 14 15 16 rfl (PW.seq fun K3 hK3=>?_))
 refine PW.cond rfl (fun c16=>?_) (fun c16=>?_)
 ·try simp only[aD] at c16
  have hkl:k<L.length:=by omega
  obtain⟨a0,rfl⟩:=bR (hrdB []) (by omega)
  refine PW.skip (hK3 _ _ (PW.k7 0 3 4 5 13 14 15 rfl (PW.seq fun K4 hK4=>PW.block (PW.ae (OL.x (Yields.bO rfl rfl rfl hkl) (OL.x (Yields.aT rfl (aJ _) (dA (br (hrdB []) (by simp)) hkl)) (OL.c OW.al ?_)))))))
  rintro _ _ ⟨r7,rfl,rfl⟩;refine OL.c (line_st rfl rfl rfl) ?_;rintro _ _ rfl;change OL _ _ _ _ _ (lseg r7 L[k]::sgo::sgp::aH::segl::(GS m++S)) _;refine OL.nil (PW.k8 0 3 4 5 7 13 14 15 rfl (PW.seq fun K5 hK5=>PW.s3 rfl rfl rfl (PW.k11 0 3 4 5 7 13 14 15 19 20 21 rfl (PW.block (PW.k11 0 3 4 5 7 13 14 15 19 20 21 rfl ?_)))))
  refine PW.aR (I:=fun mj T S'=>∃j:Nat,(j<=L.length/\mj=L.length-j/\∀y∈L.take j,(decide (L[k].v=y.v) || ordP ps L[k].v y.v)=true)/\T=([(0,m.ptr),(3,.slice (some a0) L.length lcB),(4,vo),(5,.slice Ap op.length cp),(7,.pointer (some ⟨r7,0,none⟩)),(13,.slice (some a0) L.length lcB),(14,.int .i64 (L.length:Int)),(15,.int .i64 k),(19,.slice (some a0) L.length lcB),(20,.int .i64 (L.length:Int)),(21,.int .i64 j)]:TT)/\S'=lseg r7 L[k]::sgo::sgp::aH::segl::(GS m++S)) (m:=L.length) ⟨0,⟨by omega,by omega,by simp⟩,rfl,rfl⟩ ?_
  rintro mj _ _ ⟨j,⟨hj,hmj,hall⟩,rfl,rfl⟩;refine PW.s1 rfl (PW.k12 0 3 4 5 7 13 14 15 19 20 21 22 rfl (PW.seq fun K6 hK6=>?_))
  refine PW.cond rfl (fun c22=>?_) (fun c22=>?_)
  ·try simp only[aD] at c22
   have hjl:j<L.length:=by omega
   refine PW.skip (hK6 _ _ (PW.k11 0 3 4 5 7 13 14 15 19 20 21 rfl (PW.seq fun K7 hK7=>PW.block (PW.ae (OL.x (Yields.bO rfl rfl rfl hjl) (OL.x (Yields.aT rfl (aJ _) (dA (br (hrdB []) (by simp)) hjl)) (OL.c OW.al ?_)))))))
   rintro _ _ ⟨r9,rfl,rfl⟩;refine OL.c (line_st rfl rfl rfl) ?_;rintro _ _ rfl;change OL _ _ _ _ _ (lseg r9 L[j]::lseg r7 L[k]::sgo::sgp::aH::segl::(GS m++S)) _;refine OL.nil (PW.k12 0 3 4 5 7 9 13 14 15 19 20 21 rfl (PW.ae (OL.dp rfl (OL.x (Yields.aT rfl (aa _) (lcell_vtx (x:=L[k]) (E:=99) (tot:=35) dm)) (OL.dp rfl (OL.x (Yields.aT rfl (aa _) (lcell_vtx (x:=L[j]) (E:=99) (tot:=35) bF)) (OL.x (Yields.eb (neg:=true) rfl rfl (aO _ _)) ?_)))))));refine OL.bool trivial (Yields.pure rfl) (fun g30=>?_) (fun g30=>?_)
   ·try simp only[aD] at g30
    refine OL.ak rfl (.pure rfl) (OL.ak rfl (.aT rfl (aJ _) (lcell (x:=L[k]) (E:=99) (tot:=35) dm)) (OL.ak rfl (.aT rfl (aJ _) (lcell (x:=L[j]) (E:=99) (tot:=35) bF)) (OL.call rfl rfl (ordered_fc (x:=L[k]) (y:=L[j]) h ((Over.both hX).cons.cons.cons.cons.cons.cons) (hok _ (List.getElem_mem _)) (hok _ (List.getElem_mem _))) ?_)));rintro _ Sx ⟨rfl,hSx⟩;rw[hSx];clear hSx;refine OL.ak rfl (.pure rfl) (OL.n1 rfl (PW.k12 0 3 4 5 7 13 14 15 19 20 21 36 rfl ?_));refine PW.cond rfl (fun c36=>?_) (fun c36=>?_)
    ·skip;refine PW.ae (OL.dp rfl (OL.x (Yields.aT rfl (aJ _) (lcell (x:=L[k]) (E:=99) (tot:=35) dm)) ?_));apply OL.bV (k:=3)
     ·rfl
     ·rfl
     ·exact(List.size_toArray).trans (aJ _)
     ·rfl
     ·rfl
     ·rfl
     ·exact hsp
     ·exact eW _
     ·omega
     ·unfold maxLen;omega
     intro v40 seg40 hsl40;refine OL.n1 rfl (PW.k7 0 3 4 5 13 14 15 rfl (PW.exit (hK4 _ _ (PW.k7 0 3 4 5 13 14 15 rfl (PW.ops (OL.x (Yields.ao rfl rfl (by omega) (by omega)) (OL.n1 rfl ?_)))))))
     refine af.dE (Sub.drop (Sub.drop (Sub.refl _))) (T'':=[(0,_),(3,_),(4,_),(5,_),(13,_),(14,_),(15,_)]) (wi rfl) ?_;have hsc:=fy (ps:=ps) hkl
     rw[<- hfold] at hsc;unfold stepI at hsc;have hkl2:L.length-(k+1)<mm:=by omega
     have hns:¬cR ps L L[k] = true:=fun hs=>by
      have h1:=solidP_iff.1 hs L[j] (List.getElem_mem hjl)
      simp at g30 c36;simp[g30,c36] at h1
     rw[if_neg hns] at hsc;exact⟨_,hkl2,k+1,aC,op++[L[k]],vo,_,sgo,seg40,aH,⟨by omega,rfl,hsc.symm,by omega,by rw[List.length_append];exact Nat.succ_le_succ hopl,hso,line_snoc hsl40,hio,fun x hx=>by
      rcases List.mem_append.1 hx with h|h
      ·exact hin x h
      rw[List.mem_singleton] at h;subst h;exact List.getElem_mem _⟩,rfl,rfl⟩
    skip;refine PW.skip (hK7 _ _ (PW.k11 0 3 4 5 7 13 14 15 19 20 21 rfl (PW.ops (OL.x (Yields.ao rfl rfl (by omega) (by omega)) (OL.n1 rfl ?_)))))
    refine af.dE (Sub.drop (Sub.refl _)) (T'':=[(0,_),(3,_),(4,_),(5,_),(7,_),(13,_),(14,_),(15,_),(19,_),(20,_),(21,_)]) (wi rfl) ?_;refine⟨L.length-(j+1),by omega,j+1,⟨by omega,rfl,fun y hy=>?_⟩,rfl,rfl⟩
    rw[aA hjl] at hy;rcases List.mem_append.1 hy with h|h
    ·exact hall y h
    rw[List.mem_singleton] at h;subst h
    first
     |(simp[g30];done)
     |(simp at c36;simp[c36];done)
     |(simp[c36];done)
   try simp only[aD] at g30
   refine OL.off rfl rfl (OL.off rfl rfl (OL.off rfl rfl (OL.off rfl rfl (OL.off rfl rfl (OL.n1 rfl (PW.k12 0 3 4 5 7 13 14 15 19 20 21 36 rfl (PW.ite (b:=false) rfl ?_)))))));rw[if_neg Bool.false_ne_true];refine PW.skip (hK7 _ _ (PW.k11 0 3 4 5 7 13 14 15 19 20 21 rfl (PW.ops (OL.x (Yields.ao rfl rfl (by omega) (by omega)) (OL.n1 rfl ?_)))))
   refine af.dE (Sub.drop (Sub.refl _)) (T'':=[(0,_),(3,_),(4,_),(5,_),(7,_),(13,_),(14,_),(15,_),(19,_),(20,_),(21,_)]) (wi rfl) ?_;refine⟨L.length-(j+1),by omega,j+1,⟨by omega,rfl,fun y hy=>?_⟩,rfl,rfl⟩
   rw[aA hjl] at hy;rcases List.mem_append.1 hy with h|h
   ·exact hall y h
   rw[List.mem_singleton] at h;subst h
   first
    |(simp[g30];done)
    |(simp at c36;simp[c36];done)
    |(simp[c36];done)
  try simp only[aD] at c22
  refine PW.exit (hK5 _ _ (PW.k8 0 3 4 5 7 13 14 15 rfl (PW.seq fun K8 hK8=>PW.s3 rfl rfl rfl (PW.k9 0 3 4 5 7 13 14 15 44 rfl ?_))))
  refine PW.cond rfl (fun c44=>?_) (fun c44=>?_)
  ·try simp only[aD] at c44
   refine PW.ae (OL.p3 rfl rfl rfl ?_);refine OL.l rfl (by exact block_fc (X:=X) h ((Over.both hX).cons.cons.cons.cons.cons) (br (hrdp []) (by simp)) (fun x hx=>hok x (hin x hx)) (by omega)) ?_
   rintro _ _ ⟨Mb,mcb,segm,rfl,rfl,hsm⟩;apply OL.bV (k:=2)
   ·rfl
   ·rfl
   ·rfl
   ·rfl
   ·rfl
   ·rfl
   ·exact hso
   ·rfl
   ·omega
   ·unfold maxLen;omega
   intro v50 seg50 hsl50;refine OL.bZ (S':=lseg r7 L[k]::seg50::[]::(segm++(sgp++aH))::segl::(GS m++S)) sub_pack ?_;have hok2:=blockM_ok (j:=aH) hsm hsp (w0:=w0) (by omega)
   have hso2:=item_snoc (x:=⟨Ap,cp,op,true,Mb,mcb,cP ps op op.length⟩) hsl50
   refine OL.n1 rfl (PW.k7 0 3 4 7 13 14 15 rfl (PW.ops (OL.n1 rfl (hK8 _ _ (PW.k8 0 3 4 5 7 13 14 15 rfl (PW.ops (OL.dp rfl (OL.x (Yields.aT rfl (aJ _) (lcell (x:=L[k]) (E:=99) (tot:=35) bF)) (OL.c (OW.fl (cs:=bq L[k]) (ft rfl rfl)) ?_)))))))));rintro _ _ ⟨r53,rfl,rfl⟩;rw[aJ];refine OL.x (Yields.build (cs:=bA ⟨some ⟨r53,0,none⟩,1,[L[k]],false,none,0,[]⟩) rfl) ?_;apply OL.bV (k:=2)
   ·rfl
   ·rfl
   ·rfl
   ·rfl
   ·rfl
   ·rfl
   ·exact(by first|exact hso2|exact hso)
   ·rfl
   ·(first|omega|(simp only[List.length_append,List.length_cons,List.length_nil];omega))
   ·unfold maxLen;(first|omega|(simp only[List.length_append,List.length_cons,List.length_nil];omega))
   intro v56 seg56 hsl56;refine OL.n1 rfl (hK4 _ _ (PW.k7 0 3 4 5 13 14 15 rfl (PW.ops (OL.x (Yields.ao rfl rfl (by omega) (by omega)) (OL.n1 rfl ?_)))))
   refine af.dE (sub_pack2) (T'':=[(0,_),(3,_),(4,_),(5,_),(13,_),(14,_),(15,_)]) (wi rfl) ?_;have hsc:=fy (ps:=ps) hkl
   rw[<- hfold] at hsc;unfold stepI at hsc;have hkl2:L.length-(k+1)<mm:=by omega
   have hs:cR ps L L[k] = true:=solidP_iff.2 fun y hy=>hall y (by rw[List.take_of_length_le (by omega)];exact hy)
   have hne:op≠[]:=fun e=>by subst e;simp at c44
   rw[if_pos hs] at hsc;unfold shut at hsc;rw[if_neg hne] at hsc;have hrow:dP w0 ([(r53,AO.cells (bq L[k]) 99 35)]++(segm++(sgp++aH))) ⟨some ⟨r53,0,none⟩,1,[L[k]],false,none,0,[]⟩:=⟨(Rd.own (E:=99) (tot:=35) (by simp[lines])).mono (fun q hq=>hq),Rd.nil,Nat.succ_le_succ (Nat.zero_le _),Nat.zero_le _⟩
   exact⟨_,hkl2,k+1,aC++[⟨Ap,cp,op,true,Mb,mcb,cP ps op op.length⟩]++[⟨some ⟨r53,0,none⟩,1,[L[k]],false,none,0,[]⟩],[],_,_,seg56,[],[(r53,AO.cells (bq L[k]) 99 35)]++(segm++(sgp++aH)),⟨by omega,rfl,by rw[hsc,List.map_append,List.map_append];rfl,by simp only[List.length_append,List.length_cons,List.length_nil];omega,Nat.zero_le _,item_snoc hsl56,aV.nil 99 35,fun x hx=>by
    rcases List.mem_append.1 hx with h|h
    ·rcases List.mem_append.1 h with h|h
     ·exact(hio x h).more fun q hq=>by simp[hq]
     rw[List.mem_singleton] at h;subst h;exact hok2.more fun q hq=>List.mem_append_right _ hq
    rw[List.mem_singleton] at h;subst h;exact hrow,fun x hx=>by cases hx⟩,rfl,rfl⟩
  try simp only[aD] at c44
  refine PW.skip (hK8 _ _ (PW.k8 0 3 4 5 7 13 14 15 rfl (PW.ops (OL.dp rfl (OL.x (Yields.aT rfl (aJ _) (lcell (x:=L[k]) (E:=99) (tot:=35) bF)) (OL.c (OW.fl (cs:=bq L[k]) (ft rfl rfl)) ?_))))));rintro _ _ ⟨r53,rfl,rfl⟩;rw[aJ];refine OL.x (Yields.build (cs:=bA ⟨some ⟨r53,0,none⟩,1,[L[k]],false,none,0,[]⟩) rfl) ?_;apply OL.bV (k:=2)
  ·rfl
  ·rfl
  ·rfl
  ·rfl
  ·rfl
  ·rfl
  ·exact(by first|exact hso2|exact hso)
  ·rfl
  ·(first|omega|(simp only[List.length_append,List.length_cons,List.length_nil];omega))
  ·unfold maxLen;(first|omega|(simp only[List.length_append,List.length_cons,List.length_nil];omega))
  intro v56 seg56 hsl56;refine OL.n1 rfl (hK4 _ _ (PW.k7 0 3 4 5 13 14 15 rfl (PW.ops (OL.x (Yields.ao rfl rfl (by omega) (by omega)) (OL.n1 rfl ?_)))))
  refine af.dE (sub_pack2) (T'':=[(0,_),(3,_),(4,_),(5,_),(13,_),(14,_),(15,_)]) (wi rfl) ?_;have hsc:=fy (ps:=ps) hkl
  rw[<- hfold] at hsc;unfold stepI at hsc;have hkl2:L.length-(k+1)<mm:=by omega
  have hs:cR ps L L[k] = true:=solidP_iff.2 fun y hy=>hall y (by rw[List.take_of_length_le (by omega)];exact hy)
  have hne:op=[]:=List.eq_nil_of_length_eq_zero (by omega)
  rw[if_pos hs] at hsc;unfold shut at hsc;rw[if_pos hne] at hsc;have hrow:dP w0 ([(r53,AO.cells (bq L[k]) 99 35)]++aH) ⟨some ⟨r53,0,none⟩,1,[L[k]],false,none,0,[]⟩:=⟨(Rd.own (E:=99) (tot:=35) (by simp[lines])).mono (fun q hq=>hq),Rd.nil,Nat.succ_le_succ (Nat.zero_le _),Nat.zero_le _⟩
  exact⟨_,hkl2,k+1,aC++[⟨some ⟨r53,0,none⟩,1,[L[k]],false,none,0,[]⟩],[],_,_,seg56,sgp,[(r53,AO.cells (bq L[k]) 99 35)]++aH,⟨by omega,rfl,by rw[hsc,List.map_append];simp;rfl,by simp only[List.length_append,List.length_cons,List.length_nil];omega,Nat.zero_le _,item_snoc hsl56,by subst hne;exact hsp,fun x hx=>by
   rcases List.mem_append.1 hx with h|h
   ·exact(hio x h).more fun q hq=>by simp[hq]
   rw[List.mem_singleton] at h;subst h;exact hrow,fun x hx=>by cases hx⟩,rfl,rfl⟩
 try simp only[aD] at c16
 refine PW.exit (hK2 _ _ (PW.k3 0 4 5 rfl (PW.seq fun K9 hK9=>PW.s3 rfl rfl rfl (PW.k4 0 4 5 60 rfl ?_))))
 refine PW.cond rfl (fun c60=>?_) (fun c60=>?_)
 ·try simp only[aD] at c60
  refine PW.ops (OL.p3 rfl rfl rfl ?_);refine OL.l rfl (by exact block_fc (X:=X) h ((Over.both hX).cons.cons.cons.cons) (br (hrdp []) (by simp)) (fun x hx=>hok x (hin x hx)) (by omega)) ?_
  rintro _ _ ⟨Mb,mcb,segm,rfl,rfl,hsm⟩;apply OL.bV (k:=1)
  ·rfl
  ·rfl
  ·rfl
  ·rfl
  ·rfl
  ·rfl
  ·exact hso
  ·rfl
  ·omega
  ·unfold maxLen;omega
  intro v66 seg66 hsl66;have hok2:=blockM_ok (j:=aH) hsm hsp (w0:=w0) (by omega)
  have hso2:=item_snoc (x:=⟨Ap,cp,op,true,Mb,mcb,cP ps op op.length⟩) hsl66
  have hke:k=L.length:=by omega
  have hsub:Sub (seg66::(segm++(sgp++aH))::(GS m++S)) (segm::seg66::sgp::aH::segl::(GS m++S)):=sub_pack3
  have hpost:∃its2 seg2 junk2,seg66::(segm++(sgp++aH))::(GS m++S)=seg2::junk2::(GS m++S)/\its2.map bg.pl=b7 ps/\aV 75 3 v66 its2.length (bl its2) seg2/\(∀x∈its2,dP w0 junk2 x)/\its2.length<=120001:=⟨aC++[⟨Ap,cp,op,true,Mb,mcb,cP ps op op.length⟩],seg66,segm++(sgp++aH),rfl,by
   subst hke;have hne:op≠[]:=fun e=>by subst e;simp at c60
   rw[hip];unfold itemsL;rw[<- hfold];unfold shut;rw[if_neg hne,List.map_append];rfl,hso2,(fun x hx=>by
   rcases List.mem_append.1 hx with h|h
   ·exact(hio x h).more fun q hq=>by simp[hq]
   rw[List.mem_singleton] at h;subst h;exact hok2),by rw[List.length_append];simp only[List.length_cons,List.length_nil];omega⟩
  exact OL.n1 rfl (hK9 _ _ (PW.k1 4 rfl (PW.s2 rfl rfl (PW.k1 2 rfl (PW.ret (zR rfl ⟨_,hsub,hpost⟩))))))
 try simp only[aD] at c60
 have hke:k=L.length:=by omega
 have hsub:Sub (sgo::aH::(GS m++S)) (sgo::sgp::aH::segl::(GS m++S)):=sub_pack4
 have hpost:∃its2 seg2 junk2,sgo::aH::(GS m++S)=seg2::junk2::(GS m++S)/\its2.map bg.pl=b7 ps/\aV 75 3 vo its2.length (bl its2) seg2/\(∀x∈its2,dP w0 junk2 x)/\its2.length<=120001:=⟨aC,sgo,aH,rfl,by
  subst hke;have hne:op=[]:=List.eq_nil_of_length_eq_zero (by omega)
  rw[hip];unfold itemsL;rw[<- hfold];unfold shut;rw[if_pos hne];simp,hso,hio,by omega⟩
 exact PW.skip (hK9 _ _ (PW.k1 4 rfl (PW.s2 rfl rfl (PW.k1 2 rfl (PW.ret (zR rfl ⟨_,hsub,hpost⟩))))))
theorem ints_at {w0:World}{S:SS}{a:Addr}{l:List Int}(h:Rd w0 S (some a) (ints l)) {k:Nat}(hk:k<l.length):Cell w0 S (a.add k) (.int .i64 l[k]):=h.at (by unfold ints;rw[List.getElem?_map,List.getElem?_eq_getElem hk];rfl)
theorem ints_some {w0:World}{S:SS}{A:Option Addr}{l:List Int}(h:Rd w0 S A (ints l)) (hk:0<l.length):∃a,A=some a:=
 h.some (fun e=>by have:=congrArg List.length e;simp[ints] at this;subst this;simp at hk)
theorem itemS_get {l:List bg}{k:Nat}(hk:k<l.length) {j:Nat}(hj:j<3):(bl l)[k*3+j]? = (bA l[k])[j]?:=by
 unfold bl;rw[fm cU l (k*3+j) (by omega),show(k*3+j) / 3=k from by omega,show(k*3+j) % 3=j from by omega,getElem!_pos l k hk]
theorem cA {w0:World}{S:SS}{A:Option Addr}{l:List bg}(h:Rd w0 S A (bl l)) (hk:0<l.length):∃a,A=some a:=
 h.some (fun e=>by have:=eR l;rw[e] at this;simp at this;omega)
theorem bz {w0:World}{S:SS}{a:Addr}{l:List bg}(h:Rd w0 S (some a) (bl l)) {k:Nat}(hk:k<l.length):∀(j:Nat) (v:Value),(bA l[k])[j]? = some v->Cell w0 S ((a.add (k*3)).add j) v:=by
 intro j v hj;have hj2:j<3:=by have:=(List.getElem?_eq_some_iff.1 hj).1;rwa [cU] at this
 rw[aZ];exact h.at (by rw[itemS_get hk hj2];exact hj)
theorem toL_inj {a b:ByteArray}:a.toList=b.toList↔a=b:=by
 constructor
 ·intro h;rw[ByteArray.toList_eq,ByteArray.toList_eq] at h;cases a;cases b;congr 1;exact Array.toList_inj.1 h
 rintro rfl;rfl
theorem item_st {w0:World}{S:SS}{P:Program}{n r:Nat}{T:TT}{x v:PV}{u:bg}{z:List Value}(hx:x.val T=some (.pointer (some ⟨r,0,none⟩))) (hv:v.val T=some (itemV u)) (hz:z.length=3) :
  OW P w0 n (.st 3 x v) T ([(r,.cells z 75 3)]::S) (fun _ S'=>S'=[(r,.cells (bA u) 75 3)]::S):=by
 refine(OW.st (k:=0) (c:=z) (u:=itemV u) hx hv rfl (show(itemV u).cells.size=3 from rfl) (by omega) rfl).mono ?_
 rintro _ _ rfl;rw[item_box,eP (by rw[cU,hz])]
 rfl
theorem indexI_fc {w0:World}{S:SS}{A:Option Addr}{c:Nat}{l:List Int}{z:Int}{q:Int->Bool}(hqd:q=fun x=>decide (z=x)) (hx:Rd w0 S A (ints l)) (hb:l.length<=1000000000000) :
  FC prog w0 82 [.slice A l.length c,.int .i64 z] S (fun u S'=>u=.int .i64 (gidx q l)/\S'=S):=by
 refine FC.of known82 (by simp) ?_
 unfold pc82;simp only[bo];refine PW.s1 rfl (PW.k2 0 1 rfl (PW.seq fun K1 hK1=>PW.s3 rfl rfl rfl (PW.k4 0 1 7 8 rfl (PW.block ?_))))
 refine PW.k4 0 1 7 8 rfl ?_;refine PW.aR (I:=fun m T S'=>∃(k:Nat),(k<=l.length/\m=l.length-k/\∀x∈l.take k,q x=false)/\T=([(0,.slice A l.length c),(1,.int .i64 z),(7,.int .i64 (l.length:Int)),(8,.int .i64 k)]:TT)/\S'=S) (m:=l.length) ⟨0,⟨by omega,by omega,by simp⟩,rfl,rfl⟩ ?_
 rintro m _ _ ⟨k,⟨hk,hm,hall⟩,rfl,rfl⟩;refine PW.s1 rfl (PW.k5 0 1 7 8 9 rfl (PW.seq fun K2 hK2=>?_))
 refine PW.cond rfl (fun c9=>?_) (fun c9=>?_)
 ·try simp only[aD] at c9
  have hkl:k<l.length:=by omega
  obtain⟨a0,rfl⟩:=ints_some hx (by omega)
  refine PW.skip (hK2 _ _ (PW.k4 0 1 7 8 rfl (PW.seq fun K3 hK3=>PW.block (PW.s2 rfl rfl (PW.k5 0 1 5 7 8 rfl (PW.ae (OL.dp rfl ?_)))))))
  refine OL.p2 rfl rfl (OL.x (Yields.dY rfl rfl rfl (by omega)) (OL.x (Yields.ld rfl (ints_at hx hkl)) (OL.n1 rfl (PW.k6 0 1 5 7 8 16 rfl ?_))))
  refine PW.cond rfl (fun c16=>?_) (fun c16=>?_)
  ·skip;have hqt:q l[k] = true:=by rw[hqd];simpa using c16
   exact PW.s2 rfl rfl (PW.k1 4 rfl (PW.ret (zR rfl ⟨by rw[gidx_take hkl hall hqt],rfl⟩)))
  skip;refine PW.skip (hK3 _ _ (PW.k4 0 1 7 8 rfl (PW.ops (OL.x (Yields.ao rfl rfl (by omega) (by omega)) (OL.n1 rfl ?_)))))
  refine af.mk (T'':=[(0,_),(1,_),(7,_),(8,_)]) (wi rfl) ?_;refine⟨l.length-(k+1),by omega,k+1,⟨by omega,rfl,fun x hx=>?_⟩,rfl,rfl⟩
  rw[aA hkl] at hx;rcases List.mem_append.1 hx with h|h
  ·exact hall x h
  rw[List.mem_singleton] at h;subst h;simpa[hqd] using c16
 try simp only[aD] at c9
 exact PW.exit (hK1 _ _ (PW.cD (T':=[]) trivial (PW.s1 rfl (PW.k1 4 rfl (PW.ret (zR rfl ⟨by rw[gidx_no (fun x hx=>hall x (by rw[List.take_of_length_le (by omega)];exact hx))],rfl⟩))))))
theorem containsI_fc {w0:World}{S:SS}{A:Option Addr}{c:Nat}{l:List Int}{z:Int}(hx:Rd w0 S A (ints l)) (hb:l.length<=1000000000000) :
  FC prog w0 36 [.slice A l.length c,.int .i64 z] S (fun u S'=>u=.bool (l.contains z)/\S'=S):=by
 refine FC.of known36 (by simp) ?_
 unfold pc36;simp only[bo];refine PW.s1 rfl (PW.k2 0 1 rfl (PW.ae (OL.p2 rfl rfl ?_)));refine OL.q rfl (indexI_fc (q:=fun x=>decide (z=x)) rfl hx hb) ?_
 refine OL.n2 rfl rfl (PW.k1 4 rfl ?_);refine PW.ret (zR rfl ?_);refine⟨congrArg Value.bool ?_,rfl⟩;rw[Bool.eq_iff_iff,decide_eq_true_eq,iff_of_eq gidx_any,List.any_eq_true,List.contains_iff_mem];constructor
 ·rintro⟨x,hx,h⟩;obtain rfl:=of_decide_eq_true h;exact hx
 exact fun h=>⟨z,h,by simp⟩
structure ItemRd (w0:World) (S:SS) (x:bg):Prop where
 rdL:Rd w0 S x.LA (lines x.lines)
 rdM:Rd w0 S x.MA (ints x.cY)
 nL:x.lines.length<=60000
 nM:x.cY.length<=60000
theorem ItemRd.mono {w0:World}{S S':SS}{x:bg}(h:ItemRd w0 S x) (hs:Over S S'):ItemRd w0 S' x:=⟨h.rdL.mono hs,h.rdM.mono hs,h.nL,h.nM⟩
theorem dP.rd {w0:World}{j:bD}{x:bg}{S:SS}(h:dP w0 j x) (hj:j∈S):ItemRd w0 S x:=⟨br h.rdL hj,br h.rdM hj,h.nL,h.nM⟩
theorem bt {v:Value}{l:List ByteArray}{z:ByteArray}{seg:bD}(h:aV 9 1 v (l.length+1) (strs l++[Value.string z]) seg):aV 9 1 v (l++[z]).length (strs (l++[z])) seg:=by
 rw[List.length_append];unfold strs at h ⊢;rw[List.map_append];exact h
def b8 (l:List bg):List aB:=l.map bg.pl
theorem pli_get {l:List bg}{k:Nat}(hk:k<l.length):(b8 l)[k]'(by unfold b8;rw[List.length_map];exact hk)=l[k].pl:=List.getElem_map _
theorem textI_fc {w0:World}{S:SS}{A:Option Addr}{c:Nat}{l:List bg}(hx:Rd w0 S A (bl l)) (hr:∀x∈l,ItemRd w0 S x) (hb:l.length<=1000000) :
  FC prog w0 15 [.slice A l.length c] S (fun u S'=>∃seg,S'=seg::S/\aV 9 1 u (cJ (b8 l)).length (strs (cJ (b8 l))) seg/\(cJ (b8 l)).length<=120003000000):=by
 have hpl0:(b8 l).length=l.length:=List.length_map _
 have hNL:∀x∈b8 l,x.lines.length<=60000:=fun x hx=>by
  obtain⟨y,hy,rfl⟩:=List.mem_map.1 hx;exact(hr y hy).nL
 refine FC.ofD known15 (by simp) ?_
 unfold pc15;simp only[bo];refine PW.s1 rfl (PW.k1 0 rfl (PW.s1 rfl (PW.k2 0 3 rfl (PW.seq fun K1 hK1=>PW.ae (OL.bZ (S':=[]::S) (Sub.cL (Sub.refl _)) (OL.dp rfl ?_))))))
 refine OL.n2 rfl rfl (PW.k4 3 8 9 10 rfl (PW.block (PW.k4 3 8 9 10 rfl ?_)));refine PW.aR (I:=fun mm T S'=>∃(k:Nat) (vo:Value) (sgo:bD),(k<=l.length/\mm=l.length-k/\aV 9 1 vo (cJ ((b8 l).take k)).length (strs (cJ ((b8 l).take k))) sgo)/\T=([(3,vo),(8,.slice A l.length c),(9,.int .i64 (l.length:Int)),(10,.int .i64 k)]:TT)/\S'=sgo::S) (m:=l.length) ⟨0,_,[],⟨by omega,by omega,by simp[cJ];exact aV.nil 9 1⟩,rfl,rfl⟩ ?_
 rintro mm _ _ ⟨k,vo,sgo,⟨hk,hmm,hso⟩,rfl,rfl⟩;refine PW.s1 rfl (PW.k5 3 8 9 10 11 rfl (PW.seq fun K2 hK2=>?_))
 refine PW.cond rfl (fun c11=>?_) (fun c11=>?_)
 ·try simp only[aD] at c11
  have hkl:k<l.length:=by omega
  obtain⟨a0,rfl⟩:=cA hx (by omega)
  have hx2:=hx
  have hrk:=hr _ (List.getElem_mem hkl)
  have hnL:=hrk.nL
  have hnM:=hrk.nM
  have htl:=eQ hNL k (by omega)
  refine PW.skip (hK2 _ _ (PW.k4 3 8 9 10 rfl (PW.seq fun K3 hK3=>PW.block (PW.ae (OL.x (Yields.bO rfl rfl rfl hkl) (OL.x (Yields.aT rfl (cU _) (bz hx2.cons hkl)) (OL.c OW.al ?_)))))))
  rintro _ _ ⟨r5,rfl,rfl⟩;refine OL.c (item_st rfl rfl rfl) ?_;rintro _ _ rfl;change OL _ _ _ _ _ ([(r5,.cells (bA l[k]) 75 3)]::sgo::S) _;refine OL.nil (PW.k5 3 5 8 9 10 rfl (PW.seq fun K4 hK4=>PW.ae (OL.dp rfl (OL.x (Yields.ld rfl (az (j:=1) (c:=bA l[k]) (E:=75) (tot:=3) bF rfl)) (OL.nil (PW.k6 3 5 8 9 10 15 rfl ?_))))))
  refine PW.cond rfl (fun c15=>?_) (fun c15=>?_)
  ·skip;refine PW.ops (OL.dp rfl ?_);apply OL.bV (k:=1)
   ·rfl
   ·rfl
   ·rfl
   ·rfl
   ·rfl
   ·rfl
   ·exact hso
   ·rfl
   ·omega
   ·unfold maxLen;omega
   intro v18 seg18 hsl18;obtain⟨pre,hpre⟩:∃z,z=cJ ((b8 l).take k)++(if l[k].block then [beginB] else []):=⟨_,rfl⟩;have hp:aV 9 1 v18 pre.length (strs pre) seg18:=by
    rw[hpre,if_pos c15];exact bt (z:=beginB) hsl18
   have hpl:pre.length<=120003*k+1:=by rw[hpre,List.length_append];have:=eQ hNL k (by rw[hpl0];omega);split<;>simp<;>omega
   refine OL.n1 rfl (hK4 _ _ (PW.k5 3 5 8 9 10 rfl (PW.seq fun K5 hK5=>PW.ae (OL.dp rfl (OL.x (Yields.ld rfl (az (j:=0) (c:=bA l[k]) (E:=75) (tot:=3) bF rfl)) (OL.n2 rfl rfl (PW.k8 3 5 8 9 10 20 21 22 rfl ?_)))))))
   refine PW.block (PW.k8 3 5 8 9 10 20 21 22 rfl ?_);refine PW.aR (I:=fun mi T S'=>∃(i:Nat) (vi:Value) (sgi:bD),(i<=l[k].lines.length/\mi=l[k].lines.length-i/\aV 9 1 vi (pre++bp l[k].pl i).length (strs (pre++bp l[k].pl i)) sgi)/\T=([(3,vi),(5,.pointer (some ⟨r5,0,none⟩)),(8,.slice (some a0) l.length c),(9,.int .i64 (l.length:Int)),(10,.int .i64 k),(20,.slice l[k].LA l[k].lines.length l[k].lc),(21,.int .i64 (l[k].lines.length:Int)),(22,.int .i64 i)]:TT)/\S'=[(r5,.cells (bA l[k]) 75 3)]::sgi::S) (m:=l[k].lines.length) ⟨0,_,_,⟨by omega,by omega,by simpa[bp] using hp⟩,rfl,rfl⟩ ?_
   rintro mi _ _ ⟨i,vi,sgi,⟨hi,hmi,hsi⟩,rfl,rfl⟩;refine PW.s1 rfl (PW.k9 3 5 8 9 10 20 21 22 23 rfl (PW.seq fun K6 hK6=>?_))
   refine PW.cond rfl (fun c23=>?_) (fun c23=>?_)
   ·try simp only[aD] at c23
    have hil:i<l[k].lines.length:=by omega
    obtain⟨b0,hb0⟩:=bR hrk.rdL (by omega)
    have hrl2:=hrk.rdL
    rw[hb0] at hrl2 ⊢;have hrs:=rowsT_succ l[k].pl i
    have hge:l[k].pl.lines[i]! = l[k].lines[i]:=getElem!_pos l[k].lines i hil
    have hrl:=eu l[k].pl i
    have hpa:(pre++bp l[k].pl i).length=pre.length+(bp l[k].pl i).length:=List.length_append
    refine PW.skip (hK6 _ _ (PW.k8 3 5 8 9 10 20 21 22 rfl (PW.seq fun K7 hK7=>PW.block (PW.ae (OL.dp rfl (OL.x (Yields.bO rfl rfl rfl hil) (OL.x (Yields.aT rfl (aJ _) (dA hrl2.cons.cons hil)) (OL.c OW.al ?_))))))))
    rintro _ _ ⟨r7,rfl,rfl⟩;refine OL.dp rfl (OL.c (line_st rfl rfl rfl) ?_);rintro _ _ rfl;change OL _ _ _ _ _ (lseg r7 l[k].lines[i]::[(r5,.cells (bA l[k]) 75 3)]::sgi::S) _;refine OL.nil (PW.k10 3 5 6 7 8 9 10 20 21 22 rfl (PW.seq fun K8 hK8=>PW.ae (OL.dp rfl (OL.x (Yields.ld rfl (az (j:=1) (c:=bA l[k]) (E:=75) (tot:=3) dm rfl)) ?_))))
    refine OL.bool trivial (Yields.pure rfl) (fun g29=>?_) (fun g29=>?_)
    ·try simp only[aD] at g29
     refine OL.ak rfl (.pure rfl) (OL.ak rfl (.ld rfl (az (j:=2) (c:=bA l[k]) (E:=75) (tot:=3) dm rfl)) (OL.ak rfl (.pure rfl) (OL.call rfl rfl (containsI_fc (hrk.rdM.cons.cons.cons) (by omega)) ?_)))
     rintro _ Sx ⟨rfl,hSx⟩;rw[hSx];clear hSx;refine OL.n1 rfl (PW.k10 3 5 7 8 9 10 20 21 22 34 rfl ?_);refine PW.cond rfl (fun c34=>?_) (fun c34=>?_)
     ·skip;refine PW.ops (OL.dp rfl ?_);apply OL.bV (k:=2)
      ·rfl
      ·rfl
      ·rfl
      ·rfl
      ·rfl
      ·rfl
      ·exact hsi
      ·rfl
      ·omega
      ·unfold maxLen;omega
      intro v37 seg37 hsl37;have hsi2:=bt (l:=pre++bp l[k].pl i) (z:=middleB) hsl37
      refine OL.n1 rfl (hK8 _ _ (PW.k9 3 5 7 8 9 10 20 21 22 rfl (PW.ops (OL.p2 rfl rfl (OL.x (Yields.ld rfl (lcell_text (x:=l[k].lines[i]) (E:=99) (tot:=35) bF)) ?_)))));apply OL.bV (k:=2)
      ·rfl
      ·rfl
      ·rfl
      ·rfl
      ·rfl
      ·rfl
      ·exact(by first|exact hsi2|exact hsi)
      ·rfl
      ·(first|omega|(simp only[List.length_append,List.length_cons,List.length_nil] at *;omega))
      ·unfold maxLen;(first|omega|(simp only[List.length_append,List.length_cons,List.length_nil] at *;omega))
      intro v42 seg42 hsl42;refine OL.n1 rfl (hK7 _ _ (PW.k8 3 5 8 9 10 20 21 22 rfl (PW.ops (OL.x (Yields.ao rfl rfl (by omega) (by omega)) (OL.n1 rfl ?_)))))
      refine af.dE (Sub.drop (Sub.refl _)) (T'':=[(3,_),(5,_),(8,_),(9,_),(10,_),(20,_),(21,_),(22,_)]) (wi rfl) ?_;rw[hb0];have he:pre++bp l[k].pl (i+1)=pre++bp l[k].pl i++[middleB]++[l[k].lines[i].text]:=by
       rw[hrs,hge,if_pos (by show(l[k].block && l[k].cY.contains (i:Int))=true;rw[g29,c34];rfl)]
       simp only[List.append_assoc]
      have:=bt (z:=l[k].lines[i].text) hsl42
      exact⟨l[k].lines.length-(i+1),by omega,i+1,_,seg42,⟨by omega,rfl,by rw[he];exact this⟩,rfl,rfl⟩
     skip;refine PW.skip (hK8 _ _ (PW.k9 3 5 7 8 9 10 20 21 22 rfl (PW.ops (OL.p2 rfl rfl (OL.x (Yields.ld rfl (lcell_text (x:=l[k].lines[i]) (E:=99) (tot:=35) bF)) ?_)))));apply OL.bV (k:=2)
     ·rfl
     ·rfl
     ·rfl
     ·rfl
     ·rfl
     ·rfl
     ·exact(by first|exact hsi2|exact hsi)
     ·rfl
     ·(first|omega|(simp only[List.length_append,List.length_cons,List.length_nil] at *;omega))
     ·unfold maxLen;(first|omega|(simp only[List.length_append,List.length_cons,List.length_nil] at *;omega))
     intro v42 seg42 hsl42;refine OL.n1 rfl (hK7 _ _ (PW.k8 3 5 8 9 10 20 21 22 rfl (PW.ops (OL.x (Yields.ao rfl rfl (by omega) (by omega)) (OL.n1 rfl ?_)))))
     refine af.dE (Sub.drop (Sub.refl _)) (T'':=[(3,_),(5,_),(8,_),(9,_),(10,_),(20,_),(21,_),(22,_)]) (wi rfl) ?_;rw[hb0];have he:pre++bp l[k].pl (i+1)=pre++bp l[k].pl i++[l[k].lines[i].text]:=by
      rw[hrs,hge,if_neg (by show ¬(l[k].block && l[k].cY.contains (i:Int))=true;rw[g29,c34];simp)]
      simp only[List.nil_append,List.append_assoc]
     have:=bt (z:=l[k].lines[i].text) hsl42
     exact⟨l[k].lines.length-(i+1),by omega,i+1,_,seg42,⟨by omega,rfl,by rw[he];exact this⟩,rfl,rfl⟩
    try simp only[aD] at g29
    refine OL.off rfl rfl (OL.off rfl rfl (OL.off rfl rfl (OL.off rfl rfl (OL.n1 rfl (PW.k10 3 5 7 8 9 10 20 21 22 34 rfl (PW.ite (b:=false) rfl ?_))))));rw[if_neg Bool.false_ne_true];refine PW.skip (hK8 _ _ (PW.k9 3 5 7 8 9 10 20 21 22 rfl (PW.ops (OL.p2 rfl rfl (OL.x (Yields.ld rfl (lcell_text (x:=l[k].lines[i]) (E:=99) (tot:=35) bF)) ?_)))));apply OL.bV (k:=2)
    ·rfl
    ·rfl
    ·rfl
    ·rfl
    ·rfl
    ·rfl
    ·exact(by first|exact hsi2|exact hsi)
    ·rfl
    ·(first|omega|(simp only[List.length_append,List.length_cons,List.length_nil] at *;omega))
    ·unfold maxLen;(first|omega|(simp only[List.length_append,List.length_cons,List.length_nil] at *;omega))
    intro v42 seg42 hsl42;refine OL.n1 rfl (hK7 _ _ (PW.k8 3 5 8 9 10 20 21 22 rfl (PW.ops (OL.x (Yields.ao rfl rfl (by omega) (by omega)) (OL.n1 rfl ?_)))))
    refine af.dE (Sub.drop (Sub.refl _)) (T'':=[(3,_),(5,_),(8,_),(9,_),(10,_),(20,_),(21,_),(22,_)]) (wi rfl) ?_;rw[hb0];have he:pre++bp l[k].pl (i+1)=pre++bp l[k].pl i++[l[k].lines[i].text]:=by
     rw[hrs,hge,if_neg (by show ¬(l[k].block && l[k].cY.contains (i:Int))=true;rw[g29];simp)]
     simp only[List.nil_append,List.append_assoc]
    have:=bt (z:=l[k].lines[i].text) hsl42
    exact⟨l[k].lines.length-(i+1),by omega,i+1,_,seg42,⟨by omega,rfl,by rw[he];exact this⟩,rfl,rfl⟩
   try simp only[aD] at c23
   have hie:i=l[k].lines.length:=by omega
   have hpg:=pli_get hkl
   have hts:=textI_snoc (l:=b8 l) (k:=k) (by omega)
   rw[hpg] at hts;unfold dT at hts;have hts:cJ ((b8 l).take (k+1))=cJ ((b8 l).take k)++((if l[k].block=true then [beginB] else [])++bp l[k].pl l[k].lines.length++(if l[k].block=true then [closeB] else [])):=hts
   have hrl:=eu l[k].pl i
   have hpa:(pre++bp l[k].pl i).length=pre.length+(bp l[k].pl i).length:=List.length_append
   refine PW.exit (hK5 _ _ (PW.k5 3 5 8 9 10 rfl (PW.ae (OL.dp rfl (OL.x (Yields.ld rfl (az (j:=1) (c:=bA l[k]) (E:=75) (tot:=3) bF rfl)) (OL.nil (PW.k5 3 8 9 10 45 rfl ?_)))))));refine PW.cond rfl (fun c45=>?_) (fun c45=>?_)
   ·skip;refine PW.ops (OL.dp rfl ?_);apply OL.bV (k:=1)
    ·rfl
    ·rfl
    ·rfl
    ·rfl
    ·rfl
    ·rfl
    ·exact hsi
    ·rfl
    ·omega
    ·unfold maxLen;omega
    intro v48 seg48 hsl48;refine OL.n1 rfl (hK3 _ _ (PW.k4 3 8 9 10 rfl (PW.ops (OL.x (Yields.ao rfl rfl (by omega) (by omega)) (OL.n1 rfl ?_)))))
    refine af.dE (Sub.drop (Sub.refl _)) (T'':=[(3,_),(8,_),(9,_),(10,_)]) (wi rfl) ?_;have he:cJ ((b8 l).take (k+1))=pre++bp l[k].pl i++[closeB]:=by
     rw[hts,hpre,hie];simp only[c45,if_true,List.append_assoc]
    have:=bt (z:=closeB) hsl48
    exact⟨l.length-(k+1),by omega,k+1,_,seg48,⟨by omega,rfl,by rw[he];exact this⟩,rfl,rfl⟩
   skip;refine PW.skip (hK3 _ _ (PW.k4 3 8 9 10 rfl (PW.ops (OL.x (Yields.ao rfl rfl (by omega) (by omega)) (OL.n1 rfl ?_)))))
   refine af.dE (Sub.drop (Sub.refl _)) (T'':=[(3,_),(8,_),(9,_),(10,_)]) (wi rfl) ?_;have he:cJ ((b8 l).take (k+1))=pre++bp l[k].pl i:=by
    rw[hts,hpre,hie];simp only[c45,Bool.false_eq_true,if_false,List.append_nil,List.nil_append,List.append_assoc]
   exact⟨l.length-(k+1),by omega,k+1,vi,sgi,⟨by omega,rfl,by rw[he];exact hsi⟩,rfl,rfl⟩
  skip;obtain⟨pre,hpre⟩:∃z,z=cJ ((b8 l).take k)++(if l[k].block then [beginB] else []):=⟨_,rfl⟩;have hp:aV 9 1 vo pre.length (strs pre) sgo:=by
   rw[hpre,if_neg (by rw[c15];simp),List.append_nil]
   exact hso
  have hpl:pre.length<=120003*k+1:=by rw[hpre,List.length_append];have:=eQ hNL k (by rw[hpl0];omega);split<;>simp<;>omega
  refine PW.skip (hK4 _ _ (PW.k5 3 5 8 9 10 rfl (PW.seq fun K9 hK9=>PW.ae (OL.dp rfl (OL.x (Yields.ld rfl (az (j:=0) (c:=bA l[k]) (E:=75) (tot:=3) bF rfl)) (OL.n2 rfl rfl (PW.k8 3 5 8 9 10 20 21 22 rfl (PW.block ?_))))))))
  refine PW.k8 3 5 8 9 10 20 21 22 rfl ?_;refine PW.aR (I:=fun mi T S'=>∃(i:Nat) (vi:Value) (sgi:bD),(i<=l[k].lines.length/\mi=l[k].lines.length-i/\aV 9 1 vi (pre++bp l[k].pl i).length (strs (pre++bp l[k].pl i)) sgi)/\T=([(3,vi),(5,.pointer (some ⟨r5,0,none⟩)),(8,.slice (some a0) l.length c),(9,.int .i64 (l.length:Int)),(10,.int .i64 k),(20,.slice l[k].LA l[k].lines.length l[k].lc),(21,.int .i64 (l[k].lines.length:Int)),(22,.int .i64 i)]:TT)/\S'=[(r5,.cells (bA l[k]) 75 3)]::sgi::S) (m:=l[k].lines.length) ⟨0,_,_,⟨by omega,by omega,by simpa[bp] using hp⟩,rfl,rfl⟩ ?_
  rintro mi _ _ ⟨i,vi,sgi,⟨hi,hmi,hsi⟩,rfl,rfl⟩;refine PW.s1 rfl (PW.k9 3 5 8 9 10 20 21 22 23 rfl (PW.seq fun K10 hK10=>?_))
  refine PW.cond rfl (fun c23=>?_) (fun c23=>?_)
  ·try simp only[aD] at c23
   have hil:i<l[k].lines.length:=by omega
   obtain⟨b0,hb0⟩:=bR hrk.rdL (by omega)
   have hrl2:=hrk.rdL
   rw[hb0] at hrl2 ⊢;have hrs:=rowsT_succ l[k].pl i
   have hge:l[k].pl.lines[i]! = l[k].lines[i]:=getElem!_pos l[k].lines i hil
   have hrl:=eu l[k].pl i
   have hpa:(pre++bp l[k].pl i).length=pre.length+(bp l[k].pl i).length:=List.length_append
   refine PW.skip (hK10 _ _ (PW.k8 3 5 8 9 10 20 21 22 rfl (PW.seq fun K11 hK11=>PW.block (PW.ae (OL.dp rfl (OL.x (Yields.bO rfl rfl rfl hil) (OL.x (Yields.aT rfl (aJ _) (dA hrl2.cons.cons hil)) (OL.c OW.al ?_))))))))
   rintro _ _ ⟨r7,rfl,rfl⟩;refine OL.dp rfl (OL.c (line_st rfl rfl rfl) ?_);rintro _ _ rfl;change OL _ _ _ _ _ (lseg r7 l[k].lines[i]::[(r5,.cells (bA l[k]) 75 3)]::sgi::S) _;refine OL.nil (PW.k10 3 5 6 7 8 9 10 20 21 22 rfl (PW.seq fun K12 hK12=>PW.ae (OL.dp rfl (OL.x (Yields.ld rfl (az (j:=1) (c:=bA l[k]) (E:=75) (tot:=3) dm rfl)) ?_))))
   refine OL.bool trivial (Yields.pure rfl) (fun g29=>?_) (fun g29=>?_)
   ·try simp only[aD] at g29
    refine OL.ak rfl (.pure rfl) (OL.ak rfl (.ld rfl (az (j:=2) (c:=bA l[k]) (E:=75) (tot:=3) dm rfl)) (OL.ak rfl (.pure rfl) (OL.call rfl rfl (containsI_fc (hrk.rdM.cons.cons.cons) (by omega)) ?_)))
    rintro _ Sx ⟨rfl,hSx⟩;rw[hSx];clear hSx;refine OL.n1 rfl (PW.k10 3 5 7 8 9 10 20 21 22 34 rfl ?_);refine PW.cond rfl (fun c34=>?_) (fun c34=>?_)
    ·skip;refine PW.ops (OL.dp rfl ?_);apply OL.bV (k:=2)
     ·rfl
     ·rfl
     ·rfl
     ·rfl
     ·rfl
     ·rfl
     ·exact hsi
     ·rfl
     ·omega
     ·unfold maxLen;omega
     intro v37 seg37 hsl37;have hsi2:=bt (l:=pre++bp l[k].pl i) (z:=middleB) hsl37
     refine OL.n1 rfl (hK12 _ _ (PW.k9 3 5 7 8 9 10 20 21 22 rfl (PW.ops (OL.p2 rfl rfl (OL.x (Yields.ld rfl (lcell_text (x:=l[k].lines[i]) (E:=99) (tot:=35) bF)) ?_)))));apply OL.bV (k:=2)
     ·rfl
     ·rfl
     ·rfl
     ·rfl
     ·rfl
     ·rfl
     ·exact(by first|exact hsi2|exact hsi)
     ·rfl
     ·(first|omega|(simp only[List.length_append,List.length_cons,List.length_nil] at *;omega))
     ·unfold maxLen;(first|omega|(simp only[List.length_append,List.length_cons,List.length_nil] at *;omega))
     intro v42 seg42 hsl42;refine OL.n1 rfl (hK11 _ _ (PW.k8 3 5 8 9 10 20 21 22 rfl (PW.ops (OL.x (Yields.ao rfl rfl (by omega) (by omega)) (OL.n1 rfl ?_)))))
     refine af.dE (Sub.drop (Sub.refl _)) (T'':=[(3,_),(5,_),(8,_),(9,_),(10,_),(20,_),(21,_),(22,_)]) (wi rfl) ?_;rw[hb0];have he:pre++bp l[k].pl (i+1)=pre++bp l[k].pl i++[middleB]++[l[k].lines[i].text]:=by
      rw[hrs,hge,if_pos (by show(l[k].block && l[k].cY.contains (i:Int))=true;rw[g29,c34];rfl)]
      simp only[List.append_assoc]
     have:=bt (z:=l[k].lines[i].text) hsl42
     exact⟨l[k].lines.length-(i+1),by omega,i+1,_,seg42,⟨by omega,rfl,by rw[he];exact this⟩,rfl,rfl⟩
    skip;refine PW.skip (hK12 _ _ (PW.k9 3 5 7 8 9 10 20 21 22 rfl (PW.ops (OL.p2 rfl rfl (OL.x (Yields.ld rfl (lcell_text (x:=l[k].lines[i]) (E:=99) (tot:=35) bF)) ?_)))));apply OL.bV (k:=2)
    ·rfl
    ·rfl
    ·rfl
    ·rfl
    ·rfl
    ·rfl
    ·exact(by first|exact hsi2|exact hsi)
    ·rfl
    ·(first|omega|(simp only[List.length_append,List.length_cons,List.length_nil] at *;omega))
    ·unfold maxLen;(first|omega|(simp only[List.length_append,List.length_cons,List.length_nil] at *;omega))
    intro v42 seg42 hsl42;refine OL.n1 rfl (hK11 _ _ (PW.k8 3 5 8 9 10 20 21 22 rfl (PW.ops (OL.x (Yields.ao rfl rfl (by omega) (by omega)) (OL.n1 rfl ?_)))))
    refine af.dE (Sub.drop (Sub.refl _)) (T'':=[(3,_),(5,_),(8,_),(9,_),(10,_),(20,_),(21,_),(22,_)]) (wi rfl) ?_;rw[hb0];have he:pre++bp l[k].pl (i+1)=pre++bp l[k].pl i++[l[k].lines[i].text]:=by
     rw[hrs,hge,if_neg (by show ¬(l[k].block && l[k].cY.contains (i:Int))=true;rw[g29,c34];simp)]
     simp only[List.nil_append,List.append_assoc]
    have:=bt (z:=l[k].lines[i].text) hsl42
    exact⟨l[k].lines.length-(i+1),by omega,i+1,_,seg42,⟨by omega,rfl,by rw[he];exact this⟩,rfl,rfl⟩
   try simp only[aD] at g29
   refine OL.off rfl rfl (OL.off rfl rfl (OL.off rfl rfl (OL.off rfl rfl (OL.n1 rfl (PW.k10 3 5 7 8 9 10 20 21 22 34 rfl (PW.ite (b:=false) rfl ?_))))));rw[if_neg Bool.false_ne_true];refine PW.skip (hK12 _ _ (PW.k9 3 5 7 8 9 10 20 21 22 rfl (PW.ops (OL.p2 rfl rfl (OL.x (Yields.ld rfl (lcell_text (x:=l[k].lines[i]) (E:=99) (tot:=35) bF)) ?_)))));apply OL.bV (k:=2)
   ·rfl
   ·rfl
   ·rfl
   ·rfl
   ·rfl
   ·rfl
   ·exact(by first|exact hsi2|exact hsi)
   ·rfl
   ·(first|omega|(simp only[List.length_append,List.length_cons,List.length_nil] at *;omega))
   ·unfold maxLen;(first|omega|(simp only[List.length_append,List.length_cons,List.length_nil] at *;omega))
   intro v42 seg42 hsl42;refine OL.n1 rfl (hK11 _ _ (PW.k8 3 5 8 9 10 20 21 22 rfl (PW.ops (OL.x (Yields.ao rfl rfl (by omega) (by omega)) (OL.n1 rfl ?_)))))
   refine af.dE (Sub.drop (Sub.refl _)) (T'':=[(3,_),(5,_),(8,_),(9,_),(10,_),(20,_),(21,_),(22,_)]) (wi rfl) ?_;rw[hb0];have he:pre++bp l[k].pl (i+1)=pre++bp l[k].pl i++[l[k].lines[i].text]:=by
    rw[hrs,hge,if_neg (by show ¬(l[k].block && l[k].cY.contains (i:Int))=true;rw[g29];simp)]
    simp only[List.nil_append,List.append_assoc]
   have:=bt (z:=l[k].lines[i].text) hsl42
   exact⟨l[k].lines.length-(i+1),by omega,i+1,_,seg42,⟨by omega,rfl,by rw[he];exact this⟩,rfl,rfl⟩
  try simp only[aD] at c23
  have hie:i=l[k].lines.length:=by omega
  have hpg:=pli_get hkl
  have hts:=textI_snoc (l:=b8 l) (k:=k) (by omega)
  rw[hpg] at hts;unfold dT at hts;have hts:cJ ((b8 l).take (k+1))=cJ ((b8 l).take k)++((if l[k].block=true then [beginB] else [])++bp l[k].pl l[k].lines.length++(if l[k].block=true then [closeB] else [])):=hts
  have hrl:=eu l[k].pl i
  have hpa:(pre++bp l[k].pl i).length=pre.length+(bp l[k].pl i).length:=List.length_append
  refine PW.exit (hK9 _ _ (PW.k5 3 5 8 9 10 rfl (PW.ae (OL.dp rfl (OL.x (Yields.ld rfl (az (j:=1) (c:=bA l[k]) (E:=75) (tot:=3) bF rfl)) (OL.nil (PW.k5 3 8 9 10 45 rfl ?_)))))));refine PW.cond rfl (fun c45=>?_) (fun c45=>?_)
  ·skip;refine PW.ops (OL.dp rfl ?_);apply OL.bV (k:=1)
   ·rfl
   ·rfl
   ·rfl
   ·rfl
   ·rfl
   ·rfl
   ·exact hsi
   ·rfl
   ·omega
   ·unfold maxLen;omega
   intro v48 seg48 hsl48;refine OL.n1 rfl (hK3 _ _ (PW.k4 3 8 9 10 rfl (PW.ops (OL.x (Yields.ao rfl rfl (by omega) (by omega)) (OL.n1 rfl ?_)))))
   refine af.dE (Sub.drop (Sub.refl _)) (T'':=[(3,_),(8,_),(9,_),(10,_)]) (wi rfl) ?_;have he:cJ ((b8 l).take (k+1))=pre++bp l[k].pl i++[closeB]:=by
    rw[hts,hpre,hie];simp only[c45,if_true,List.append_assoc]
   have:=bt (z:=closeB) hsl48
   exact⟨l.length-(k+1),by omega,k+1,_,seg48,⟨by omega,rfl,by rw[he];exact this⟩,rfl,rfl⟩
  skip;refine PW.skip (hK3 _ _ (PW.k4 3 8 9 10 rfl (PW.ops (OL.x (Yields.ao rfl rfl (by omega) (by omega)) (OL.n1 rfl ?_)))))
  refine af.dE (Sub.drop (Sub.refl _)) (T'':=[(3,_),(8,_),(9,_),(10,_)]) (wi rfl) ?_;have he:cJ ((b8 l).take (k+1))=pre++bp l[k].pl i:=by
   rw[hts,hpre,hie];simp only[c45,Bool.false_eq_true,if_false,List.append_nil,List.nil_append,List.append_assoc]
  exact⟨l.length-(k+1),by omega,k+1,vi,sgi,⟨by omega,rfl,by rw[he];exact hsi⟩,rfl,rfl⟩
 try simp only[aD] at c11
 refine PW.exit (hK1 _ _ (PW.k1 3 rfl (PW.s2 rfl rfl (PW.k1 2 rfl ?_))));refine PW.ret (zR rfl ?_);have hke:k=(b8 l).length:=by omega
 rw[hke,List.take_length] at hso;have:=eQ hNL (b8 l).length (Nat.le_refl _)
 rw[List.take_length] at this;exact⟨_,Sub.refl _,sgo,rfl,hso,by omega⟩
end Go.Proofs.Gr
