/- Walks. -/
import Derived.Test.YtbejcoeajlhmcaaGreatPart5
import Derived.Laws.RangeAny
import Derived.Laws.RangeString
set_option linter.unusedVariables false
set_option linter.unusedSimpArgs false
set_option linter.unusedSectionVars false

namespace Go.Proofs.Ln
open Go.SL Go.RowKit Go.Proofs.Tryz
def strs (ls:List ByteArray):List Value:=ls.map .string
theorem strs_len (ls:List ByteArray):(strs ls).length=ls.length:=by simp[strs]
theorem toL (s:ByteArray):s.toList=s.data.toList:=ByteArray.toList_eq s
set_option maxHeartbeats 1000000
theorem OL.nxt {P:Program}{w0:World}{n:Nat}{T:TT}{S:SS}{x:PV}{s:ByteArray}{b k p d1 d2:Nat}{rest:List PI}{K:TT->SS->Prop}(hx:x.val T=some (.pointer (some ⟨b,0,none⟩))) (hk:S[k]? = some [(b,.obj (.stringIter s p))])
  (h1:p<s.size->OL P w0 n rest ((d2,.bool true)::(d1,.tuple #[.bool true,.int .i64 (p:Int),.int .i32 ((Utf8.decode s p).1:Int)])::T) (S.set k [(b,.obj (.stringIter s (p+(Utf8.decode s p).2)))]) K)
  (h2:¬p<s.size->OL P w0 n rest ((d2,.bool false)::(d1,.tuple #[.bool false])::T) S K) :
  OL P w0 n (⟨some d1,none,.more (.nxtS x)⟩::⟨some d2,none,.ext 0 (.t d1)⟩::rest) T S K:=by
 have hl:∀v:Value,(PV.t d1).val ((d1,v)::T)=some v:=fun v=>bH d1 v T
 by_cases hp:p<s.size
 ·refine OL.c (OW.nxtS hx hk hp) ?_;rintro _ _ ⟨rfl,rfl⟩;refine OL.x (Yields.pure (v:=.bool true) ?_) (h1 hp)
  show bJ _ _=_
  unfold bJ;simp only[put,hl];rfl
 refine OL.x (OW.nxtS_end hx hk hp) ?_;refine OL.x (Yields.pure (v:=.bool false) ?_) (h2 hp)
 show bJ _ _=_
 unfold bJ;simp only[put,hl];rfl
def okB (b:UInt8):Bool:=decide (b.toNat=9) || (decide (32<=b.toNat) && decide (b.toNat<=126))
def plainP (s:ByteArray):Bool:=s.data.toList.all okB && decide (s.size<=80)
theorem ba_get {s:ByteArray}{k:Nat}(h:k<s.size):∃b,s[k]? = some b/\s.data.toList[k]? = some b/\s.data.toList.take (k+1)=s.data.toList.take k++[b]/\s[k]'h=b:=by
 have h':k<s.data.toList.length:=by simpa using h
 refine⟨s[k],by rw[getElem?_pos s k h],?_,?_,rfl⟩
 ·rw[List.getElem?_eq_getElem h'];rfl
 rw[List.take_add_one,List.getElem?_eq_getElem h'];rfl
theorem plain_bad {s:ByteArray}{k:Nat}{b:UInt8}(h:s.data.toList[k]? = some b) (hb:okB b=false):plainP s=false:=by
 unfold plainP;have:s.data.toList.all okB=false:=by
  rw[List.all_eq_false];exact⟨b,List.mem_of_getElem? h,by rw[hb];simp⟩
 rw[this];rfl
theorem plain_all {s:ByteArray}{k:Nat}(hk:k=s.size) (h:(s.data.toList.take k).all okB=true):plainP s=decide ((s.size:Int)<=80):=by
 subst hk;rw[List.take_of_length_le (by simp)] at h
 unfold plainP;rw[h];simp;omega
theorem dec_ok {s:ByteArray}{p:Nat}{b:UInt8}(hp:p<s.size) (hb:s[p]'hp=b):(b.toNat<128/\(Utf8.decode s p).1=b.toNat/\(Utf8.decode s p).2=1)∨(128<=b.toNat/\128<=(Utf8.decode s p).1):=by
 by_cases h:b.toNat<128
 ·have:=decode_ascii s p hp (by rw[hb];exact h)
  rw[this,hb];exact .inl ⟨h,rfl,rfl⟩
 exact .inr ⟨by omega,(decode_high s p hp (by rw[hb];omega)).1⟩
theorem rplain_fc {w0:World}{S:SS}{s:ByteArray}(hs:s.size<=1000000000000000):FC prog w0 78 [.string s] S (fun v S'=>v=.bool (plainP s)/\S'=S):=by
 refine FC.of known78 (by simp) ?_
 unfold pc78;simp only[bo];refine PW.s1 rfl (PW.k1 0 rfl (PW.seq fun K1 hK1=>PW.s1 rfl (PW.k2 0 3 rfl (PW.block (PW.k2 0 3 rfl ?_)))))
 refine PW.aR (I:=fun m T S'=>∃(k:Nat),(k<=s.size/\m=s.size-k/\(s.data.toList.take k).all okB=true)/\T=([(0,.string s),(3,.int .i64 k)]:TT)/\S'=S) (m:=s.size) ⟨0,⟨by omega,by omega,rfl⟩,rfl,rfl⟩ ?_
 rintro m _ _ ⟨k,⟨hk,hm,hall⟩,rfl,rfl⟩;refine PW.seq fun K2 hK2=>PW.s4 rfl rfl rfl rfl (PW.k3 0 3 7 rfl ?_)
 refine PW.cond rfl (fun c7=>?_) (fun c7=>?_)
 ·try simp only[decide_eq_true_eq,decide_eq_false_iff_not,beq_iff_eq,bne_iff_ne,beq_eq_false_iff_ne,bne_eq_false_iff_eq,Bool.not_eq_true',Bool.not_eq_false',Bool.not_eq_true,ne_eq,Decidable.not_not] at c7
  have hkl:k<s.size:=by omega
  obtain⟨b,hb,hb2,htk,_⟩:=ba_get hkl;refine PW.skip (hK2 _ _ (PW.k2 0 3 rfl (PW.seq fun K3 hK3=>PW.block (PW.ae (OL.p2 rfl rfl (OL.x (Yields.eG rfl rfl hb) (OL.dp rfl ?_)))))))
  refine OL.bool trivial (Yields.pure rfl) (fun g14=>?_) (fun g14=>?_)
  ·try simp only[decide_eq_true_eq,decide_eq_false_iff_not,beq_iff_eq,bne_iff_ne,beq_eq_false_iff_ne,bne_eq_false_iff_eq,Bool.not_eq_true',Bool.not_eq_false',Bool.not_eq_true,ne_eq,Decidable.not_not] at g14
   refine OL.ak rfl (.pure rfl) (OL.ak rfl (.pure rfl) (OL.ak rfl (Yields.eG rfl rfl hb) (OL.ak rfl (.pure rfl) ?_)));refine OL.bool rfl (Yields.pure rfl) (fun g19=>?_) (fun g19=>?_)
   ·try simp only[decide_eq_true_eq,decide_eq_false_iff_not,beq_iff_eq,bne_iff_ne,beq_eq_false_iff_ne,bne_eq_false_iff_eq,Bool.not_eq_true',Bool.not_eq_false',Bool.not_eq_true,ne_eq,Decidable.not_not] at g19
    refine OL.off rfl rfl (OL.off rfl rfl (OL.off rfl rfl (OL.off rfl rfl (OL.ak rfl (.pure rfl) (OL.n1 rfl (PW.k3 0 3 25 rfl (PW.ite (b:=true) rfl ?_)))))));rw[if_pos rfl];refine PW.s1 rfl (PW.k1 2 rfl ?_);refine PW.ret (zR rfl ?_);have hbad:okB b=false:=by simp[okB];omega
    exact⟨by rw[plain_bad hb2 hbad],rfl⟩
   try simp only[decide_eq_true_eq,decide_eq_false_iff_not,beq_iff_eq,bne_iff_ne,beq_eq_false_iff_ne,bne_eq_false_iff_eq,Bool.not_eq_true',Bool.not_eq_false',Bool.not_eq_true,ne_eq,Decidable.not_not] at g19
   refine OL.ak rfl (.pure rfl) (OL.ak rfl (.pure rfl) (OL.ak rfl (Yields.eG rfl rfl hb) (OL.ak rfl (.pure rfl) (OL.ak rfl (.pure rfl) (OL.n1 rfl (PW.k3 0 3 25 rfl ?_))))));refine PW.cond rfl (fun c25=>?_) (fun c25=>?_)
   ·try simp only[decide_eq_true_eq,decide_eq_false_iff_not,beq_iff_eq,bne_iff_ne,beq_eq_false_iff_ne,bne_eq_false_iff_eq,Bool.not_eq_true',Bool.not_eq_false',Bool.not_eq_true,ne_eq,Decidable.not_not] at c25
    refine PW.s1 rfl (PW.k1 2 rfl ?_);refine PW.ret (zR rfl ?_);have hbad:okB b=false:=by simp[okB];omega
    exact⟨by rw[plain_bad hb2 hbad],rfl⟩
   try simp only[decide_eq_true_eq,decide_eq_false_iff_not,beq_iff_eq,bne_iff_ne,beq_eq_false_iff_ne,bne_eq_false_iff_eq,Bool.not_eq_true',Bool.not_eq_false',Bool.not_eq_true,ne_eq,Decidable.not_not] at c25
   refine PW.skip (hK3 _ _ (PW.k2 0 3 rfl (PW.ops (OL.dp rfl (OL.x (Yields.ao rfl rfl (by omega) (by omega)) (OL.n1 rfl ?_))))))
   refine af.mk (T'':=[(0,_),(3,_)]) (wi rfl) ?_;refine⟨s.size-(k+1),by omega,k+1,⟨by omega,rfl,?_⟩,by simp,rfl⟩
   rw[htk,List.all_append,hall];simp[okB];omega
  try simp only[decide_eq_true_eq,decide_eq_false_iff_not,beq_iff_eq,bne_iff_ne,beq_eq_false_iff_ne,bne_eq_false_iff_eq,Bool.not_eq_true',Bool.not_eq_false',Bool.not_eq_true,ne_eq,Decidable.not_not] at g14
  refine OL.off rfl rfl (OL.off rfl rfl (OL.off rfl rfl (OL.off rfl rfl (OL.off rfl rfl (OL.off rfl rfl (OL.off rfl rfl (OL.off rfl rfl (OL.off rfl rfl (OL.off rfl rfl (OL.n1 rfl ?_))))))))));refine PW.k3 0 3 25 rfl (PW.ite (b:=false) rfl ?_);rw[if_neg Bool.false_ne_true];refine PW.skip (hK3 _ _ (PW.k2 0 3 rfl (PW.ops (OL.dp rfl (OL.x (Yields.ao rfl rfl (by omega) (by omega)) (OL.n1 rfl ?_))))))
  refine af.mk (T'':=[(0,_),(3,_)]) (wi rfl) ?_;refine⟨s.size-(k+1),by omega,k+1,⟨by omega,rfl,?_⟩,by simp,rfl⟩
  rw[htk,List.all_append,hall];simp[okB];omega
 try simp only[decide_eq_true_eq,decide_eq_false_iff_not,beq_iff_eq,bne_iff_ne,beq_eq_false_iff_ne,bne_eq_false_iff_eq,Bool.not_eq_true',Bool.not_eq_false',Bool.not_eq_true,ne_eq,Decidable.not_not] at c7
 exact PW.exit (hK1 _ _ (PW.k1 0 rfl (PW.s4 rfl rfl rfl rfl (PW.k1 2 rfl (PW.ret (zR rfl ⟨by rw[plain_all (k:=k) (by omega) hall],rfl⟩))))))
theorem plain_fc {w0:World}{S:SS}{s:ByteArray}(hs:s.size<=1000000000000000):FC prog w0 44 [.string s] S (fun v S'=>v=.bool (plainP s)/\S'=S):=by
 refine FC.ofD known44 (by simp) ?_
 unfold pc44;simp only[bo];refine PW.s1 rfl (PW.k1 0 rfl (PW.seq fun K1 hK1=>PW.ae (OL.dp rfl (OL.c (OW.rngS rfl) ?_))))
 rintro _ _ ⟨r6,rfl,rfl⟩;refine OL.nil (PW.k2 0 6 rfl (PW.block (PW.k2 0 6 rfl ?_)));refine PW.aR (I:=fun m T S'=>∃(k:Nat),(k<=s.size/\m=s.size-k/\(s.data.toList.take k).all okB=true)/\T=([(0,.string s),(6,.pointer (some ⟨r6,0,none⟩))]:TT)/\S'=[(r6,.obj (.stringIter s k))]::S) (m:=s.size) ⟨0,⟨by omega,by omega,rfl⟩,rfl,rfl⟩ ?_
 rintro m _ _ ⟨k,⟨hk,hm,hall⟩,rfl,rfl⟩;refine PW.ae ?_;refine OL.nxt (k:=0) rfl rfl ?_ ?_
 ·intro hp;refine OL.nil (PW.k4 0 6 7 8 rfl (PW.seq fun K2 hK2=>PW.ite (b:=true) rfl ?_))
  rw[if_pos rfl];refine PW.skip (hK2 _ _ (PW.k3 0 6 7 rfl (PW.block (PW.ae ?_))));obtain⟨b,hb,hb2,htk,hbe⟩:=ba_get hp;have hdec:=dec_ok hp hbe
  refine OL.n2 rfl rfl (PW.k3 0 4 6 rfl (PW.ae (OL.p2 rfl rfl ?_)));refine OL.bool trivial (Yields.pure rfl) (fun g12=>?_) (fun g12=>?_)
  ·try simp only[decide_eq_true_eq,decide_eq_false_iff_not,beq_iff_eq,bne_iff_ne,beq_eq_false_iff_ne,bne_eq_false_iff_eq,Bool.not_eq_true',Bool.not_eq_false',Bool.not_eq_true,ne_eq,Decidable.not_not] at g12
   refine OL.ak rfl (.pure rfl) (OL.ak rfl (.pure rfl) ?_);refine OL.bool rfl (Yields.pure rfl) (fun g15=>?_) (fun g15=>?_)
   ·try simp only[decide_eq_true_eq,decide_eq_false_iff_not,beq_iff_eq,bne_iff_ne,beq_eq_false_iff_ne,bne_eq_false_iff_eq,Bool.not_eq_true',Bool.not_eq_false',Bool.not_eq_true,ne_eq,Decidable.not_not] at g15
    refine OL.off rfl rfl (OL.off rfl rfl (OL.ak rfl (.pure rfl) (OL.n1 rfl (PW.k3 0 6 19 rfl (PW.ite (b:=true) rfl ?_)))));rw[if_pos rfl];refine PW.s1 rfl (PW.k1 2 rfl ?_);refine PW.ret (zR rfl ?_);have hbad:okB b=false:=by simp[okB];omega
    exact⟨_,Sub.drop (Sub.refl _),by rw[plain_bad hb2 hbad],rfl⟩
   try simp only[decide_eq_true_eq,decide_eq_false_iff_not,beq_iff_eq,bne_iff_ne,beq_eq_false_iff_ne,bne_eq_false_iff_eq,Bool.not_eq_true',Bool.not_eq_false',Bool.not_eq_true,ne_eq,Decidable.not_not] at g15
   refine OL.ak rfl (.pure rfl) (OL.ak rfl (.pure rfl) (OL.ak rfl (.pure rfl) (OL.n1 rfl (PW.k3 0 6 19 rfl ?_))));refine PW.cond rfl (fun c19=>?_) (fun c19=>?_)
   ·try simp only[decide_eq_true_eq,decide_eq_false_iff_not,beq_iff_eq,bne_iff_ne,beq_eq_false_iff_ne,bne_eq_false_iff_eq,Bool.not_eq_true',Bool.not_eq_false',Bool.not_eq_true,ne_eq,Decidable.not_not] at c19
    refine PW.s1 rfl (PW.k1 2 rfl ?_);refine PW.ret (zR rfl ?_);have hbad:okB b=false:=by simp[okB];omega
    exact⟨_,Sub.drop (Sub.refl _),by rw[plain_bad hb2 hbad],rfl⟩
   try simp only[decide_eq_true_eq,decide_eq_false_iff_not,beq_iff_eq,bne_iff_ne,beq_eq_false_iff_ne,bne_eq_false_iff_eq,Bool.not_eq_true',Bool.not_eq_false',Bool.not_eq_true,ne_eq,Decidable.not_not] at c19
   refine PW.skip ?_;refine af.mk (T'':=[(0,_),(6,_)]) (wi rfl) ?_;rcases hdec with⟨e0,e1,e2⟩|⟨e0,e1⟩
   ·refine⟨s.size-(k+1),by omega,k+1,⟨by omega,rfl,?_⟩,rfl,by rw[e2];rfl⟩
    rw[htk,List.all_append,hall];simp[okB];omega
   exfalso;omega
  try simp only[decide_eq_true_eq,decide_eq_false_iff_not,beq_iff_eq,bne_iff_ne,beq_eq_false_iff_ne,bne_eq_false_iff_eq,Bool.not_eq_true',Bool.not_eq_false',Bool.not_eq_true,ne_eq,Decidable.not_not] at g12
  refine OL.off rfl rfl (OL.off rfl rfl (OL.off rfl rfl (OL.off rfl rfl (OL.off rfl rfl (OL.off rfl rfl (OL.n1 rfl (PW.k3 0 6 19 rfl (PW.ite (b:=false) rfl ?_))))))));rw[if_neg Bool.false_ne_true];refine PW.skip ?_;refine af.mk (T'':=[(0,_),(6,_)]) (wi rfl) ?_;rcases hdec with⟨e0,e1,e2⟩|⟨e0,e1⟩
  ·refine⟨s.size-(k+1),by omega,k+1,⟨by omega,rfl,?_⟩,rfl,by rw[e2];rfl⟩
   rw[htk,List.all_append,hall];simp[okB];omega
  exfalso;omega
 intro hp;refine OL.nil (PW.k4 0 6 7 8 rfl (PW.seq fun K3 hK3=>PW.ite (b:=false) rfl ?_))
 rw[if_neg Bool.false_ne_true];exact PW.exit (hK1 _ _ (PW.k1 0 rfl (PW.s4 rfl rfl rfl rfl (PW.k1 2 rfl (PW.ret (zR rfl ⟨_,Sub.drop (Sub.refl _),by rw[plain_all (k:=k) (by omega) hall],rfl⟩))))))
end Go.Proofs.Ln

namespace Go.Proofs.Ln
open Go.SL Go.RowKit Go.Proofs.Tryz
set_option maxHeartbeats 1000000
def mA:ByteArray:=⟨#[62,62,62,62,62,62,62]⟩
def mB:ByteArray:=⟨#[61,61,61,61,61,61,61]⟩
def mC:ByteArray:=⟨#[60,60,60,60,60,60,60]⟩
def eH (s:ByteArray):Bool:=s.toList == mA.toList || s.toList == mB.toList || s.toList == mC.toList
theorem mark_iff (s:ByteArray):eH s=true↔s.data.toList=List.replicate 7 62∨s.data.toList=List.replicate 7 61∨s.data.toList=List.replicate 7 60:=by
 unfold eH;rw[toL,toL,toL,toL,show mA.data.toList=List.replicate 7 62 from rfl,show mB.data.toList=List.replicate 7 61 from rfl,show mC.data.toList=List.replicate 7 60 from rfl]
 simp only[Bool.or_eq_true,beq_iff_eq,or_assoc]
theorem mark_of {s:ByteArray}{b:UInt8}(hs:s.data.toList.length=7) (h0:s.data.toList[0]? = some b) (hb:b.toNat=62∨b.toNat=61∨b.toNat=60) (h:∀j,j<7->s.data.toList[j]? = some b):eH s=true:=by
 rw[mark_iff];have e:s.data.toList=List.replicate 7 b:=by
  apply List.ext_getElem?;intro i;by_cases hi:i<7
  ·rw[h i hi,List.getElem?_replicate,if_pos hi]
  rw[List.getElem?_eq_none (by omega),List.getElem?_eq_none (by simp;omega)]
 rw[e];rcases hb with hb|hb|hb
 ·left;rw[show b=62 from UInt8.toNat_inj.1 hb]
 ·right;left;rw[show b=61 from UInt8.toNat_inj.1 hb]
 right;right;rw[show b=60 from UInt8.toNat_inj.1 hb]
theorem mark_no {s:ByteArray}(h:eH s=true):∃b:UInt8,(b.toNat=62∨b.toNat=61∨b.toNat=60)/\s.size=7/\∀(j:Nat) (c:UInt8),s.data.toList[j]? = some c->c=b:=by
 rw[mark_iff] at h;have key:∀b:UInt8,s.data.toList=List.replicate 7 b->s.size=7/\∀(j:Nat) (c:UInt8),s.data.toList[j]? = some c->c=b:=by
  intro b e;refine⟨by have:=congrArg List.length e;simpa using this,fun j c hc=>?_⟩
  rw[e] at hc;exact List.eq_of_mem_replicate (List.mem_of_getElem? hc)
 rcases h with h|h|h
 ·exact⟨62,.inl rfl,key _ h⟩
 ·exact⟨61,.inr (.inl rfl),key _ h⟩
 exact⟨60,.inr (.inr rfl),key _ h⟩
theorem mark_false {s:ByteArray}(h:eH s=true->False):eH s=false:=by
 cases e:eH s with
 |false=>rfl
 |true=>exact(h e).elim
theorem mark_fc {w0:World}{S:SS}{s:ByteArray}:FC prog w0 18 [.string s] S (fun v S'=>v=.bool (eH s)/\S'=S):=by
 refine FC.of known18 (by simp) ?_
 unfold pc18;simp only[bo];refine PW.s1 rfl (PW.k1 0 rfl (PW.ae (OL.p2 rfl rfl ?_)));refine OL.bool trivial (Yields.pure rfl) (fun g5=>?_) (fun g5=>?_)
 ·try simp only[decide_eq_true_eq,decide_eq_false_iff_not,beq_iff_eq,bne_iff_ne,beq_eq_false_iff_ne,bne_eq_false_iff_eq,Bool.not_eq_true',Bool.not_eq_false',Bool.not_eq_true,ne_eq,Decidable.not_not] at g5
  have h1:(s.toList == mA.toList)=true:=by simpa[mA] using g5
  exact OL.off rfl rfl (OL.off rfl rfl (OL.p2 rfl rfl (OL.off rfl rfl (OL.off rfl rfl (OL.n2 rfl rfl (PW.k1 2 rfl (PW.ret (zR rfl ⟨by first|(unfold eH;rw[h1,h2];rfl)|(unfold eH;rw[h1];rfl),rfl⟩))))))))
 try simp only[decide_eq_true_eq,decide_eq_false_iff_not,beq_iff_eq,bne_iff_ne,beq_eq_false_iff_ne,bne_eq_false_iff_eq,Bool.not_eq_true',Bool.not_eq_false',Bool.not_eq_true,ne_eq,Decidable.not_not] at g5
 have h1:(s.toList == mA.toList)=false:=by simpa[mA] using g5
 refine OL.ak rfl (.pure rfl) (OL.ak rfl (.pure rfl) (OL.dp rfl ?_));refine OL.bool trivial (Yields.pure rfl) (fun g9=>?_) (fun g9=>?_)
 ·try simp only[decide_eq_true_eq,decide_eq_false_iff_not,beq_iff_eq,bne_iff_ne,beq_eq_false_iff_ne,bne_eq_false_iff_eq,Bool.not_eq_true',Bool.not_eq_false',Bool.not_eq_true,ne_eq,Decidable.not_not] at g9
  have h2:(s.toList == mB.toList)=true:=by simpa[mB] using g9
  exact OL.off rfl rfl (OL.off rfl rfl (OL.n2 rfl rfl (PW.k1 2 rfl (PW.ret (zR rfl ⟨by first|(unfold eH;rw[h1,h2];rfl)|(unfold eH;rw[h1];rfl),rfl⟩)))))
 try simp only[decide_eq_true_eq,decide_eq_false_iff_not,beq_iff_eq,bne_iff_ne,beq_eq_false_iff_ne,bne_eq_false_iff_eq,Bool.not_eq_true',Bool.not_eq_false',Bool.not_eq_true,ne_eq,Decidable.not_not] at g9
 have h2:(s.toList == mB.toList)=false:=by simpa[mB] using g9
 exact OL.ak rfl (.pure rfl) (OL.ak rfl (.pure rfl) (OL.n2 rfl rfl (PW.k1 2 rfl (PW.ret (zR rfl ⟨by first|(unfold eH;rw[h1,h2];rfl)|(unfold eH;rw[h1];rfl),rfl⟩)))))
theorem rmark_fc {w0:World}{S:SS}{s:ByteArray}(hs:s.size<=1000000000000000):FC prog w0 79 [.string s] S (fun v S'=>v=.bool (eH s)/\S'=S):=by
 refine FC.of known79 (by simp) ?_
 unfold pc79;simp only[bo];refine PW.s1 rfl (PW.k1 0 rfl (PW.seq fun K1 hK1=>PW.ae (OL.p3 rfl rfl rfl ?_)))
 refine OL.bool trivial (Yields.pure rfl) (fun g7=>?_) (fun g7=>?_)
 ·try simp only[decide_eq_true_eq,decide_eq_false_iff_not,beq_iff_eq,bne_iff_ne,beq_eq_false_iff_ne,bne_eq_false_iff_eq,Bool.not_eq_true',Bool.not_eq_false',Bool.not_eq_true,ne_eq,Decidable.not_not] at g7
  refine OL.off rfl rfl (OL.off rfl rfl (OL.off rfl rfl (OL.off rfl rfl (OL.off rfl rfl (OL.off rfl rfl (OL.off rfl rfl (OL.off rfl rfl (OL.off rfl rfl (OL.off rfl rfl (OL.off rfl rfl (OL.off rfl rfl ?_)))))))))));refine OL.off rfl rfl (OL.n1 rfl (PW.k2 0 21 rfl (PW.ite (b:=true) rfl ?_)));rw[if_pos rfl];refine PW.s1 rfl (PW.k1 2 rfl ?_);refine PW.ret (zR rfl ?_);have hf:eH s=false:=mark_false fun h=>by
   obtain⟨c,hc,h7,hall⟩:=mark_no h
   first
    |omega
    |(have:=hall 0 b hb2;subst this;omega)
  exact⟨by rw[hf],rfl⟩
 try simp only[decide_eq_true_eq,decide_eq_false_iff_not,beq_iff_eq,bne_iff_ne,beq_eq_false_iff_ne,bne_eq_false_iff_eq,Bool.not_eq_true',Bool.not_eq_false',Bool.not_eq_true,ne_eq,Decidable.not_not] at g7
 have h7:s.size=7:=by omega
 obtain⟨b,hb,hb2,_,_⟩:=ba_get (s:=s) (k:=0) (by omega)
 refine OL.ak rfl (.pure rfl) (OL.ak rfl (Yields.eG (j:=0) rfl rfl hb) (OL.ak rfl (.pure rfl) ?_));refine OL.bool rfl (Yields.pure rfl) (fun g11=>?_) (fun g11=>?_)
 ·try simp only[decide_eq_true_eq,decide_eq_false_iff_not,beq_iff_eq,bne_iff_ne,beq_eq_false_iff_ne,bne_eq_false_iff_eq,Bool.not_eq_true',Bool.not_eq_false',Bool.not_eq_true,ne_eq,Decidable.not_not] at g11
  refine OL.ak rfl (.pure rfl) (OL.ak rfl (Yields.eG (j:=0) rfl rfl hb) (OL.ak rfl (.pure rfl) (OL.ak rfl (.pure rfl) ?_)));refine OL.bool rfl (Yields.pure rfl) (fun g16=>?_) (fun g16=>?_)
  ·try simp only[decide_eq_true_eq,decide_eq_false_iff_not,beq_iff_eq,bne_iff_ne,beq_eq_false_iff_ne,bne_eq_false_iff_eq,Bool.not_eq_true',Bool.not_eq_false',Bool.not_eq_true,ne_eq,Decidable.not_not] at g16
   refine OL.ak rfl (.pure rfl) (OL.ak rfl (Yields.eG (j:=0) rfl rfl hb) (OL.ak rfl (.pure rfl) (OL.ak rfl (.pure rfl) (OL.n1 rfl (PW.k2 0 21 rfl ?_)))));refine PW.cond rfl (fun c21=>?_) (fun c21=>?_)
   ·try simp only[decide_eq_true_eq,decide_eq_false_iff_not,beq_iff_eq,bne_iff_ne,beq_eq_false_iff_ne,bne_eq_false_iff_eq,Bool.not_eq_true',Bool.not_eq_false',Bool.not_eq_true,ne_eq,Decidable.not_not] at c21
    refine PW.s1 rfl (PW.k1 2 rfl ?_);refine PW.ret (zR rfl ?_);have hf:eH s=false:=mark_false fun h=>by
     obtain⟨c,hc,h7,hall⟩:=mark_no h
     first
      |omega
      |(have:=hall 0 b hb2;subst this;omega)
    exact⟨by rw[hf],rfl⟩
   try simp only[decide_eq_true_eq,decide_eq_false_iff_not,beq_iff_eq,bne_iff_ne,beq_eq_false_iff_ne,bne_eq_false_iff_eq,Bool.not_eq_true',Bool.not_eq_false',Bool.not_eq_true,ne_eq,Decidable.not_not] at c21
   refine PW.skip (hK1 _ _ (PW.k1 0 rfl (PW.seq fun K2 hK2=>PW.s1 rfl (PW.k2 0 3 rfl (PW.block (PW.k2 0 3 rfl ?_))))))
   refine PW.aR (I:=fun m T S'=>∃(k:Nat),(1<=k/\k<=7/\m=7-k/\∀j,j<k->s.data.toList[j]? = some b)/\T=([(0,.string s),(3,.int .i64 k)]:TT)/\S'=S) (m:=6) ⟨1,⟨by omega,by omega,by omega,fun j hj=>(show 0=j by omega)▸hb2⟩,rfl,rfl⟩ ?_
   rintro m _ _ ⟨k,⟨hk1,hk,hm,heq⟩,rfl,rfl⟩;refine PW.seq fun K3 hK3=>PW.s2 rfl rfl (PW.k3 0 3 23 rfl ?_)
   refine PW.cond rfl (fun c23=>?_) (fun c23=>?_)
   ·try simp only[decide_eq_true_eq,decide_eq_false_iff_not,beq_iff_eq,bne_iff_ne,beq_eq_false_iff_ne,bne_eq_false_iff_eq,Bool.not_eq_true',Bool.not_eq_false',Bool.not_eq_true,ne_eq,Decidable.not_not] at c23
    obtain⟨bk,hbk,hbk2,_,_⟩:=ba_get (s:=s) (k:=k) (by omega)
    refine PW.skip (hK3 _ _ (PW.k2 0 3 rfl (PW.seq fun K4 hK4=>PW.block (PW.seq fun K5 hK5=>PW.aQ mixed (QK.p2 rfl rfl (QK.x (Yields.eG rfl rfl hbk) (QK.dp rfl (QK.x (Yields.eG (j:=0) rfl rfl hb) ?_))))))))
    refine QK.nil ?_;change OL _ _ _ [_] _ _ _;refine OL.n1 rfl (hK5 _ _ (PW.k3 0 3 31 rfl ?_));refine PW.cond rfl (fun c31=>?_) (fun c31=>?_)
    ·try simp only[decide_eq_true_eq,decide_eq_false_iff_not,beq_iff_eq,bne_iff_ne,beq_eq_false_iff_ne,bne_eq_false_iff_eq,Bool.not_eq_true',Bool.not_eq_false',Bool.not_eq_true,ne_eq,Decidable.not_not] at c31
     refine PW.s1 rfl (PW.k1 2 rfl ?_);refine PW.ret (zR rfl ?_);have hf:eH s=false:=mark_false fun h=>by
      obtain⟨c,hc,h7,hall⟩:=mark_no h;have e1:=hall 0 b hb2
      have e2:=hall k bk hbk2
      subst e1;subst e2;exact c31 rfl
     exact⟨by rw[hf],rfl⟩
    try simp only[decide_eq_true_eq,decide_eq_false_iff_not,beq_iff_eq,bne_iff_ne,beq_eq_false_iff_ne,bne_eq_false_iff_eq,Bool.not_eq_true',Bool.not_eq_false',Bool.not_eq_true,ne_eq,Decidable.not_not] at c31
    refine PW.skip (hK4 _ _ (PW.k2 0 3 rfl (PW.ops (OL.dp rfl (OL.x (Yields.ao rfl rfl (by omega) (by omega)) (OL.n1 rfl ?_))))))
    refine af.mk (T'':=[(0,_),(3,_)]) (wi rfl) ?_;refine⟨7-(k+1),by omega,k+1,⟨by omega,by omega,rfl,fun j hj=>?_⟩,by simp,rfl⟩
    by_cases hj':j<k
    ·exact heq j hj'
    obtain rfl:j=k:=by omega
    rw[hbk2];congr 1;apply UInt8.toNat_inj.1;omega
   try simp only[decide_eq_true_eq,decide_eq_false_iff_not,beq_iff_eq,bne_iff_ne,beq_eq_false_iff_ne,bne_eq_false_iff_eq,Bool.not_eq_true',Bool.not_eq_false',Bool.not_eq_true,ne_eq,Decidable.not_not] at c23
   refine PW.exit (hK2 _ _ (PW.cD (T':=[]) trivial (PW.s1 rfl (PW.k1 2 rfl ?_))));refine PW.ret (zR rfl ?_);have ht:eH s=true:=mark_of (b:=b) (by simp;omega) hb2 (by omega) fun j hj=>heq j (by omega)
   exact⟨by rw[ht],rfl⟩
  try simp only[decide_eq_true_eq,decide_eq_false_iff_not,beq_iff_eq,bne_iff_ne,beq_eq_false_iff_ne,bne_eq_false_iff_eq,Bool.not_eq_true',Bool.not_eq_false',Bool.not_eq_true,ne_eq,Decidable.not_not] at g16
  refine OL.off rfl rfl (OL.off rfl rfl (OL.off rfl rfl (OL.ak rfl (.pure rfl) (OL.n1 rfl (PW.k2 0 21 rfl (PW.ite (b:=false) rfl ?_))))));rw[if_neg Bool.false_ne_true];refine PW.skip (hK1 _ _ (PW.k1 0 rfl (PW.seq fun K6 hK6=>PW.s1 rfl (PW.k2 0 3 rfl (PW.block (PW.k2 0 3 rfl ?_))))))
  refine PW.aR (I:=fun m T S'=>∃(k:Nat),(1<=k/\k<=7/\m=7-k/\∀j,j<k->s.data.toList[j]? = some b)/\T=([(0,.string s),(3,.int .i64 k)]:TT)/\S'=S) (m:=6) ⟨1,⟨by omega,by omega,by omega,fun j hj=>(show 0=j by omega)▸hb2⟩,rfl,rfl⟩ ?_
  rintro m _ _ ⟨k,⟨hk1,hk,hm,heq⟩,rfl,rfl⟩;refine PW.seq fun K7 hK7=>PW.s2 rfl rfl (PW.k3 0 3 23 rfl ?_)
  refine PW.cond rfl (fun c23=>?_) (fun c23=>?_)
  ·try simp only[decide_eq_true_eq,decide_eq_false_iff_not,beq_iff_eq,bne_iff_ne,beq_eq_false_iff_ne,bne_eq_false_iff_eq,Bool.not_eq_true',Bool.not_eq_false',Bool.not_eq_true,ne_eq,Decidable.not_not] at c23
   obtain⟨bk,hbk,hbk2,_,_⟩:=ba_get (s:=s) (k:=k) (by omega)
   refine PW.skip (hK7 _ _ (PW.k2 0 3 rfl (PW.seq fun K8 hK8=>PW.block (PW.seq fun K9 hK9=>PW.aQ mixed (QK.p2 rfl rfl (QK.x (Yields.eG rfl rfl hbk) (QK.dp rfl (QK.x (Yields.eG (j:=0) rfl rfl hb) ?_))))))))
   refine QK.nil ?_;change OL _ _ _ [_] _ _ _;refine OL.n1 rfl (hK9 _ _ (PW.k3 0 3 31 rfl ?_));refine PW.cond rfl (fun c31=>?_) (fun c31=>?_)
   ·try simp only[decide_eq_true_eq,decide_eq_false_iff_not,beq_iff_eq,bne_iff_ne,beq_eq_false_iff_ne,bne_eq_false_iff_eq,Bool.not_eq_true',Bool.not_eq_false',Bool.not_eq_true,ne_eq,Decidable.not_not] at c31
    refine PW.s1 rfl (PW.k1 2 rfl ?_);refine PW.ret (zR rfl ?_);have hf:eH s=false:=mark_false fun h=>by
     obtain⟨c,hc,h7,hall⟩:=mark_no h;have e1:=hall 0 b hb2
     have e2:=hall k bk hbk2
     subst e1;subst e2;exact c31 rfl
    exact⟨by rw[hf],rfl⟩
   try simp only[decide_eq_true_eq,decide_eq_false_iff_not,beq_iff_eq,bne_iff_ne,beq_eq_false_iff_ne,bne_eq_false_iff_eq,Bool.not_eq_true',Bool.not_eq_false',Bool.not_eq_true,ne_eq,Decidable.not_not] at c31
   refine PW.skip (hK8 _ _ (PW.k2 0 3 rfl (PW.ops (OL.dp rfl (OL.x (Yields.ao rfl rfl (by omega) (by omega)) (OL.n1 rfl ?_))))))
   refine af.mk (T'':=[(0,_),(3,_)]) (wi rfl) ?_;refine⟨7-(k+1),by omega,k+1,⟨by omega,by omega,rfl,fun j hj=>?_⟩,by simp,rfl⟩
   by_cases hj':j<k
   ·exact heq j hj'
   obtain rfl:j=k:=by omega
   rw[hbk2];congr 1;apply UInt8.toNat_inj.1;omega
  try simp only[decide_eq_true_eq,decide_eq_false_iff_not,beq_iff_eq,bne_iff_ne,beq_eq_false_iff_ne,bne_eq_false_iff_eq,Bool.not_eq_true',Bool.not_eq_false',Bool.not_eq_true,ne_eq,Decidable.not_not] at c23
  refine PW.exit (hK6 _ _ (PW.cD (T':=[]) trivial (PW.s1 rfl (PW.k1 2 rfl ?_))));refine PW.ret (zR rfl ?_);have ht:eH s=true:=mark_of (b:=b) (by simp;omega) hb2 (by omega) fun j hj=>heq j (by omega)
  exact⟨by rw[ht],rfl⟩
 try simp only[decide_eq_true_eq,decide_eq_false_iff_not,beq_iff_eq,bne_iff_ne,beq_eq_false_iff_ne,bne_eq_false_iff_eq,Bool.not_eq_true',Bool.not_eq_false',Bool.not_eq_true,ne_eq,Decidable.not_not] at g11
 refine OL.off rfl rfl (OL.off rfl rfl (OL.off rfl rfl (OL.ak rfl (.pure rfl) (OL.ak rfl (.pure rfl) (OL.off rfl rfl (OL.off rfl rfl (OL.off rfl rfl (OL.ak rfl (.pure rfl) (OL.n1 rfl (PW.k2 0 21 rfl ?_))))))))));refine PW.ite (b:=false) rfl ?_;rw[if_neg Bool.false_ne_true];refine PW.skip (hK1 _ _ (PW.k1 0 rfl (PW.seq fun K10 hK10=>PW.s1 rfl (PW.k2 0 3 rfl (PW.block (PW.k2 0 3 rfl ?_))))))
 refine PW.aR (I:=fun m T S'=>∃(k:Nat),(1<=k/\k<=7/\m=7-k/\∀j,j<k->s.data.toList[j]? = some b)/\T=([(0,.string s),(3,.int .i64 k)]:TT)/\S'=S) (m:=6) ⟨1,⟨by omega,by omega,by omega,fun j hj=>(show 0=j by omega)▸hb2⟩,rfl,rfl⟩ ?_
 rintro m _ _ ⟨k,⟨hk1,hk,hm,heq⟩,rfl,rfl⟩;refine PW.seq fun K11 hK11=>PW.s2 rfl rfl (PW.k3 0 3 23 rfl ?_)
 refine PW.cond rfl (fun c23=>?_) (fun c23=>?_)
 ·try simp only[decide_eq_true_eq,decide_eq_false_iff_not,beq_iff_eq,bne_iff_ne,beq_eq_false_iff_ne,bne_eq_false_iff_eq,Bool.not_eq_true',Bool.not_eq_false',Bool.not_eq_true,ne_eq,Decidable.not_not] at c23
  obtain⟨bk,hbk,hbk2,_,_⟩:=ba_get (s:=s) (k:=k) (by omega)
  refine PW.skip (hK11 _ _ (PW.k2 0 3 rfl (PW.seq fun K12 hK12=>PW.block (PW.seq fun K13 hK13=>PW.aQ mixed (QK.p2 rfl rfl (QK.x (Yields.eG rfl rfl hbk) (QK.dp rfl (QK.x (Yields.eG (j:=0) rfl rfl hb) ?_))))))))
  refine QK.nil ?_;change OL _ _ _ [_] _ _ _;refine OL.n1 rfl (hK13 _ _ (PW.k3 0 3 31 rfl ?_));refine PW.cond rfl (fun c31=>?_) (fun c31=>?_)
  ·try simp only[decide_eq_true_eq,decide_eq_false_iff_not,beq_iff_eq,bne_iff_ne,beq_eq_false_iff_ne,bne_eq_false_iff_eq,Bool.not_eq_true',Bool.not_eq_false',Bool.not_eq_true,ne_eq,Decidable.not_not] at c31
   refine PW.s1 rfl (PW.k1 2 rfl ?_);refine PW.ret (zR rfl ?_);have hf:eH s=false:=mark_false fun h=>by
    obtain⟨c,hc,h7,hall⟩:=mark_no h;have e1:=hall 0 b hb2
    have e2:=hall k bk hbk2
    subst e1;subst e2;exact c31 rfl
   exact⟨by rw[hf],rfl⟩
  try simp only[decide_eq_true_eq,decide_eq_false_iff_not,beq_iff_eq,bne_iff_ne,beq_eq_false_iff_ne,bne_eq_false_iff_eq,Bool.not_eq_true',Bool.not_eq_false',Bool.not_eq_true,ne_eq,Decidable.not_not] at c31
  refine PW.skip (hK12 _ _ (PW.k2 0 3 rfl (PW.ops (OL.dp rfl (OL.x (Yields.ao rfl rfl (by omega) (by omega)) (OL.n1 rfl ?_))))))
  refine af.mk (T'':=[(0,_),(3,_)]) (wi rfl) ?_;refine⟨7-(k+1),by omega,k+1,⟨by omega,by omega,rfl,fun j hj=>?_⟩,by simp,rfl⟩
  by_cases hj':j<k
  ·exact heq j hj'
  obtain rfl:j=k:=by omega
  rw[hbk2];congr 1;apply UInt8.toNat_inj.1;omega
 try simp only[decide_eq_true_eq,decide_eq_false_iff_not,beq_iff_eq,bne_iff_ne,beq_eq_false_iff_ne,bne_eq_false_iff_eq,Bool.not_eq_true',Bool.not_eq_false',Bool.not_eq_true,ne_eq,Decidable.not_not] at c23
 refine PW.exit (hK10 _ _ (PW.cD (T':=[]) trivial (PW.s1 rfl (PW.k1 2 rfl ?_))));refine PW.ret (zR rfl ?_);have ht:eH s=true:=mark_of (b:=b) (by simp;omega) hb2 (by omega) fun j hj=>heq j (by omega)
 exact⟨by rw[ht],rfl⟩
def isP (s:ByteArray):Bool:=plainP s && !(eH s)
theorem strs_at {w0:World}{S:SS}{a:Addr}{ls:List ByteArray}(h:Rd w0 S (some a) (strs ls)) {k:Nat}(hk:k<ls.length):Cell w0 S (a.add k) (.string ls[k]):=h.at (by simp[strs,hk])
theorem strs_ne {ls:List ByteArray}(h:0<ls.length):strs ls≠[]:=by intro e;have:=congrArg List.length e;rw[strs_len,List.length_nil] at this;omega
theorem is_fc {w0:World}{S:SS}{s:ByteArray}(hs:s.size<=1000000000000000):FC prog w0 20 [.string s] S (fun v S'=>v=.bool (isP s)/\S'=S):=by
 refine FC.of known20 (by simp) ?_
 unfold pc20;simp only[bo];refine PW.s1 rfl (PW.k1 0 rfl (PW.ae (OL.dp rfl (OL.q rfl (plain_fc hs) ?_))));refine OL.bool trivial (Yields.pure rfl) (fun g5=>?_) (fun g5=>?_)
 ·try simp only[decide_eq_true_eq,decide_eq_false_iff_not,beq_iff_eq,bne_iff_ne,beq_eq_false_iff_ne,bne_eq_false_iff_eq,Bool.not_eq_true',Bool.not_eq_false',Bool.not_eq_true,ne_eq,Decidable.not_not] at g5
  refine OL.ak rfl (.pure rfl) (OL.call rfl rfl (mark_fc) ?_);rintro _ Sx ⟨rfl,hSx⟩;rw[hSx];clear hSx;exact OL.ak rfl (.pure rfl) (OL.n2 rfl rfl (PW.k1 2 rfl (PW.ret (zR rfl ⟨by unfold isP;rw[g5];rfl,rfl⟩))))
 try simp only[decide_eq_true_eq,decide_eq_false_iff_not,beq_iff_eq,bne_iff_ne,beq_eq_false_iff_ne,bne_eq_false_iff_eq,Bool.not_eq_true',Bool.not_eq_false',Bool.not_eq_true,ne_eq,Decidable.not_not] at g5
 exact OL.off rfl rfl (OL.off rfl rfl (OL.off rfl rfl (OL.n2 rfl rfl (PW.k1 2 rfl (PW.ret (zR rfl ⟨by unfold isP;rw[g5];rfl,rfl⟩))))))
theorem ris_fc {w0:World}{S:SS}{s:ByteArray}(hs:s.size<=1000000000000000):FC prog w0 33 [.string s] S (fun v S'=>v=.bool (isP s)/\S'=S):=by
 refine FC.of known33 (by simp) ?_
 unfold pc33;simp only[bo];refine PW.s1 rfl (PW.k1 0 rfl (PW.ae (OL.dp rfl (OL.q rfl (rplain_fc hs) ?_))));refine OL.bool trivial (Yields.pure rfl) (fun g5=>?_) (fun g5=>?_)
 ·try simp only[decide_eq_true_eq,decide_eq_false_iff_not,beq_iff_eq,bne_iff_ne,beq_eq_false_iff_ne,bne_eq_false_iff_eq,Bool.not_eq_true',Bool.not_eq_false',Bool.not_eq_true,ne_eq,Decidable.not_not] at g5
  refine OL.ak rfl (.pure rfl) (OL.call rfl rfl (rmark_fc hs) ?_);rintro _ Sx ⟨rfl,hSx⟩;rw[hSx];clear hSx;exact OL.ak rfl (.pure rfl) (OL.n2 rfl rfl (PW.k1 2 rfl (PW.ret (zR rfl ⟨by unfold isP;rw[g5];rfl,rfl⟩))))
 try simp only[decide_eq_true_eq,decide_eq_false_iff_not,beq_iff_eq,bne_iff_ne,beq_eq_false_iff_ne,bne_eq_false_iff_eq,Bool.not_eq_true',Bool.not_eq_false',Bool.not_eq_true,ne_eq,Decidable.not_not] at g5
 exact OL.off rfl rfl (OL.off rfl rfl (OL.off rfl rfl (OL.n2 rfl rfl (PW.k1 2 rfl (PW.ret (zR rfl ⟨by unfold isP;rw[g5];rfl,rfl⟩))))))
def idxQ (q:ByteArray->Bool) (ls:List ByteArray) (z:Int):Prop:=(0<=z↔ls.any q=true)
theorem any_take {q:ByteArray->Bool}{ls:List ByteArray}{k:Nat}(h:k<ls.length):(ls.take (k+1)).any q=((ls.take k).any q || q ls[k]):=by
 rw[List.take_add_one,List.getElem?_eq_getElem h,List.any_append];simp only[Option.toList,List.any_cons,List.any_nil,Bool.or_false]
theorem indexF_fc {w0:World}{S:SS}{A:Option Addr}{cap g:Nat}{ls:List ByteArray}{q:ByteArray->Bool}(hx:Rd w0 S A (strs ls)) (hb:ls.length<=1000000000) (hok:fnOk prog g=true) (hq:∀s∈ls,FC prog w0 g [.string s] S (fun v S'=>v=.bool (q s)/\S'=S)) :
  FC prog w0 97 [.slice A ls.length cap,.func (.func g) #[] #[]] S (fun v S'=>∃z,v=.int .i64 z/\idxQ q ls z/\S'=S):=by
 refine FC.of known97 (by simp) ?_
 unfold pc97;simp only[bo];refine PW.s1 rfl (PW.k2 0 1 rfl (PW.seq fun K1 hK1=>PW.s3 rfl rfl rfl (PW.k4 0 1 7 8 rfl (PW.block ?_))))
 refine PW.k4 0 1 7 8 rfl ?_;refine PW.aR (I:=fun m T S'=>∃(k:Nat),(k<=ls.length/\m=ls.length-k/\(ls.take k).any q=false)/\T=([(0,.slice A ls.length cap),(1,.func (.func g) #[] #[]),(7,.int .i64 (ls.length:Int)),(8,.int .i64 k)]:TT)/\S'=S) (m:=ls.length) ⟨0,⟨by omega,by omega,rfl⟩,rfl,rfl⟩ ?_
 rintro m _ _ ⟨k,⟨hk,hm,hall⟩,rfl,rfl⟩;refine PW.s1 rfl (PW.k5 0 1 7 8 9 rfl (PW.seq fun K2 hK2=>?_))
 refine PW.cond rfl (fun c9=>?_) (fun c9=>?_)
 ·try simp only[decide_eq_true_eq,decide_eq_false_iff_not,beq_iff_eq,bne_iff_ne,beq_eq_false_iff_ne,bne_eq_false_iff_eq,Bool.not_eq_true',Bool.not_eq_false',Bool.not_eq_true,ne_eq,Decidable.not_not] at c9
  have hkl:k<ls.length:=by omega
  obtain⟨b0,rfl⟩:=hx.some (strs_ne (by omega))
  refine PW.skip (hK2 _ _ (PW.k4 0 1 7 8 rfl (PW.seq fun K3 hK3=>PW.block (PW.s2 rfl rfl (PW.k5 0 1 5 7 8 rfl (PW.ae (OL.dp rfl ?_)))))))
  refine OL.p2 rfl rfl (OL.x (Yields.dY rfl rfl rfl (by omega)) (OL.x (Yields.ld rfl (strs_at hx hkl)) (OL.c (OW.callv (fi:=[]) (ca:=[]) rfl hok rfl (hq _ (List.getElem_mem hkl))) ?_)))
  rintro _ Sx ⟨rfl,hSx⟩;rw[hSx];clear hSx;refine OL.nil (PW.k6 0 1 5 7 8 16 rfl ?_);refine PW.cond rfl (fun c16=>?_) (fun c16=>?_)
  ·try simp only[decide_eq_true_eq,decide_eq_false_iff_not,beq_iff_eq,bne_iff_ne,beq_eq_false_iff_ne,bne_eq_false_iff_eq,Bool.not_eq_true',Bool.not_eq_false',Bool.not_eq_true,ne_eq,Decidable.not_not] at c16
   exact PW.s2 rfl rfl (PW.k1 4 rfl (PW.ret (zR rfl ⟨_,rfl,⟨fun _=>List.any_eq_true.2 ⟨_,List.getElem_mem hkl,c16⟩,fun _=>by omega⟩,rfl⟩)))
  try simp only[decide_eq_true_eq,decide_eq_false_iff_not,beq_iff_eq,bne_iff_ne,beq_eq_false_iff_ne,bne_eq_false_iff_eq,Bool.not_eq_true',Bool.not_eq_false',Bool.not_eq_true,ne_eq,Decidable.not_not] at c16
  refine PW.skip (hK3 _ _ (PW.k4 0 1 7 8 rfl (PW.ops (OL.x (Yields.ao rfl rfl (by omega) (by omega)) (OL.n1 rfl ?_)))))
  refine af.mk (T'':=[(0,_),(1,_),(7,_),(8,_)]) (wi rfl) ?_;refine⟨ls.length-(k+1),by omega,k+1,⟨by omega,rfl,?_⟩,by simp,rfl⟩
  rw[any_take hkl,hall,c16];rfl
 try simp only[decide_eq_true_eq,decide_eq_false_iff_not,beq_iff_eq,bne_iff_ne,beq_eq_false_iff_ne,bne_eq_false_iff_eq,Bool.not_eq_true',Bool.not_eq_false',Bool.not_eq_true,ne_eq,Decidable.not_not] at c9
 refine PW.exit (hK1 _ _ (PW.cD (T':=[]) trivial (PW.s1 rfl (PW.k1 4 rfl ?_))));refine PW.ret (zR rfl ?_);obtain rfl:k=ls.length:=by omega
 rw[List.take_length] at hall;exact⟨_,rfl,⟨fun h=>absurd h (by omega),fun h=>by rw[hall] at h;cases h⟩,rfl⟩
theorem contains_fc {w0:World}{S:SS}{A:Option Addr}{cap g:Nat}{ls:List ByteArray}{q:ByteArray->Bool}(hx:Rd w0 S A (strs ls)) (hb:ls.length<=1000000000) (hok:fnOk prog g=true) (hq:∀s∈ls,FC prog w0 g [.string s] S (fun v S'=>v=.bool (q s)/\S'=S)) :
  FC prog w0 65 [.slice A ls.length cap,.func (.func g) #[] #[]] S (fun v S'=>v=.bool (ls.any q)/\S'=S):=by
 refine FC.of known65 (by simp) ?_
 unfold pc65;simp only[bo];refine PW.s1 rfl (PW.k2 0 1 rfl (PW.ae (OL.p2 rfl rfl (OL.l rfl (indexF_fc hx hb hok hq) ?_))));rintro _ Sx ⟨z,rfl,hz,hSx⟩;rw[hSx];clear hSx;exact OL.n2 rfl rfl (PW.k1 4 rfl (PW.ret (zR rfl ⟨congrArg Value.bool (by rw[Bool.eq_iff_iff,<- (show 0<=z↔ls.any q=true from hz)];simp),rfl⟩)))
end Go.Proofs.Ln

namespace Go.Proofs.My
open Go.SL Go.RowKit
theorem dD {w0:World}{S:SS}{a:Addr}{xs:List ByteArray}(h:Rd w0 S (some a) (xs.map .string)) {k:Nat}(hk:k<xs.length):Cell w0 S (a.add k) (.string xs[k]):=h.at (by simp[hk])
theorem bytes_ext {a b:ByteArray}(h:a.toList=b.toList):a=b:=by
 rw[<- Go.MapKept.bytes_beq,beq_toListBytes];simp[h]
theorem strs_ne {xs:List ByteArray}(h:0<xs.length):xs.map Value.string≠[]:=by intro e;simp at e;subst e;simp at h
set_option maxHeartbeats 1000000
end Go.Proofs.My

namespace Go.Proofs.My
open Go.SL Go.RowKit
set_option maxHeartbeats 1000000
def stC (t:Int×Int×Int):List Value:=[.int .i64 t.1,.int .i64 t.2.1,.int .i64 t.2.2]
def stsC (l:List (Int×Int×Int)):List Value:=l.flatMap stC
theorem stsC_length (l:List (Int×Int×Int)):(stsC l).length=l.length*3:=by
 induction l with
 |nil=>rfl
 |cons x l ih=>simp only[stsC,List.flatMap_cons,List.length_append] at ih ⊢;rw[ih];simp[stC];omega
theorem dv (l r:List (Int×Int×Int)):stsC (l++r)=stsC l++stsC r:=by simp[stsC]
theorem stsC_get {l:List (Int×Int×Int)}{k:Nat}(h:k<l.length) (j:Nat) (hj:j<3):(stsC l)[k*3+j]? = (stC l[k])[j]?:=by
 induction l generalizing k with
 |nil=>simp at h
 |cons x l ih=>
  cases k with
  |zero=>
   simp only[stsC,List.flatMap_cons,Nat.zero_mul,Nat.zero_add,List.getElem_cons_zero];rw[List.getElem?_append_left (by simp[stC];omega)]
  |succ k=>
   simp only[stsC,List.flatMap_cons];rw[List.getElem?_append_right (by simp[stC];omega)]
   have:=ih (k:=k) (by simpa using h)
   simp only[stsC] at this;rw[show(k+1)*3+j-(stC x).length=k*3+j by simp[stC];omega,this]
   simp
theorem st_at {w0:World}{S:SS}{a:Addr}{l:List (Int×Int×Int)}(h:Rd w0 S (some a) (stsC l)) {k:Nat}(hk:k<l.length) (j:Nat) (hj:j<3) {v:Value}(hv:(stC l[k])[j]? = some v):Cell w0 S ((a.add (k*3)).add j) v:=by
 rw[aZ];exact h.at (by rw[stsC_get hk j hj,hv])
theorem stsC_ne {l:List (Int×Int×Int)}(h:0<l.length):stsC l≠[]:=by
 intro e;have:=congrArg List.length e;rw[stsC_length] at this;simp only[List.length_nil] at this;omega
end Go.Proofs.My

namespace Go.MyPlain
section
variable {α:Type}[DecidableEq α]
def nextRow (x:α):List α->List Nat->List Nat
 |y::ys,p::ps=>let r:=nextRow x ys ps;(if x=y then ps.headD 0+1 else max p (r.headD 0))::r
 |_,_=>[0]
def row:List α->List α->List Nat
 |[],ys=>ys.map (fun _=>0)++[0]
 |x::xs,ys=>nextRow x ys (row xs ys)
def lcs (xs ys:List α):Nat:=(row xs ys).headD 0
theorem row_cons (xs:List α) (y:α) (ys:List α):row xs (y::ys)=lcs xs (y::ys)::row xs ys:=by
 induction xs with
 |nil=>simp[row,lcs]
 |cons x xs ih=>
  have h:row (x::xs) (y::ys)=nextRow x (y::ys) (row xs (y::ys)):=rfl
  rw[h];rw[ih];simp only[nextRow,lcs];rw[h,ih];simp only[nextRow,lcs,List.headD_cons];simp[row]
theorem row_nil (xs:List α):row xs [] = [0]:=by
 induction xs with
 |nil=>rfl
 |cons x xs ih=>simp[row,nextRow]
theorem fL (ys:List α):lcs [] ys=0:=by cases ys<;>simp[lcs,row]
theorem lcs_nil_right (xs:List α):lcs xs [] = 0:=by simp[lcs,row_nil]
theorem lcs_cons (x:α) (xs:List α) (y:α) (ys:List α):lcs (x::xs) (y::ys)=if x=y then lcs xs ys+1 else max (lcs xs (y::ys)) (lcs (x::xs) ys):=by
 have h:row (x::xs) (y::ys)=nextRow x (y::ys) (row xs (y::ys)):=rfl
 unfold lcs;rw[h,row_cons xs y ys];simp only[nextRow,List.headD_cons];rfl
theorem lcs_mono (xs ys:List α):(∀x,lcs xs ys<=lcs (x::xs) ys/\lcs (x::xs) ys<=lcs xs ys+1)/\(∀y,lcs xs ys<=lcs xs (y::ys)/\lcs xs (y::ys)<=lcs xs ys+1):=by
 have main:∀n (xs ys:List α),xs.length+ys.length=n->(∀x,lcs xs ys<=lcs (x::xs) ys/\lcs (x::xs) ys<=lcs xs ys+1)/\(∀y,lcs xs ys<=lcs xs (y::ys)/\lcs xs (y::ys)<=lcs xs ys+1):=by
  intro n
  induction n using Nat.strongRecOn with
  |_ n ih=>
   intro xs ys hn;constructor
   ·intro x;cases ys with
    |nil=>simp[lcs_nil_right]
    |cons y ys=>
     rw[lcs_cons];have h1:=(ih (xs.length+ys.length) (by simp at hn;omega) xs ys rfl).2 y
     have h2:=(ih (xs.length+ys.length) (by simp at hn;omega) xs ys rfl).1 x
     split<;>omega
   intro y;cases xs with
   |nil=>simp[fL]
   |cons x xs=>
    rw[lcs_cons];have h1:=(ih (xs.length+ys.length) (by simp at hn;omega) xs ys rfl).1 x
    have h2:=(ih (xs.length+ys.length) (by simp at hn;omega) xs ys rfl).2 y
    split<;>omega
 exact main _ xs ys rfl
theorem lcs_ref (x:α) (xs:List α) (y:α) (ys:List α):lcs (x::xs) (y::ys) =
  (let m:=if lcs (x::xs) ys > lcs xs (y::ys) then lcs (x::xs) ys else lcs xs (y::ys);if x=y/\lcs xs ys+1 > m then lcs xs ys+1 else m):=by
 have h1:=(lcs_mono xs ys).1 x
 have h2:=(lcs_mono xs ys).2 y
 rw[lcs_cons];by_cases e:x=y
 ·simp only[e,true_and,if_true];subst e;split<;>split<;>omega
 simp only[e,false_and,if_false];split<;>omega
theorem lcs_le (xs ys:List α):lcs xs ys<=xs.length:=by
 induction xs with
 |nil=>simp[fL]
 |cons x xs ih=>have:=((lcs_mono xs ys).1 x).2;simp;omega
def dt:Nat->Nat->Nat->List α->List α->List (Int×Int×Int)
 |0,_,_,_,_=>[]
 |f+1,i,j,x::xs,y::ys=>
  if x=y then(0,i,j)::dt f (i+1) (j+1) xs ys
  else if lcs (x::xs) ys<=lcs xs (y::ys) then(1,i,0)::dt f (i+1) j xs (y::ys)
  else(2,0,j)::dt f i (j+1) (x::xs) ys
 |f+1,i,j,_::xs,[]=>(1,i,0)::dt f (i+1) j xs []
 |f+1,i,j,[],_::ys=>(2,0,j)::dt f i (j+1) [] ys
 |_+1,_,_,[],[]=>[]
def scr (xs ys:List α):List (Int×Int×Int):=dt (xs.length+ys.length) 0 0 xs ys
theorem scrF_length (f i j:Nat) (xs ys:List α):(dt f i j xs ys).length<=f:=by
 induction f generalizing i j xs ys with
 |zero=>simp[dt]
 |succ f ih=>
  cases xs with
  |nil=>cases ys with
   |nil=>simp[dt]
   |cons y ys=>simp[dt];exact ih ..
  |cons x xs=>cases ys with
   |nil=>simp[dt];exact ih ..
   |cons y ys=>
    simp only[dt];split
    ·simp;exact ih ..
    split<;>(simp;exact ih ..)
theorem scr_length (xs ys:List α):(scr xs ys).length<=xs.length+ys.length:=scrF_length ..
theorem scrF_fuel (f g i j:Nat) (xs ys:List α) (hf:xs.length+ys.length<=f) (hg:xs.length+ys.length<=g):dt f i j xs ys=dt g i j xs ys:=by
 induction f generalizing g i j xs ys with
 |zero=>
  have h1:xs=[]:=List.eq_nil_of_length_eq_zero (by omega)
  have h2:ys=[]:=List.eq_nil_of_length_eq_zero (by omega)
  subst h1;subst h2;cases g<;>simp[dt]
 |succ f ih=>
  cases g with
  |zero=>
   have h1:xs=[]:=List.eq_nil_of_length_eq_zero (by omega)
   have h2:ys=[]:=List.eq_nil_of_length_eq_zero (by omega)
   subst h1;subst h2;simp[dt]
  |succ g=>
   cases xs with
   |nil=>cases ys with
    |nil=>simp[dt]
    |cons y ys=>simp only[dt];rw[ih];all_goals simp at *;omega
   |cons x xs=>cases ys with
    |nil=>simp only[dt];rw[ih];all_goals simp at *;omega
    |cons y ys=>
     simp only[dt];rw[ih g (i+1) (j+1) xs ys (by simp at hf;omega) (by simp at hg;omega),ih g (i+1) j xs (y::ys) (by simp at hf ⊢;omega) (by simp at hg ⊢;omega),ih g i (j+1) (x::xs) ys (by simp at hf ⊢;omega) (by simp at hg ⊢;omega)]
end
section
variable {α β:Type}[DecidableEq α] [DecidableEq β]
theorem lcs_map (g:α->β):∀(xs ys:List α),(∀x∈xs,∀y∈ys,g x=g y->x=y)->lcs (xs.map g) (ys.map g)=lcs xs ys:=by
 have main:∀n (xs ys:List α),xs.length+ys.length=n->(∀x∈xs,∀y∈ys,g x=g y->x=y)->lcs (xs.map g) (ys.map g)=lcs xs ys:=by
  intro n
  induction n using Nat.strongRecOn with
  |_ n ih=>
   intro xs ys hn h;cases xs with
   |nil=>simp[fL]
   |cons x xs=>
    cases ys with
    |nil=>simp[lcs_nil_right]
    |cons y ys=>
     simp only[List.map_cons];rw[lcs_cons,lcs_cons];have e:(g x=g y)=(x=y):=propext ⟨fun e=>h x (by simp) y (by simp) e,fun e=>by rw[e]⟩
     simp only[e];rw[ih (xs.length+ys.length) (by simp at hn;omega) xs ys rfl (fun a ha b hb=>h a (by simp[ha]) b (by simp[hb]))]
     have h1:=ih (xs.length+(y::ys).length) (by simp at hn ⊢;omega) xs (y::ys) rfl (fun a ha b hb=>h a (by simp[ha]) b hb)
     have h2:=ih ((x::xs).length+ys.length) (by simp at hn ⊢;omega) (x::xs) ys rfl (fun a ha b hb=>h a ha b (by simp[hb]))
     simp only[List.map_cons] at h1 h2;rw[h1,h2]
 exact fun xs ys h=>main _ xs ys rfl h
theorem scrF_map (g:α->β) (f i j:Nat) (xs ys:List α) (h:∀x∈xs,∀y∈ys,g x=g y->x=y):dt f i j (xs.map g) (ys.map g)=dt f i j xs ys:=by
 induction f generalizing i j xs ys with
 |zero=>simp[dt]
 |succ f ih=>
  cases xs with
  |nil=>cases ys with
   |nil=>simp[dt]
   |cons y ys=>
    simp only[List.map_cons,List.map_nil,dt];have:=ih i (j+1) [] ys (by simp)
    simp only[List.map_nil] at this;rw[this]
  |cons x xs=>cases ys with
   |nil=>
    simp only[List.map_cons,List.map_nil,dt];have:=ih (i+1) j xs [] (by simp)
    simp only[List.map_nil] at this;rw[this]
   |cons y ys=>
    simp only[List.map_cons,dt];have e:(g x=g y)=(x=y):=propext ⟨fun e=>h x (by simp) y (by simp) e,fun e=>by rw[e]⟩
    have h0:=ih (i+1) (j+1) xs ys (fun a ha b hb=>h a (by simp[ha]) b (by simp[hb]))
    have h1:=ih (i+1) j xs (y::ys) (fun a ha b hb=>h a (by simp[ha]) b hb)
    have h2:=ih i (j+1) (x::xs) ys (fun a ha b hb=>h a ha b (by simp[hb]))
    have l1:=lcs_map g xs (y::ys) (fun a ha b hb=>h a (by simp[ha]) b hb)
    have l2:=lcs_map g (x::xs) ys (fun a ha b hb=>h a ha b (by simp[hb]))
    simp only[List.map_cons] at h1 h2 l1 l2;simp only[e,h0,h1,h2,l1,l2]
theorem scr_map (g:α->β) (xs ys:List α) (h:∀x∈xs,∀y∈ys,g x=g y->x=y):scr (xs.map g) (ys.map g)=scr xs ys:=by
 unfold scr;rw[List.length_map,List.length_map];exact scrF_map g _ 0 0 xs ys h
end
section
variable {α:Type}[DecidableEq α]
def idx:List α->α->Option Nat
 |[],_=>none
 |k::ks,s=>if s=k then some 0 else(idx ks s).map (·+1)
def eN:List α->List α->List α×List Nat
 |ks,[]=>(ks,[])
 |ks,s::r=>match idx ks s with
  |some i=>let q:=eN ks r;(q.1,i::q.2)
  |none=>let q:=eN (ks++[s]) r;(q.1,ks.length::q.2)
theorem idx_append {ks r:List α}{s:α}{i:Nat}(h:idx ks s=some i):idx (ks++r) s=some i:=by
 induction ks generalizing i with
 |nil=>simp[idx] at h
 |cons k ks ih=>
  simp only[idx,List.cons_append] at h ⊢;split
  ·rename_i e;rw[if_pos e] at h;exact h
  rename_i e;rw[if_neg e] at h;cases hi:idx ks s with
  |none=>rw[hi] at h;simp at h
  |some j=>rw[hi] at h;rw[ih hi];exact h
theorem idx_new {ks:List α}{s:α}(h:idx ks s=none):idx (ks++[s]) s=some ks.length:=by
 induction ks with
 |nil=>simp[idx]
 |cons k ks ih=>
  simp only[idx,List.cons_append] at h ⊢;split
  ·rename_i e;rw[if_pos e] at h;simp at h
  rename_i e;rw[if_neg e] at h;rw[ih (by simpa using h)]
  simp
theorem idx_inj {ks:List α}{s t:α}{i:Nat}(h:idx ks s=some i) (k:idx ks t=some i):s=t:=by
 induction ks generalizing i with
 |nil=>simp[idx] at h
 |cons a ks ih=>
  simp only[idx] at h k;split at h
  ·rename_i e;split at k
   ·rename_i e';rw[e,e']
   cases hi:idx ks t with
   |none=>rw[hi] at k;simp at k
   |some j=>rw[hi] at k;simp at h k;omega
  split at k
  ·cases hi:idx ks s with
   |none=>rw[hi] at h;simp at h
   |some j=>rw[hi] at h;simp at h k;omega
  cases hi:idx ks s with
  |none=>rw[hi] at h;simp at h
  |some j=>
   cases hj:idx ks t with
   |none=>rw[hj] at k;simp at k
   |some j'=>
    rw[hi] at h;rw[hj] at k;simp at h k;exact ih hi (by rw[hj];congr 1;omega)
theorem numF_spec (ks xs:List α):(∃r,(eN ks xs).1=ks++r)/\(∀s∈xs,∃i,idx (eN ks xs).1 s=some i)/\(eN ks xs).2=xs.map fun s=>(idx (eN ks xs).1 s).getD 0:=by
 induction xs generalizing ks with
 |nil=>exact⟨⟨[],by simp[eN]⟩,by simp,rfl⟩
 |cons s r ih=>
  simp only[eN];cases h:idx ks s with
  |some i=>
   obtain⟨⟨q,hq⟩,h2,h3⟩:=ih ks;simp only;have hs:idx (eN ks r).1 s=some i:=by rw[hq];exact idx_append h
   refine⟨⟨q,hq⟩,fun t ht=>?_,?_⟩
   ·rcases List.mem_cons.1 ht with rfl|ht
    ·exact⟨i,hs⟩
    exact h2 t ht
   rw[List.map_cons,hs,<- h3];rfl
  |none=>
   obtain⟨⟨q,hq⟩,h2,h3⟩:=ih (ks++[s]);simp only;have hs:idx (eN (ks++[s]) r).1 s=some ks.length:=by rw[hq];exact idx_append (idx_new h)
   refine⟨⟨s::q,by rw[hq];simp⟩,fun t ht=>?_,?_⟩
   ·rcases List.mem_cons.1 ht with rfl|ht
    ·exact⟨_,hs⟩
    exact h2 t ht
   rw[List.map_cons,hs,<- h3];rfl
theorem numF_length (ks xs:List α):(eN ks xs).2.length=xs.length:=by rw[(numF_spec ks xs).2.2];simp
theorem numF_keys (ks xs:List α):(eN ks xs).1.length<=ks.length+xs.length:=by
 induction xs generalizing ks with
 |nil=>simp[eN]
 |cons s r ih=>
  simp only[eN];cases h:idx ks s with
  |some i=>simp only;have:=ih ks;simp;omega
  |none=>simp only;have:=ih (ks++[s]);simp at this ⊢;omega
theorem scr_nums (xs ys:List α):scr (eN [] xs).2 (eN (eN [] xs).1 ys).2=scr xs ys:=by
 obtain⟨⟨r,hr⟩,h2,h3⟩:=numF_spec [] xs;obtain⟨⟨q,hq⟩,k2,k3⟩:=numF_spec (eN [] xs).1 ys;have e:(eN [] xs).2=xs.map fun s=>(idx (eN (eN [] xs).1 ys).1 s).getD 0:=by
  conv=>lhs;rw[h3]
  refine List.map_congr_left fun s hs=>?_
  obtain⟨i,hi⟩:=h2 s hs;rw[hi,hq,idx_append hi]
 rw[k3,e];refine scr_map _ xs ys fun x hx y hy hxy=>?_
 obtain⟨i,hi⟩:=h2 x hx;obtain⟨j,hj⟩:=k2 y hy;have hi':idx (eN (eN [] xs).1 ys).1 x=some i:=by rw[hq];exact idx_append hi
 rw[hi',hj] at hxy;simp at hxy;subst hxy;exact idx_inj hi' hj
def numS (st:List α×List Nat) (s:α):List α×List Nat:=
 match idx st.1 s with
 |some i=>(st.1,st.2++[i])
 |none=>(st.1++[s],st.2++[st.1.length])
theorem numS_foldl (xs:List α):∀(ks:List α) (l:List Nat),xs.foldl numS (ks,l)=((eN ks xs).1,l++(eN ks xs).2):=by
 induction xs with
 |nil=>intro ks l;simp[eN]
 |cons s r ih=>
  intro ks l;simp only[List.foldl_cons,eN,numS];cases h:idx ks s with
  |some i=>simp only;rw[ih];simp
  |none=>simp only;rw[ih];simp
end
end Go.MyPlain

namespace Go.Proofs.My
open Go.SL Go.RowKit Go.Proofs.Tryz
open Go.MyPlain
set_option maxHeartbeats 1000000
def intC (l:List Nat):List Value:=l.map fun(i:Nat)=>Value.int .i64 (i:Int)
def ent (ks:List ByteArray) (i:Nat):List (ByteArray×Value):=match ks with|[]=>[]|k::r=>(k,.int .i64 (i:Int))::ent r (i+1)
theorem ent_length (ks:List ByteArray) (i:Nat):(ent ks i).length=ks.length:=by induction ks generalizing i with|nil=>rfl|cons k r ih=>simp[ent,ih]
theorem beq_bytes (a b:ByteArray):(a == b)=decide (a=b):=by
 by_cases h:a=b
 ·simp[h,(Go.MapKept.bytes_beq b b).2 rfl]
 have:¬(a == b)=true:=fun e=>h ((Go.MapKept.bytes_beq a b).1 e)
 simp[h,this]
theorem mget_ent (ks:List ByteArray) (s:ByteArray) (i:Nat):mget (ent ks i) s=(idx ks s).map fun j=>.int .i64 ((i+j:Nat):Int):=by
 induction ks generalizing i with
 |nil=>simp[ent,mget,idx]
 |cons k r ih=>
  by_cases h:s=k
  ·simp[ent,mget,idx,List.find?_cons,beq_bytes,h]
  have:=ih (i+1)
  simp only[mget,beq_bytes] at this;simp only[ent,mget,idx,List.find?_cons,beq_bytes,h,decide_false,if_false];rw[this];cases idx r s<;>simp<;>omega
theorem mput_ent (ks:List ByteArray) (s:ByteArray) (i:Nat) (h:idx ks s=none):mputAt (ent ks i) s (.int .i64 ((i+ks.length:Nat):Int))=ent (ks++[s]) i:=by
 induction ks generalizing i with
 |nil=>simp[ent,mputAt]
 |cons k r ih=>
  simp only[idx] at h;split at h
  ·simp at h
  rename_i hk;have:=ih (i+1) (by simpa using h)
  simp only[ent,mputAt,beq_bytes,hk,decide_false,List.cons_append,Bool.false_eq_true,if_false];rw[<- this];simp[Nat.add_assoc,Nat.add_comm,Nat.add_left_comm]
theorem numS_len (xs:List ByteArray) (st:List ByteArray×List Nat):(xs.foldl numS st).2.length=st.2.length+xs.length/\(xs.foldl numS st).1.length<=st.1.length+xs.length:=by
 obtain⟨a,b⟩:=st;rw[numS_foldl];have:=numF_keys a xs
 simp[numF_length,this]
theorem numbered_fc {w0:World}{S:SS}{A:Option Addr}{ca mb:Nat}{ks xs:List ByteArray}(hx:Rd w0 S A (xs.map .string)) (hb:xs.length<=100000) (hk:ks.length<=100000) :
  FC prog w0 98 [.map (some mb),.slice A xs.length ca] ([(mb,.map (skey (ent ks 0)))]::S) (fun v S'=>∃seg,S'=seg::[(mb,.map (skey (ent (eN ks xs).1 0)))]::S/\aV 3 1 v xs.length (intC (eN ks xs).2) seg):=by
 refine FC.of known98 (by simp) ?_
 unfold pc98;simp only[bo];refine PW.s1 rfl (PW.k2 0 1 rfl (PW.ae (OL.p2 rfl rfl ?_)));refine OL.c (OW.mkS_cap rfl rfl (by omega) (by unfold maxLen;omega)) ?_
 rintro _ _ ⟨r12,rfl,rfl⟩;refine OL.n1 rfl (PW.k3 0 1 5 rfl (PW.seq fun K1 hK1=>PW.s3 rfl rfl rfl (PW.k5 0 5 13 14 15 rfl (PW.block (PW.k5 0 5 13 14 15 rfl ?_)))))
 refine PW.aR (I:=fun m T S'=>∃(k:Nat) (v:Value) (seg:bD),(k<=xs.length/\m=xs.length-k/\aV 3 1 v k (intC ((xs.take k).foldl numS (ks,[])).2) seg)/\T=([(0,.map (some mb)),(5,v),(13,.slice A xs.length ca),(14,.int .i64 xs.length),(15,.int .i64 k)]:TT)/\S'=seg::[(mb,.map (skey (ent ((xs.take k).foldl numS (ks,[])).1 0)))]::S) (m:=xs.length) ⟨0,_,[(r12,.cells [] 3 (xs.length*1))],⟨by omega,by omega,by simpa[intC] using aV.mk' (E:=3) (sz:=1) (m:=0) (cap:=xs.length) (r:=r12) (xs:=[]) (by simp) (by omega) (by unfold maxLen;omega)⟩,rfl,rfl⟩ ?_
 rintro m _ _ ⟨k,v,seg,⟨hkk,hm,hsl⟩,rfl,rfl⟩;refine PW.s1 rfl (PW.k6 0 5 13 14 15 16 rfl (PW.seq fun K2 hK2=>?_))
 refine PW.cond rfl (fun c16=>?_) (fun c16=>?_)
 ·try simp only[decide_eq_true_eq,decide_eq_false_iff_not,beq_iff_eq,bne_iff_ne,beq_eq_false_iff_ne,bne_eq_false_iff_eq,Bool.not_eq_true',Bool.not_eq_false',Bool.not_eq_true,ne_eq,Decidable.not_not] at c16
  have hlt:k<xs.length:=by omega
  obtain⟨a,rfl⟩:=hx.some (strs_ne (by omega))
  have hx2:Rd w0 (seg::[(mb,.map (skey (ent ((xs.take k).foldl numS (ks,[])).1 0)))]::S) (some a) (xs.map .string):=hx.cons.cons
  have hst:(xs.take (k+1)).foldl numS (ks,[])=numS ((xs.take k).foldl numS (ks,[])) xs[k]:=by
   rw[List.take_add_one,List.getElem?_eq_getElem hlt,List.foldl_append];rfl
  have hlen:=numS_len (xs.take k) (ks,[])
  simp only[List.length_take] at hlen
  generalize hstk:(xs.take k).foldl numS (ks,[])=st at *
  have hget:=mget_ent st.1 xs[k] 0
  have hkl:(skey (ent st.1 0)).length=st.1.length:=by simp[skey,ent_length]
  refine PW.skip (hK2 _ _ (PW.k5 0 5 13 14 15 rfl (PW.seq fun K3 hK3=>PW.block (PW.ae (OL.x (Yields.dY rfl rfl rfl (by omega)) (OL.x (Yields.ld rfl (dD hx2 hlt)) (OL.n1 rfl (PW.k6 0 5 7 13 14 15 rfl (PW.ae ?_)))))))))
  refine OL.p2 rfl rfl (OL.x (Yields.lookS (k:=1) rfl rfl rfl) (OL.p4 rfl rfl rfl rfl (OL.n1 rfl (PW.k8 0 5 7 8 9 13 14 15 rfl (PW.seq fun K4 hK4=>PW.ae ?_)))))
  refine OL.n2 rfl rfl (PW.k8 0 5 7 8 13 14 15 26 rfl ?_);refine PW.cond rfl (fun c26=>?_) (fun c26=>?_)
  ·try simp only[decide_eq_true_eq,decide_eq_false_iff_not,beq_iff_eq,bne_iff_ne,beq_eq_false_iff_ne,bne_eq_false_iff_eq,Bool.not_eq_true',Bool.not_eq_false',Bool.not_eq_true,ne_eq,Decidable.not_not] at c26
   have hidx:idx st.1 xs[k] = none:=by
    cases hh:idx st.1 xs[k] with
    |none=>rfl
    |some i=>rw[hget,hh] at c26;simp at c26
   have hput:=mput_ent st.1 xs[k] 0 hidx
   rw[Nat.zero_add] at hput;refine PW.ae (OL.dp rfl (OL.x (Yields.lenM (k:=1) rfl rfl) (OL.n1 rfl (PW.k7 0 5 7 8 13 14 15 rfl (PW.ops (OL.p3 rfl rfl rfl (OL.c (OW.updS (k:=1) rfl rfl rfl rfl) ?_)))))));rintro _ _ rfl;refine OL.nil (hK4 _ _ (PW.k6 0 5 8 13 14 15 rfl (PW.ops (OL.p2 rfl rfl ?_))));apply OL.bV (k:=0)
   ·rfl
   ·rfl
   ·rfl
   ·rfl
   ·rfl
   ·rfl
   ·exact hsl
   ·rfl
   ·omega
   ·unfold maxLen;omega
   intro v35 seg35 hsl35;refine OL.n1 rfl (hK3 _ _ (PW.k5 0 5 13 14 15 rfl (PW.ops (OL.x (Yields.ao rfl rfl (by omega) (by omega)) (OL.n1 rfl ?_)))))
   refine af.mk (T'':=[(0,_),(5,_),(13,_),(14,_),(15,_)]) (wi rfl) ?_;refine⟨xs.length-(k+1),by omega,k+1,v35,seg35,⟨by omega,rfl,?_⟩,rfl,?_⟩
   ·rw[hst];simp only[numS,hidx];simpa[intC,hkl,Value.cells] using hsl35
   rw[hst];simp only[numS,hidx];first|(simp[hput,hkl];done)|(simp[hkl];done)|rfl
  try simp only[decide_eq_true_eq,decide_eq_false_iff_not,beq_iff_eq,bne_iff_ne,beq_eq_false_iff_ne,bne_eq_false_iff_eq,Bool.not_eq_true',Bool.not_eq_false',Bool.not_eq_true,ne_eq,Decidable.not_not] at c26
  obtain⟨i,hidx⟩:∃i,idx st.1 xs[k] = some i:=by
   cases hh:idx st.1 xs[k] with
   |none=>rw[hget,hh] at c26;simp at c26
   |some i=>exact⟨i,rfl⟩
  have hval:(mget (ent st.1 0) xs[k]).getD (.int .i64 0)=.int .i64 (i:Int):=by rw[hget,hidx];simp
  rw[hval];refine PW.skip (hK4 _ _ (PW.k6 0 5 8 13 14 15 rfl (PW.ops (OL.p2 rfl rfl ?_))));apply OL.bV (k:=0)
  ·rfl
  ·rfl
  ·rfl
  ·rfl
  ·rfl
  ·rfl
  ·exact hsl
  ·rfl
  ·omega
  ·unfold maxLen;omega
  intro v35 seg35 hsl35;refine OL.n1 rfl (hK3 _ _ (PW.k5 0 5 13 14 15 rfl (PW.ops (OL.x (Yields.ao rfl rfl (by omega) (by omega)) (OL.n1 rfl ?_)))))
  refine af.mk (T'':=[(0,_),(5,_),(13,_),(14,_),(15,_)]) (wi rfl) ?_;refine⟨xs.length-(k+1),by omega,k+1,v35,seg35,⟨by omega,rfl,?_⟩,rfl,?_⟩
  ·rw[hst];simp only[numS,hidx];simpa[intC,hkl,Value.cells] using hsl35
  rw[hst];simp only[numS,hidx];first|(simp[hput,hkl];done)|(simp[hkl];done)|rfl
 try simp only[decide_eq_true_eq,decide_eq_false_iff_not,beq_iff_eq,bne_iff_ne,beq_eq_false_iff_ne,bne_eq_false_iff_eq,Bool.not_eq_true',Bool.not_eq_false',Bool.not_eq_true,ne_eq,Decidable.not_not] at c16
 refine PW.exit (hK1 _ _ (PW.k1 5 rfl (PW.s2 rfl rfl (PW.k1 4 rfl ?_))));refine PW.ret (zR rfl ?_);obtain rfl:k=xs.length:=by omega
 have e:=numS_foldl xs ks []
 rw[List.take_length] at hsl;rw[e] at hsl;rw[List.take_length,e];exact⟨seg,rfl,by simpa using hsl⟩
end Go.Proofs.My

namespace Go.Proofs.My
open Go.SL Go.RowKit Go.Proofs.Tryz
open Go.MyPlain
set_option maxHeartbeats 1000000
def eO (X Y:List Nat) (i jj:Nat) (c:List Value):Prop:=c.length=Y.length+1/\∀b,jj<=b->b<=Y.length->c[b]? = some (.int .i64 (lcs (X.drop i) (Y.drop b):Int))
theorem eO.zero (X Y:List Nat) (i:Nat):eO X Y i Y.length (List.replicate (Y.length+1) (.int .i64 0)):=by
 refine⟨by simp,fun b h1 h2=>?_⟩
 obtain rfl:b=Y.length:=by omega
 rw[List.drop_length,lcs_nil_right];simp
theorem eO.last (X Y:List Nat):eO X Y X.length 0 (List.replicate (Y.length+1) (.int .i64 0)):=by
 refine⟨by simp,fun b h1 h2=>?_⟩
 rw[List.drop_length,fL];have:b<Y.length+1:=by omega
 simp[this]
theorem eO.put {X Y:List Nat}{i j:Nat}{c:List Value}(h:eO X Y i (j+1) c) (hj:j<Y.length) (v:Value):eO X Y i (j+1) (setAt c j [v]):=by
 refine⟨by rw[cX];exact h.1,fun b h1 h2=>?_⟩
 rw[setAt_get c j v (by rw[h.1];omega),if_neg (by omega)]
 exact h.2 b h1 h2
theorem eO.done {X Y:List Nat}{i j:Nat}{c:List Value}(h:eO X Y i (j+1) c) (hj:j<Y.length) {v:Int}(hv:v=lcs (X.drop i) (Y.drop j)):eO X Y i j (setAt c j [.int .i64 v]):=by
 refine⟨by rw[cX];exact h.1,fun b h1 h2=>?_⟩
 rw[setAt_get c j _ (by rw[h.1];omega)]
 split
 ·rename_i e;subst e;rw[hv]
 exact h.2 b (by omega) h2
theorem lcs_drop {X Y:List Nat}{i j:Nat}(hi:i<X.length) (hj:j<Y.length):lcs (X.drop i) (Y.drop j)=if X[i] = Y[j] then lcs (X.drop (i+1)) (Y.drop (j+1))+1 else max (lcs (X.drop (i+1)) (Y.drop j)) (lcs (X.drop i) (Y.drop (j+1))):=by
 have e1:X.drop i=X[i]::X.drop (i+1):=List.drop_eq_getElem_cons hi
 have e2:Y.drop j=Y[j]::Y.drop (j+1):=List.drop_eq_getElem_cons hj
 rw[e1,e2,lcs_cons]
theorem eO.two {X Y:List Nat}{i j:Nat}{c:List Value}(h:eO X Y i (j+1) c) (hi:i<X.length) (hj:j<Y.length) (he:(X[i]:Int)=(Y[j]:Int)) (v:Value):eO X Y i j (setAt (setAt c j [v]) j [.int .i64 ((lcs (X.drop (i+1)) (Y.drop (j+1)):Int)+1)]):=
 (h.put hj v).done hj (by rw[lcs_drop hi hj,if_pos (by omega)];omega)
theorem eO.one {X Y:List Nat}{i j:Nat}{c:List Value}(h:eO X Y i (j+1) c) (hi:i<X.length) (hj:j<Y.length) (he:¬(X[i]:Int)=(Y[j]:Int)) :
  eO X Y i j (setAt c j [.int .i64 (if true=true then if(lcs (X.drop i) (Y.drop (j+1)):Int) > (lcs (X.drop (i+1)) (Y.drop j):Int) then(lcs (X.drop i) (Y.drop (j+1)):Int) else(lcs (X.drop (i+1)) (Y.drop j):Int) else if(lcs (X.drop i) (Y.drop (j+1)):Int)<(lcs (X.drop (i+1)) (Y.drop j):Int) then(lcs (X.drop i) (Y.drop (j+1)):Int) else(lcs (X.drop (i+1)) (Y.drop j):Int))]):=
 h.done hj (by rw[if_pos rfl,lcs_drop hi hj,if_neg (show ¬X[i] = Y[j] by omega)];split<;>omega)
def rowsSeg (m:Nat) (rs:List (Nat×List Value)):bD:=rs.map fun p=>(p.1,.cells p.2 3 ((m+1)*1))
def rowsC (m:Nat) (rs:List (Nat×List Value)):List Value:=rs.map fun p=>.slice (some ⟨p.1,0,none⟩) (m+1) (m+1)
def outerC (m ii:Nat) (rs:List (Nat×List Value)):List Value:=List.replicate ii (.slice none 0 0)++rowsC m rs
theorem int_at {w0:World}{S:SS}{a:Addr}{xs:List Nat}(h:Rd w0 S (some a) (intC xs)) {k:Nat}(hk:k<xs.length):Cell w0 S (a.add k) (.int .i64 (xs[k]:Int)):=h.at (by simp[intC,hk])
theorem intC_ne {xs:List Nat}(h:0<xs.length):intC xs≠[]:=by intro e;simp[intC] at e;subst e;simp at h
theorem outer_set {m i:Nat}{rs:List (Nat×List Value)}{r:Nat}{c:List Value}:setAt (outerC m (i+1) rs) i [.slice (some ⟨r,0,none⟩) (m+1) (m+1)] = outerC m i ((r,c)::rs):=by
 unfold outerC;rw[bU _ _ _ (by simp)]
 simp[rowsC,List.replicate_succ',List.take_append,List.drop_append]
theorem table_fc {w0:World}{S:SS}{A B:Option Addr}{ca cb:Nat}{X Y:List Nat}(hx:Rd w0 S A (intC X)) (hy:Rd w0 S B (intC Y)) (hX:X.length<=100000) (hY:Y.length<=100000) :
  FC prog w0 99 [.slice A X.length ca,.slice B Y.length cb] S (fun v S'=>∃ro rs,v=.slice (some ⟨ro,0,none⟩) (X.length+1) (X.length+1)/\S'=rowsSeg Y.length rs::[(ro,.cells (rowsC Y.length rs) 73 ((X.length+1)*1))]::S/\rs.length=X.length+1/\∀t (h:t<rs.length),eO X Y t 0 rs[t].2):=by
 refine FC.of known99 (by simp) ?_
 unfold pc99;simp only[bo];refine PW.s1 rfl (PW.k2 0 1 rfl (PW.ae (OL.p2 rfl rfl (OL.x (Yields.ao rfl rfl (by omega) (by omega)) ?_))))
 refine OL.c (OW.mkS_full (m:=X.length+1) rfl rfl (by omega) (by unfold maxLen;omega)) ?_
 rintro _ _ ⟨r12,rfl,rfl⟩;rw[made1 _ rfl];refine OL.n1 rfl (PW.k3 0 1 5 rfl (PW.ae (OL.p4 rfl rfl rfl rfl (OL.dp rfl (OL.x (Yields.ao rfl rfl (by omega) (by omega)) ?_)))))
 refine OL.c (OW.mkS_full (m:=Y.length+1) rfl rfl (by omega) (by unfold maxLen;omega)) ?_
 rintro _ _ ⟨r19,rfl,rfl⟩;rw[made1 _ rfl];refine OL.x (Yields.ixO1 rfl rfl rfl (by omega)) ?_
 refine OL.c (OW.st (k:=1) rfl rfl rfl rfl (by first|decide|(simp;done)|(simp;omega)) (by first|rfl|simp)) ?_
 rintro _ _ rfl;refine OL.nil (PW.k3 0 1 5 rfl (PW.seq fun K1 hK1=>PW.ae (OL.p2 rfl rfl (OL.x (Yields.cH rfl rfl (by omega) (by omega)) (OL.n1 rfl (PW.k4 0 1 5 6 rfl (PW.block (PW.k4 0 1 5 6 rfl ?_))))))))
 refine PW.aR (I:=fun m T S'=>∃(ii:Nat) (rs:List (Nat×List Value)),(ii<=X.length/\m=ii/\rs.length+ii=X.length+1/\∀t (h:t<rs.length),eO X Y (ii+t) 0 rs[t].2)/\T=([(0,.slice A X.length ca),(1,.slice B Y.length cb),(5,.slice (some ⟨r12,0,none⟩) (X.length+1) (X.length+1)),(6,.int .i64 ((ii:Int)-1))]:TT)/\S'=rowsSeg Y.length rs::[(r12,.cells (outerC Y.length ii rs) 73 ((X.length+1)*1))]::S) (m:=X.length) ⟨X.length,[(r19,List.replicate (Y.length+1) (.int .i64 0))],⟨by omega,rfl,by simp;omega,fun t h=>by
   simp at h;subst h;exact eO.last X Y⟩,rfl,by
   have e:List.replicate (X.length+1) (Value.slice none 0 0)=outerC Y.length (X.length+1) []:=by simp[outerC,rowsC]
   rw[e];simp only[List.set_cons_succ,List.set_cons_zero,Value.cells,Array.toList];rw[outer_set (c:=List.replicate (Y.length+1) (.int .i64 0))];rfl⟩ ?_
 rintro m _ _ ⟨ii,rs,⟨hii,hm,hlen,hrows⟩,rfl,rfl⟩;refine PW.seq fun K2 hK2=>PW.s2 rfl rfl (PW.k5 0 1 5 6 25 rfl ?_)
 refine PW.cond rfl (fun c25=>?_) (fun c25=>?_)
 ·try simp only[decide_eq_true_eq,decide_eq_false_iff_not,beq_iff_eq,bne_iff_ne,beq_eq_false_iff_ne,bne_eq_false_iff_eq,Bool.not_eq_true',Bool.not_eq_false',Bool.not_eq_true,ne_eq,Decidable.not_not] at c25
  obtain⟨i,rfl⟩:∃i,ii=i+1:=⟨ii-1,by omega⟩
  have ei:((i+1:Nat):Int)-1=i:=by omega
  rw[ei];have hrs0:0<rs.length:=by omega
  obtain⟨r0,c0,rs',hrs⟩:∃r0 c0 rs',rs=(r0,c0)::rs':=by
   cases rs with
   |nil=>simp at hrs0
   |cons p rs'=>exact⟨p.1,p.2,rs',rfl⟩
  have hrow0:eO X Y (i+1) 0 c0:=by have:=hrows 0 hrs0;simpa[hrs] using this
  have hout:(outerC Y.length (i+1) rs)[i+1]? = some (.slice (some ⟨r0,0,none⟩) (Y.length+1) (Y.length+1)):=by simp[outerC,rowsC,hrs]
  refine PW.skip (hK2 _ _ (PW.k4 0 1 5 6 rfl (PW.seq fun K3 hK3=>PW.block (PW.ae (OL.p2 rfl rfl (OL.x (Yields.ao rfl rfl (by omega) (by omega)) ?_))))))
  refine OL.c (OW.mkS_full (m:=Y.length+1) rfl rfl (by omega) (by unfold maxLen;omega)) ?_
  rintro _ _ ⟨r31,rfl,rfl⟩;rw[made1 _ rfl];refine OL.n1 rfl (PW.k5 0 1 5 6 7 rfl (PW.seq fun K4 hK4=>PW.ae (OL.p2 rfl rfl (OL.x (Yields.cH rfl rfl (by omega) (by omega)) (OL.n1 rfl (PW.k6 0 1 5 6 7 8 rfl (PW.block ?_)))))))
  refine PW.k6 0 1 5 6 7 8 rfl ?_;refine PW.aR (I:=fun m T S'=>∃(jj:Nat) (c:List Value),(jj<=Y.length/\m=jj/\eO X Y i jj c)/\T=([(0,.slice A X.length ca),(1,.slice B Y.length cb),(5,.slice (some ⟨r12,0,none⟩) (X.length+1) (X.length+1)),(6,.int .i64 (i:Int)),(7,.slice (some ⟨r31,0,none⟩) (Y.length+1) (Y.length+1)),(8,.int .i64 ((jj:Int)-1))]:TT)/\S'=[(r31,.cells c 3 ((Y.length+1)*1))]::rowsSeg Y.length rs::[(r12,.cells (outerC Y.length (i+1) rs) 73 ((X.length+1)*1))]::S) (m:=Y.length) ⟨Y.length,_,⟨by omega,rfl,eO.zero X Y i⟩,rfl,rfl⟩ ?_
  rintro m _ _ ⟨jj,c,⟨hjj,hmj,hrow⟩,rfl,rfl⟩;refine PW.seq fun K5 hK5=>PW.s2 rfl rfl (PW.k7 0 1 5 6 7 8 36 rfl ?_)
  refine PW.cond rfl (fun c36=>?_) (fun c36=>?_)
  ·try simp only[decide_eq_true_eq,decide_eq_false_iff_not,beq_iff_eq,bne_iff_ne,beq_eq_false_iff_ne,bne_eq_false_iff_eq,Bool.not_eq_true',Bool.not_eq_false',Bool.not_eq_true,ne_eq,Decidable.not_not] at c36
   obtain⟨j,rfl⟩:∃j,jj=j+1:=⟨jj-1,by omega⟩
   have ej:((j+1:Nat):Int)-1=j:=by omega
   rw[ej];obtain⟨aX,rfl⟩:=hx.some (intC_ne (by omega))
   obtain⟨aY,rfl⟩:=hy.some (intC_ne (by omega))
   refine PW.skip (hK5 _ _ (PW.k6 0 1 5 6 7 8 rfl (PW.seq fun K6 hK6=>PW.block (PW.seq fun K7 hK7=>PW.aQ mixed (QK.p4 rfl rfl rfl rfl (QK.x (Yields.ao rfl rfl (by omega) (by omega)) ?_))))))
   refine QK.x (Yields.ixO1 rfl rfl (show _=((i+1:Nat):Int) from rfl) (by omega)) (QK.x (Yields.ld rfl (az (E:=73) (tot:=(X.length+1)*1) (by simp) hout)) (QK.dp rfl (QK.x (Yields.ixO1 rfl rfl rfl (by omega)) ?_)))
   refine QK.x (Yields.ld rfl (az (E:=3) (tot:=(Y.length+1)*1) (by simp[rowsSeg,hrs]) (hrow0.2 j (by omega) (by omega)))) ?_
   refine QK.p2 rfl rfl (QK.x (Yields.ao rfl rfl (by omega) (by omega)) (QK.x (Yields.ixO1 rfl rfl (show _=((j+1:Nat):Int) from rfl) (by omega)) (QK.x (Yields.ld rfl (az (E:=3) (tot:=(Y.length+1)*1) (by simp) (hrow.2 (j+1) (by omega) (by omega)))) (QK.nil ?_))))
   change OL _ _ _ [_,_,_] _ _ _;refine OL.dp rfl (OL.x (Yields.ixO1 rfl rfl rfl (by omega)) ?_)
   refine OL.c (OW.st (k:=0) rfl rfl rfl rfl (by have:=hrow.1;omega) rfl) ?_
   rintro _ _ rfl;refine OL.nil (hK7 _ _ (PW.k6 0 1 5 6 7 8 rfl (PW.seq fun K8 hK8=>PW.aQ mixed (QK.p2 rfl rfl (QK.x (Yields.dY rfl rfl rfl (by omega)) (QK.x (Yields.ld rfl (int_at hx.cons.cons.cons (by omega))) (QK.p2 rfl rfl (QK.x (Yields.dY rfl rfl rfl (by omega)) ?_))))))))
   refine QK.x (Yields.ld rfl (int_at hy.cons.cons.cons (by omega))) (QK.nil ?_)
   change OL _ _ _ [_] _ _ _;refine OL.n1 rfl (hK8 _ _ (PW.k7 0 1 5 6 7 8 64 rfl ?_));refine PW.cond rfl (fun c64=>?_) (fun c64=>?_)
   ·try simp only[decide_eq_true_eq,decide_eq_false_iff_not,beq_iff_eq,bne_iff_ne,beq_eq_false_iff_ne,bne_eq_false_iff_eq,Bool.not_eq_true',Bool.not_eq_false',Bool.not_eq_true,ne_eq,Decidable.not_not] at c64
    refine PW.ops (OL.p4 rfl rfl rfl rfl (OL.x (Yields.ao rfl rfl (by omega) (by omega)) (OL.x (Yields.ixO1 rfl rfl (show _=((i+1:Nat):Int) from rfl) (by omega)) (OL.x (Yields.ld rfl (az (E:=73) (tot:=(X.length+1)*1) (by simp) hout)) (OL.dp rfl (OL.x (Yields.ao rfl rfl (by omega) (by omega)) (OL.x (Yields.ixO1 rfl rfl (show _=((j+1:Nat):Int) from rfl) (by omega)) ?_)))))))
    refine OL.x (Yields.ld rfl (az (E:=3) (tot:=(Y.length+1)*1) (by simp[rowsSeg,hrs]) (hrow0.2 (j+1) (by omega) (by omega)))) ?_
    refine OL.x (Yields.ao rfl rfl (by omega) (by have:=lcs_le (X.drop (i+1)) (Y.drop (j+1));simp only[List.length_drop] at this;omega)) ?_
    refine OL.x (Yields.ixO1 rfl rfl rfl (by omega)) ?_
    refine OL.c (OW.st (k:=0) rfl rfl rfl rfl (by rw[cX];have:=hrow.1;omega) rfl) ?_
    rintro _ _ rfl;refine OL.nil (hK6 _ _ (PW.k6 0 1 5 6 7 8 rfl (PW.ops (OL.dp rfl (OL.x (Yields.cH rfl rfl (by omega) (by omega)) (OL.n1 rfl ?_))))))
    refine af.mk (T'':=[(0,_),(1,_),(5,_),(6,_),(7,_),(8,_)]) (wi rfl) ?_;refine⟨j,by omega,j,_,⟨by omega,rfl,?_⟩,rfl,rfl⟩
    first
     |exact hrow.two (by omega) (by omega) c64 _
     |exact hrow.one (by omega) (by omega) c64
   try simp only[decide_eq_true_eq,decide_eq_false_iff_not,beq_iff_eq,bne_iff_ne,beq_eq_false_iff_ne,bne_eq_false_iff_eq,Bool.not_eq_true',Bool.not_eq_false',Bool.not_eq_true,ne_eq,Decidable.not_not] at c64
   refine PW.skip (hK6 _ _ (PW.k6 0 1 5 6 7 8 rfl (PW.ops (OL.dp rfl (OL.x (Yields.cH rfl rfl (by omega) (by omega)) (OL.n1 rfl ?_))))))
   refine af.mk (T'':=[(0,_),(1,_),(5,_),(6,_),(7,_),(8,_)]) (wi rfl) ?_;refine⟨j,by omega,j,_,⟨by omega,rfl,?_⟩,rfl,rfl⟩
   first
    |exact hrow.two (by omega) (by omega) c64 _
    |exact hrow.one (by omega) (by omega) c64
  try simp only[decide_eq_true_eq,decide_eq_false_iff_not,beq_iff_eq,bne_iff_ne,beq_eq_false_iff_ne,bne_eq_false_iff_eq,Bool.not_eq_true',Bool.not_eq_false',Bool.not_eq_true,ne_eq,Decidable.not_not] at c36
  refine PW.exit (hK4 _ _ (PW.k5 0 1 5 6 7 rfl (PW.ops (OL.p3 rfl rfl rfl (OL.x (Yields.ixO1 rfl rfl rfl (by omega)) ?_)))))
  refine OL.c (OW.st (k:=2) rfl rfl rfl rfl (by simp[outerC,rowsC]) rfl) ?_
  rintro _ _ rfl;refine OL.nil (hK3 _ _ (PW.k4 0 1 5 6 rfl (PW.ops (OL.dp rfl (OL.x (Yields.cH rfl rfl (by omega) (by omega)) (OL.n1 rfl ?_))))))
  refine af.dE (Sub.join) (T'':=[(0,_),(1,_),(5,_),(6,_)]) (wi rfl) ?_;obtain rfl:jj=0:=by omega
  refine⟨i,by omega,i,(r31,c)::rs,⟨by omega,rfl,by simp;omega,fun t h=>?_⟩,rfl,?_⟩
  ·cases t with
   |zero=>simpa using hrow
   |succ t=>have:=hrows t (by simpa using h);simpa[Nat.add_assoc,Nat.add_comm,Nat.add_left_comm] using this
  simp only[List.set_cons_succ,List.set_cons_zero,Value.cells,Array.toList];rw[outer_set (c:=c)];rfl
 try simp only[decide_eq_true_eq,decide_eq_false_iff_not,beq_iff_eq,bne_iff_ne,beq_eq_false_iff_ne,bne_eq_false_iff_eq,Bool.not_eq_true',Bool.not_eq_false',Bool.not_eq_true,ne_eq,Decidable.not_not] at c25
 refine PW.exit (hK1 _ _ (PW.k1 5 rfl (PW.s2 rfl rfl (PW.k1 4 rfl ?_))));refine PW.ret (zR rfl ?_);obtain rfl:ii=0:=by omega
 refine⟨r12,rs,rfl,by simp[outerC],by omega,fun t h=>by simpa using hrows t h⟩
end Go.Proofs.My

namespace Go.Proofs.My
open Go.SL Go.RowKit Go.Proofs.Tryz
open Go.MyPlain
set_option maxHeartbeats 1000000
section
variable {α:Type}[DecidableEq α]
def rest (X Y:List α) (i j:Nat):List (Int×Int×Int):=dt ((X.length-i)+(Y.length-j)) i j (X.drop i) (Y.drop j)
theorem rest_zero (X Y:List α):rest X Y 0 0=scr X Y:=by simp[rest,scr]
theorem rest_end {X Y:List α}{i j:Nat}(hi:i=X.length) (hj:j=Y.length):rest X Y i j=[]:=by subst hi;subst hj;simp[rest,dt]
theorem rest_keep {X Y:List α}{i j:Nat}(hi:i<X.length) (hj:j<Y.length) (h:X[i] = Y[j]):rest X Y i j=(0,(i:Int),(j:Int))::rest X Y (i+1) (j+1):=by
 have e1:X.drop i=X[i]::X.drop (i+1):=List.drop_eq_getElem_cons hi
 have e2:Y.drop j=Y[j]::Y.drop (j+1):=List.drop_eq_getElem_cons hj
 obtain⟨f,hf⟩:∃f,(X.length-i)+(Y.length-j)=f+1:=⟨(X.length-i)+(Y.length-j)-1,by omega⟩
 unfold rest;rw[hf,e1,e2];simp only[dt,if_pos h];rw[scrF_fuel f ((X.length-(i+1))+(Y.length-(j+1)))]<;>simp<;>omega
theorem rest_gone {X Y:List α}{i j:Nat}(hi:i<X.length) (hj:j<=Y.length) (h:∀h:j<Y.length,¬X[i] = Y[j]/\lcs (X.drop i) (Y.drop (j+1))<=lcs (X.drop (i+1)) (Y.drop j)):rest X Y i j=(1,(i:Int),0)::rest X Y (i+1) j:=by
 have e1:X.drop i=X[i]::X.drop (i+1):=List.drop_eq_getElem_cons hi
 obtain⟨f,hf⟩:∃f,(X.length-i)+(Y.length-j)=f+1:=⟨(X.length-i)+(Y.length-j)-1,by omega⟩
 by_cases hj2:j<Y.length
 ·obtain⟨h1,h2⟩:=h hj2;have e2:Y.drop j=Y[j]::Y.drop (j+1):=List.drop_eq_getElem_cons hj2
  unfold rest;rw[hf,e2,e1];rw[e2,e1] at h2;simp only[dt,if_neg h1,if_pos h2];rw[scrF_fuel f ((X.length-(i+1))+(Y.length-j))]<;>simp<;>omega
 have e2:Y.drop j=[]:=List.drop_eq_nil_of_le (by omega)
 unfold rest;rw[hf,e2,e1];simp only[dt];rw[scrF_fuel f ((X.length-(i+1))+(Y.length-j))]<;>simp<;>omega
theorem rest_new {X Y:List α}{i j:Nat}(hi:i<=X.length) (hj:j<Y.length) (h:∀h:i<X.length,¬X[i] = Y[j]/\¬lcs (X.drop i) (Y.drop (j+1))<=lcs (X.drop (i+1)) (Y.drop j)):rest X Y i j=(2,0,(j:Int))::rest X Y i (j+1):=by
 have e2:Y.drop j=Y[j]::Y.drop (j+1):=List.drop_eq_getElem_cons hj
 obtain⟨f,hf⟩:∃f,(X.length-i)+(Y.length-j)=f+1:=⟨(X.length-i)+(Y.length-j)-1,by omega⟩
 by_cases hi2:i<X.length
 ·obtain⟨h1,h2⟩:=h hi2;have e1:X.drop i=X[i]::X.drop (i+1):=List.drop_eq_getElem_cons hi2
  unfold rest;rw[hf,e2,e1];rw[e2,e1] at h2;simp only[dt,if_neg h1,if_neg h2];rw[scrF_fuel f ((X.length-i)+(Y.length-(j+1)))]<;>simp<;>omega
 have e1:X.drop i=[]:=List.drop_eq_nil_of_le (by omega)
 unfold rest;rw[hf,e2,e1];simp only[dt];rw[scrF_fuel f ((X.length-i)+(Y.length-(j+1)))]<;>simp<;>omega
end
theorem rows_at {Y:List Nat}{rs:List (Nat×List Value)}{i:Nat}(h:i<rs.length):(rowsC Y.length rs)[i]? = some (.slice (some ⟨rs[i].1,0,none⟩) (Y.length+1) (Y.length+1)):=by simp[rowsC,h]
theorem row_mem {m:Nat}{rs:List (Nat×List Value)}{i:Nat}(h:i<rs.length):(rs[i].1,AO.cells rs[i].2 3 ((m+1)*1))∈rowsSeg m rs:=List.mem_map.2 ⟨rs[i],List.getElem_mem h,rfl⟩
theorem row_at {w0:World}{S:SS}{X Y:List Nat}{rs:List (Nat×List Value)}{i j:Nat}(hm:∀p∈rowsSeg Y.length rs,p∈S.flatten) (hr:∀t (h:t<rs.length),eO X Y t 0 rs[t].2) (h:i<rs.length) (hj:j<=Y.length):Cell w0 S ((⟨rs[i].1,0,none⟩:Addr).add j) (.int .i64 (lcs (X.drop i) (Y.drop j):Int)):=
 (Rd.own (hm _ (row_mem h))).at ((hr i h).2 j (by omega) hj)
theorem diff_fc {w0:World}{S:SS}{A B:Option Addr}{ca cb:Nat}{xs ys:List ByteArray}(hx:Rd w0 S A (xs.map .string)) (hy:Rd w0 S B (ys.map .string)) (hX:xs.length<=1024) (hY:ys.length<=1024) :
  FC prog w0 67 [.slice A xs.length ca,.slice B ys.length cb] S (fun v S'=>∃u seg,v=.tuple #[u,.int .i64 0]/\S'=seg::S/\aV 138 3 u (scr xs ys).length (stsC (scr xs ys)) seg):=by
 refine FC.ofD known67 (by simp) ?_
 unfold pc67;simp only[bo];refine PW.s2 rfl rfl (PW.k2 0 1 rfl (PW.seq fun K1 hK1=>PW.ae (OL.p3 rfl rfl rfl ?_)))
 refine OL.bool trivial (Yields.pure rfl) (fun g16=>?_) (fun g16=>?_)
 ·try simp only[decide_eq_true_eq,decide_eq_false_iff_not,beq_iff_eq,bne_iff_ne,beq_eq_false_iff_ne,bne_eq_false_iff_eq,Bool.not_eq_true',Bool.not_eq_false',Bool.not_eq_true,ne_eq,Decidable.not_not] at g16
  exfalso;omega -- done
 try simp only[decide_eq_true_eq,decide_eq_false_iff_not,beq_iff_eq,bne_iff_ne,beq_eq_false_iff_ne,bne_eq_false_iff_eq,Bool.not_eq_true',Bool.not_eq_false',Bool.not_eq_true,ne_eq,Decidable.not_not] at g16
 refine OL.ak rfl (.pure rfl) (OL.ak rfl (.pure rfl) (OL.ak rfl (.pure rfl) (OL.n1 rfl (PW.k3 0 1 20 rfl ?_))));refine PW.cond rfl (fun c20=>?_) (fun c20=>?_)
 ·try simp only[decide_eq_true_eq,decide_eq_false_iff_not,beq_iff_eq,bne_iff_ne,beq_eq_false_iff_ne,bne_eq_false_iff_eq,Bool.not_eq_true',Bool.not_eq_false',Bool.not_eq_true,ne_eq,Decidable.not_not] at c20
  exfalso;omega -- done
 try simp only[decide_eq_true_eq,decide_eq_false_iff_not,beq_iff_eq,bne_iff_ne,beq_eq_false_iff_ne,bne_eq_false_iff_eq,Bool.not_eq_true',Bool.not_eq_false',Bool.not_eq_true,ne_eq,Decidable.not_not] at c20
 refine PW.skip (hK1 _ _ (PW.k2 0 1 rfl (PW.ae (OL.c OW.mkM ?_))));rintro _ _ ⟨r21,rfl,rfl⟩;refine OL.n1 rfl (PW.k3 0 1 6 rfl (PW.ae (OL.p2 rfl rfl (OL.l rfl (numbered_fc (ks:=[]) hx (by omega) (by simp)) ?_))))
 rintro vX _ ⟨segX,rfl,hslX⟩;rw[<- numF_length [] xs] at hslX;refine OL.p2 rfl rfl ?_;refine OL.l rfl (FC.ec [1,0] 2 rfl (numbered_fc (ks:=(eN [] xs).1) hy.cons (by omega) (by have:=numF_keys [] xs;simp at this;omega))) ?_
 rintro vY _ ⟨segY,rfl,hslY⟩;rw[<- numF_length (eN [] xs).1 ys] at hslY;refine OL.n2 rfl rfl (PW.k2 7 8 rfl (PW.ae (OL.ec [0,2] 3 rfl ?_)));change OL _ _ _ _ _ (segY::segX::S) _;have hscr:=scr_nums xs ys
 have hXl:=numF_length ([]:List ByteArray) xs
 have hYl:=numF_length (eN [] xs).1 ys
 generalize hX':(eN [] xs).2=X at *
 generalize hY':(eN (eN [] xs).1 ys).2=Y at *
 obtain⟨AX,capX,rfl,hrX,hlX⟩:=hslX.rd (S:=segY::segX::S) (k:=1) rfl;obtain⟨AY,capY,rfl,hrY,hlY⟩:=hslY.rd (S:=segY::segX::S) (k:=0) rfl;refine OL.p2 rfl rfl (OL.l rfl (table_fc hrX hrY (by omega) (by omega)) ?_)
 rintro _ _ ⟨ro,rs,rfl,rfl,hrs,hrow⟩;refine OL.n1 rfl (PW.k3 7 8 9 rfl (PW.s1 rfl (PW.k4 7 8 9 10 rfl (PW.seq fun K2 hK2=>PW.ae (OL.nilseg (OL.p2 rfl rfl ?_))))))
 refine OL.nil (PW.k6 7 8 9 10 11 12 rfl (PW.block (PW.k6 7 8 9 10 11 12 rfl ?_)));refine PW.aR (I:=fun m T S'=>∃(i j:Nat) (o:List (Int×Int×Int)) (v:Value) (seg:bD),(i<=X.length/\j<=Y.length/\m=(X.length-i)+(Y.length-j)/\o++rest X Y i j=scr X Y/\o.length<=i+j/\aV 138 3 v o.length (stsC o) seg)/\T=([(7,.slice AX X.length capX),(8,.slice AY Y.length capY),(9,.slice (some ⟨ro,0,none⟩) (X.length+1) (X.length+1)),(10,v),(11,.int .i64 i),(12,.int .i64 j)]:TT)/\S'=seg::rowsSeg Y.length rs::[(ro,.cells (rowsC Y.length rs) 73 ((X.length+1)*1))]::segY::segX::S) (m:=X.length+Y.length) ⟨0,0,[],_,[],⟨by omega,by omega,by omega,by rw[rest_zero];rfl,by simp,by simpa[stsC] using aV.nil 138 3⟩,rfl,rfl⟩ ?_
 rintro m _ _ ⟨i,j,o,v,seg,⟨hi,hj,hm,hrest,holen,hsl⟩,rfl,rfl⟩;refine PW.seq fun K3 hK3=>PW.ae (OL.p4 rfl rfl rfl rfl ?_)
 refine OL.bool trivial (Yields.pure rfl) (fun g35=>?_) (fun g35=>?_)
 ·try simp only[decide_eq_true_eq,decide_eq_false_iff_not,beq_iff_eq,bne_iff_ne,beq_eq_false_iff_ne,bne_eq_false_iff_eq,Bool.not_eq_true',Bool.not_eq_false',Bool.not_eq_true,ne_eq,Decidable.not_not] at g35
  refine OL.off rfl rfl (OL.off rfl rfl (OL.off rfl rfl (OL.off rfl rfl (OL.n1 rfl (PW.k7 7 8 9 10 11 12 40 rfl (PW.ite (b:=true) rfl ?_))))));rw[if_pos rfl];refine PW.skip (hK3 _ _ (PW.k6 7 8 9 10 11 12 rfl (PW.block (PW.block (PW.seq fun K4 hK4=>PW.aQ mixed (QK.p4 rfl rfl rfl rfl ?_))))))
  refine QK.bool trivial (Yields.pure rfl) (fun g53=>?_) (fun g53=>?_)
  ·try simp only[decide_eq_true_eq,decide_eq_false_iff_not,beq_iff_eq,bne_iff_ne,beq_eq_false_iff_ne,bne_eq_false_iff_eq,Bool.not_eq_true',Bool.not_eq_false',Bool.not_eq_true,ne_eq,Decidable.not_not] at g53
   obtain⟨aX,rfl⟩:=hrX.some (intC_ne (by omega))
   refine QK.ak rfl (.pure rfl) (QK.ak rfl (.pure rfl) (QK.ak rfl (.pure rfl) (QK.ak rfl (.pure rfl) (QK.dp rfl ?_))));refine QK.bool trivial (Yields.pure rfl) (fun g59=>?_) (fun g59=>?_)
   ·try simp only[decide_eq_true_eq,decide_eq_false_iff_not,beq_iff_eq,bne_iff_ne,beq_eq_false_iff_ne,bne_eq_false_iff_eq,Bool.not_eq_true',Bool.not_eq_false',Bool.not_eq_true,ne_eq,Decidable.not_not] at g59
    obtain⟨aY,rfl⟩:=hrY.some (intC_ne (by omega))
    refine QK.ak rfl (.pure rfl) (QK.ak rfl (.pure rfl) (QK.ak rfl (.dY rfl rfl rfl (by omega)) (QK.ak rfl (.ld rfl (int_at hrX.cons.cons.cons (by omega))) (QK.ak rfl (.pure rfl) (QK.ak rfl (.pure rfl) (QK.ak rfl (.dY rfl rfl rfl (by omega)) (QK.ak rfl (.ld rfl (int_at hrY.cons.cons.cons (by omega))) (QK.nil ?_))))))))
    change OL _ _ _ [_,_,_] _ _ _;refine OL.ak rfl (.pure rfl) (OL.n2 rfl rfl (hK4 _ _ (PW.k7 7 8 9 10 11 12 48 rfl ?_)));refine PW.cond rfl (fun c48=>?_) (fun c48=>?_)
    ·try simp only[decide_eq_true_eq,decide_eq_false_iff_not,beq_iff_eq,bne_iff_ne,beq_eq_false_iff_ne,bne_eq_false_iff_eq,Bool.not_eq_true',Bool.not_eq_false',Bool.not_eq_true,ne_eq,Decidable.not_not] at c48
     refine PW.ae (OL.p3 rfl rfl rfl (OL.x (Yields.build rfl) ?_));apply OL.bV (k:=0)
     ·rfl
     ·rfl
     ·rfl
     ·rfl
     ·rfl
     ·rfl
     ·exact hsl
     ·rfl
     ·omega
     ·unfold maxLen;omega
     intro v75 seg75 hsl75;refine OL.n1 rfl (PW.k6 7 8 9 10 11 12 rfl (PW.ae (OL.dp rfl (OL.x (Yields.ao rfl rfl (by omega) (by omega)) (OL.n1 rfl (PW.k6 7 8 9 10 11 12 rfl (PW.ops (OL.dp rfl (OL.x (Yields.ao rfl rfl (by omega) (by omega)) ?_)))))))))
     refine OL.n1 rfl ?_;refine af.mk (T'':=[(7,_),(8,_),(9,_),(10,_),(11,_),(12,_)]) (wi rfl) ?_;refine⟨(X.length-(i+1))+(Y.length-(j+1)),by omega,i+1,j+1,o++[(0,(i:Int),(j:Int))],v75,seg75,⟨by omega,by omega,rfl,?_,by simp;omega,?_⟩,rfl,rfl⟩
     ·rw[<- hrest,rest_keep (i:=i) (j:=j) (by omega) (by omega) (by omega),List.append_assoc];rfl
     rw[dv,List.length_append];exact hsl75
    try simp only[decide_eq_true_eq,decide_eq_false_iff_not,beq_iff_eq,bne_iff_ne,beq_eq_false_iff_ne,bne_eq_false_iff_eq,Bool.not_eq_true',Bool.not_eq_false',Bool.not_eq_true,ne_eq,Decidable.not_not] at c48
    refine PW.seq fun K5 hK5=>PW.aQ mixed (QK.p4 rfl rfl rfl rfl ?_)
    refine QK.bool trivial (Yields.pure rfl) (fun g85=>?_) (fun g85=>?_)
    ·try simp only[decide_eq_true_eq,decide_eq_false_iff_not,beq_iff_eq,bne_iff_ne,beq_eq_false_iff_ne,bne_eq_false_iff_eq,Bool.not_eq_true',Bool.not_eq_false',Bool.not_eq_true,ne_eq,Decidable.not_not] at g85
     refine QK.ak rfl (.pure rfl) (QK.ak rfl (.pure rfl) (QK.ak rfl (.pure rfl) (QK.ak rfl (.pure rfl) ?_)));refine QK.bool rfl (Yields.pure rfl) (fun g90=>?_) (fun g90=>?_)
     ·(try simp only[decide_eq_true_eq,decide_eq_false_iff_not,beq_iff_eq,bne_iff_ne,beq_eq_false_iff_ne,bne_eq_false_iff_eq,Bool.not_eq_true',Bool.not_eq_false',Bool.not_eq_true,ne_eq,Decidable.not_not] at g90)<;>(exfalso;first|omega|(simp at g90;done)|(revert g90;simp;done))
     try simp only[decide_eq_true_eq,decide_eq_false_iff_not,beq_iff_eq,bne_iff_ne,beq_eq_false_iff_ne,bne_eq_false_iff_eq,Bool.not_eq_true',Bool.not_eq_false',Bool.not_eq_true,ne_eq,Decidable.not_not] at g90
     refine QK.ak rfl (.pure rfl) (QK.ak rfl (.pure rfl) (QK.ak rfl (.ao rfl rfl (by omega) (by omega)) (QK.ak rfl (.dY rfl rfl (show _=((i+1:Nat):Int) from rfl) (by omega)) (QK.ak rfl (.ld rfl ((Rd.own (E:=73) (tot:=(X.length+1)*1) (by simp)).at (rows_at (Y:=Y) (rs:=rs) (i:=i+1) (by omega)))) (QK.ak rfl (.pure rfl) (QK.ak rfl (.dY rfl rfl rfl (by omega)) ?_))))))
     refine QK.ak rfl (.ld rfl (row_at (Y:=Y) (rs:=rs) (i:=i+1) (j:=j) (fun p hp=>by simp[hp]) hrow (by omega) (by omega))) ?_
     refine QK.ak rfl (.pure rfl) (QK.ak rfl (.pure rfl) (QK.ak rfl (.dY rfl rfl rfl (by omega)) (QK.ak rfl (.ld rfl ((Rd.own (E:=73) (tot:=(X.length+1)*1) (by simp)).at (rows_at (Y:=Y) (rs:=rs) (i:=i) (by omega)))) (QK.ak rfl (.pure rfl) (QK.ak rfl (.ao rfl rfl (by omega) (by omega)) (QK.ak rfl (.dY rfl rfl (show _=((j+1:Nat):Int) from rfl) (by omega)) ?_))))))
     refine QK.ak rfl (.ld rfl (row_at (Y:=Y) (rs:=rs) (i:=i) (j:=j+1) (fun p hp=>by simp[hp]) hrow (by omega) (by omega))) ?_
     refine QK.nil ?_;change OL _ _ _ [_,_,_,_] _ _ _;refine OL.ak rfl (.pure rfl) (OL.ak rfl (.pure rfl) (OL.n2 rfl rfl (hK5 _ _ (PW.k7 7 8 9 10 11 12 80 rfl ?_))));refine PW.cond rfl (fun c80=>?_) (fun c80=>?_)
     ·try simp only[decide_eq_true_eq,decide_eq_false_iff_not,beq_iff_eq,bne_iff_ne,beq_eq_false_iff_ne,bne_eq_false_iff_eq,Bool.not_eq_true',Bool.not_eq_false',Bool.not_eq_true,ne_eq,Decidable.not_not] at c80
      refine PW.ae (OL.p2 rfl rfl (OL.x (Yields.build rfl) ?_));apply OL.bV (k:=0)
      ·rfl
      ·rfl
      ·rfl
      ·rfl
      ·rfl
      ·rfl
      ·exact hsl
      ·rfl
      ·omega
      ·unfold maxLen;omega
      intro v114 seg114 hsl114;refine OL.n1 rfl (PW.k6 7 8 9 10 11 12 rfl (PW.ops (OL.dp rfl (OL.x (Yields.ao rfl rfl (by omega) (by omega)) (OL.n1 rfl ?_)))))
      refine af.mk (T'':=[(7,_),(8,_),(9,_),(10,_),(11,_),(12,_)]) (wi rfl) ?_;refine⟨(X.length-(i+1))+(Y.length-(j)),by omega,i+1,j,o++[(1,(i:Int),0)],v114,seg114,⟨by omega,by omega,rfl,?_,by simp;omega,?_⟩,rfl,rfl⟩
      ·rw[<- hrest,rest_gone (i:=i) (j:=j) (by omega) (by omega) (fun h=>by first|omega|exact⟨by omega,by omega⟩),List.append_assoc];rfl
      rw[dv,List.length_append];exact hsl114
     try simp only[decide_eq_true_eq,decide_eq_false_iff_not,beq_iff_eq,bne_iff_ne,beq_eq_false_iff_ne,bne_eq_false_iff_eq,Bool.not_eq_true',Bool.not_eq_false',Bool.not_eq_true,ne_eq,Decidable.not_not] at c80
     refine PW.ae (OL.p2 rfl rfl (OL.x (Yields.build rfl) ?_));apply OL.bV (k:=0)
     ·rfl
     ·rfl
     ·rfl
     ·rfl
     ·rfl
     ·rfl
     ·exact hsl
     ·rfl
     ·omega
     ·unfold maxLen;omega
     intro v45 seg45 hsl45;refine OL.n1 rfl (PW.k6 7 8 9 10 11 12 rfl (PW.ops (OL.dp rfl (OL.x (Yields.ao rfl rfl (by omega) (by omega)) (OL.n1 rfl ?_)))))
     refine af.mk (T'':=[(7,_),(8,_),(9,_),(10,_),(11,_),(12,_)]) (wi rfl) ?_;refine⟨(X.length-(i))+(Y.length-(j+1)),by omega,i,j+1,o++[(2,0,(j:Int))],v45,seg45,⟨by omega,by omega,rfl,?_,by simp;omega,?_⟩,rfl,rfl⟩
     ·rw[<- hrest,rest_new (i:=i) (j:=j) (by omega) (by omega) (fun h=>by first|omega|exact⟨by omega,by omega⟩),List.append_assoc];rfl
     rw[dv,List.length_append];exact hsl45
    (try simp only[decide_eq_true_eq,decide_eq_false_iff_not,beq_iff_eq,bne_iff_ne,beq_eq_false_iff_ne,bne_eq_false_iff_eq,Bool.not_eq_true',Bool.not_eq_false',Bool.not_eq_true,ne_eq,Decidable.not_not] at g85)<;>(exfalso;first|omega|(simp at g85;done)|(revert g85;simp;done))
   try simp only[decide_eq_true_eq,decide_eq_false_iff_not,beq_iff_eq,bne_iff_ne,beq_eq_false_iff_ne,bne_eq_false_iff_eq,Bool.not_eq_true',Bool.not_eq_false',Bool.not_eq_true,ne_eq,Decidable.not_not] at g59
   refine QK.off rfl rfl (QK.off rfl rfl (QK.off rfl rfl (QK.off rfl rfl (QK.off rfl rfl (QK.off rfl rfl (QK.off rfl rfl (QK.off rfl rfl (QK.nil ?_))))))));change OL _ _ _ [_,_,_] _ _ _;refine OL.off rfl rfl (OL.n2 rfl rfl (hK4 _ _ (PW.k7 7 8 9 10 11 12 48 rfl (PW.ite (b:=false) rfl ?_))));rw[if_neg Bool.false_ne_true];refine PW.seq fun K6 hK6=>PW.aQ mixed (QK.p4 rfl rfl rfl rfl ?_)
   refine QK.bool trivial (Yields.pure rfl) (fun g85=>?_) (fun g85=>?_)
   ·try simp only[decide_eq_true_eq,decide_eq_false_iff_not,beq_iff_eq,bne_iff_ne,beq_eq_false_iff_ne,bne_eq_false_iff_eq,Bool.not_eq_true',Bool.not_eq_false',Bool.not_eq_true,ne_eq,Decidable.not_not] at g85
    refine QK.ak rfl (.pure rfl) (QK.ak rfl (.pure rfl) (QK.ak rfl (.pure rfl) (QK.ak rfl (.pure rfl) ?_)));refine QK.bool rfl (Yields.pure rfl) (fun g90=>?_) (fun g90=>?_)
    ·try simp only[decide_eq_true_eq,decide_eq_false_iff_not,beq_iff_eq,bne_iff_ne,beq_eq_false_iff_ne,bne_eq_false_iff_eq,Bool.not_eq_true',Bool.not_eq_false',Bool.not_eq_true,ne_eq,Decidable.not_not] at g90
     refine QK.off rfl rfl (QK.off rfl rfl (QK.off rfl rfl (QK.off rfl rfl (QK.off rfl rfl (QK.off rfl rfl (QK.off rfl rfl (QK.off rfl rfl (QK.off rfl rfl (QK.off rfl rfl (QK.off rfl rfl (QK.off rfl rfl ?_)))))))))));refine QK.off rfl rfl (QK.off rfl rfl (QK.off rfl rfl (QK.off rfl rfl (QK.nil ?_))));change OL _ _ _ [_,_,_,_] _ _ _;refine OL.off rfl rfl (OL.ak rfl (.pure rfl) (OL.n2 rfl rfl (hK6 _ _ (PW.k7 7 8 9 10 11 12 80 rfl (PW.ite (b:=true) rfl ?_)))));rw[if_pos rfl];refine PW.ae (OL.p2 rfl rfl (OL.x (Yields.build rfl) ?_));apply OL.bV (k:=0)
     ·rfl
     ·rfl
     ·rfl
     ·rfl
     ·rfl
     ·rfl
     ·exact hsl
     ·rfl
     ·omega
     ·unfold maxLen;omega
     intro v114 seg114 hsl114;refine OL.n1 rfl (PW.k6 7 8 9 10 11 12 rfl (PW.ops (OL.dp rfl (OL.x (Yields.ao rfl rfl (by omega) (by omega)) (OL.n1 rfl ?_)))))
     refine af.mk (T'':=[(7,_),(8,_),(9,_),(10,_),(11,_),(12,_)]) (wi rfl) ?_;refine⟨(X.length-(i+1))+(Y.length-(j)),by omega,i+1,j,o++[(1,(i:Int),0)],v114,seg114,⟨by omega,by omega,rfl,?_,by simp;omega,?_⟩,rfl,rfl⟩
     ·rw[<- hrest,rest_gone (i:=i) (j:=j) (by omega) (by omega) (fun h=>by first|omega|exact⟨by omega,by omega⟩),List.append_assoc];rfl
     rw[dv,List.length_append];exact hsl114
    (try simp only[decide_eq_true_eq,decide_eq_false_iff_not,beq_iff_eq,bne_iff_ne,beq_eq_false_iff_ne,bne_eq_false_iff_eq,Bool.not_eq_true',Bool.not_eq_false',Bool.not_eq_true,ne_eq,Decidable.not_not] at g90)<;>(exfalso;first|omega|(simp at g90;done)|(revert g90;simp;done))
   (try simp only[decide_eq_true_eq,decide_eq_false_iff_not,beq_iff_eq,bne_iff_ne,beq_eq_false_iff_ne,bne_eq_false_iff_eq,Bool.not_eq_true',Bool.not_eq_false',Bool.not_eq_true,ne_eq,Decidable.not_not] at g85)<;>(exfalso;first|omega|(simp at g85;done)|(revert g85;simp;done))
  (try simp only[decide_eq_true_eq,decide_eq_false_iff_not,beq_iff_eq,bne_iff_ne,beq_eq_false_iff_ne,bne_eq_false_iff_eq,Bool.not_eq_true',Bool.not_eq_false',Bool.not_eq_true,ne_eq,Decidable.not_not] at g53)<;>(exfalso;first|omega|(simp at g53;done)|(revert g53;simp;done))
 try simp only[decide_eq_true_eq,decide_eq_false_iff_not,beq_iff_eq,bne_iff_ne,beq_eq_false_iff_ne,bne_eq_false_iff_eq,Bool.not_eq_true',Bool.not_eq_false',Bool.not_eq_true,ne_eq,Decidable.not_not] at g35
 refine OL.ak rfl (.pure rfl) (OL.ak rfl (.pure rfl) (OL.ak rfl (.pure rfl) (OL.ak rfl (.pure rfl) (OL.n1 rfl (PW.k7 7 8 9 10 11 12 40 rfl ?_)))));refine PW.cond rfl (fun c40=>?_) (fun c40=>?_)
 ·try simp only[decide_eq_true_eq,decide_eq_false_iff_not,beq_iff_eq,bne_iff_ne,beq_eq_false_iff_ne,bne_eq_false_iff_eq,Bool.not_eq_true',Bool.not_eq_false',Bool.not_eq_true,ne_eq,Decidable.not_not] at c40
  refine PW.skip (hK3 _ _ (PW.k6 7 8 9 10 11 12 rfl (PW.block (PW.block (PW.seq fun K7 hK7=>PW.aQ mixed (QK.p4 rfl rfl rfl rfl ?_))))))
  refine QK.bool trivial (Yields.pure rfl) (fun g53=>?_) (fun g53=>?_)
  ·(try simp only[decide_eq_true_eq,decide_eq_false_iff_not,beq_iff_eq,bne_iff_ne,beq_eq_false_iff_ne,bne_eq_false_iff_eq,Bool.not_eq_true',Bool.not_eq_false',Bool.not_eq_true,ne_eq,Decidable.not_not] at g53)<;>(exfalso;first|omega|(simp at g53;done)|(revert g53;simp;done))
  try simp only[decide_eq_true_eq,decide_eq_false_iff_not,beq_iff_eq,bne_iff_ne,beq_eq_false_iff_ne,bne_eq_false_iff_eq,Bool.not_eq_true',Bool.not_eq_false',Bool.not_eq_true,ne_eq,Decidable.not_not] at g53
  refine QK.off rfl rfl (QK.off rfl rfl (QK.off rfl rfl (QK.off rfl rfl (QK.p2 rfl rfl (QK.off rfl rfl (QK.off rfl rfl (QK.off rfl rfl (QK.off rfl rfl (QK.off rfl rfl (QK.off rfl rfl ?_))))))))));refine QK.off rfl rfl (QK.off rfl rfl (QK.nil ?_));change OL _ _ _ [_,_,_] _ _ _;refine OL.off rfl rfl (OL.n2 rfl rfl (hK7 _ _ (PW.k7 7 8 9 10 11 12 48 rfl (PW.ite (b:=false) rfl ?_))));rw[if_neg Bool.false_ne_true];refine PW.seq fun K8 hK8=>PW.aQ mixed (QK.p4 rfl rfl rfl rfl ?_)
  refine QK.bool trivial (Yields.pure rfl) (fun g85=>?_) (fun g85=>?_)
  ·(try simp only[decide_eq_true_eq,decide_eq_false_iff_not,beq_iff_eq,bne_iff_ne,beq_eq_false_iff_ne,bne_eq_false_iff_eq,Bool.not_eq_true',Bool.not_eq_false',Bool.not_eq_true,ne_eq,Decidable.not_not] at g85)<;>(exfalso;first|omega|(simp at g85;done)|(revert g85;simp;done))
  try simp only[decide_eq_true_eq,decide_eq_false_iff_not,beq_iff_eq,bne_iff_ne,beq_eq_false_iff_ne,bne_eq_false_iff_eq,Bool.not_eq_true',Bool.not_eq_false',Bool.not_eq_true,ne_eq,Decidable.not_not] at g85
  refine QK.off rfl rfl (QK.off rfl rfl (QK.off rfl rfl (QK.off rfl rfl (QK.off rfl rfl (QK.off rfl rfl (QK.off rfl rfl (QK.off rfl rfl (QK.off rfl rfl (QK.off rfl rfl (QK.off rfl rfl (QK.off rfl rfl ?_)))))))))));refine QK.off rfl rfl (QK.off rfl rfl (QK.off rfl rfl (QK.off rfl rfl (QK.off rfl rfl (QK.off rfl rfl (QK.off rfl rfl (QK.off rfl rfl (QK.off rfl rfl (QK.nil ?_)))))))));change OL _ _ _ [_,_,_,_] _ _ _;refine OL.off rfl rfl (OL.off rfl rfl (OL.n2 rfl rfl (hK8 _ _ (PW.k7 7 8 9 10 11 12 80 rfl (PW.ite (b:=false) rfl ?_)))));rw[if_neg Bool.false_ne_true];refine PW.ae (OL.p2 rfl rfl (OL.x (Yields.build rfl) ?_));apply OL.bV (k:=0)
  ·rfl
  ·rfl
  ·rfl
  ·rfl
  ·rfl
  ·rfl
  ·exact hsl
  ·rfl
  ·omega
  ·unfold maxLen;omega
  intro v45 seg45 hsl45;refine OL.n1 rfl (PW.k6 7 8 9 10 11 12 rfl (PW.ops (OL.dp rfl (OL.x (Yields.ao rfl rfl (by omega) (by omega)) (OL.n1 rfl ?_)))))
  refine af.mk (T'':=[(7,_),(8,_),(9,_),(10,_),(11,_),(12,_)]) (wi rfl) ?_;refine⟨(X.length-(i))+(Y.length-(j+1)),by omega,i,j+1,o++[(2,0,(j:Int))],v45,seg45,⟨by omega,by omega,rfl,?_,by simp;omega,?_⟩,rfl,rfl⟩
  ·rw[<- hrest,rest_new (i:=i) (j:=j) (by omega) (by omega) (fun h=>by first|omega|exact⟨by omega,by omega⟩),List.append_assoc];rfl
  rw[dv,List.length_append];exact hsl45
 try simp only[decide_eq_true_eq,decide_eq_false_iff_not,beq_iff_eq,bne_iff_ne,beq_eq_false_iff_ne,bne_eq_false_iff_eq,Bool.not_eq_true',Bool.not_eq_false',Bool.not_eq_true,ne_eq,Decidable.not_not] at c40
 refine PW.exit (hK2 _ _ (PW.k1 10 rfl (PW.s3 rfl rfl rfl (PW.k2 4 5 rfl ?_))));refine PW.ret (zR rfl ?_);have e1:=rest_end (X:=X) (Y:=Y) (show i=X.length by omega) (show j=Y.length by omega)
 rw[e1,List.append_nil] at hrest;refine⟨seg::S,?_,v,seg,rfl,rfl,by rw[<- hscr,<- hrest];exact hsl⟩
 exact Sub.cons (Sub.drop (Sub.drop (Sub.drop (Sub.drop (Sub.refl S)))))
end Go.Proofs.My

namespace Go.Proofs.My
open Go.SL Go.RowKit Go.Proofs.Tryz
open Go.MyPlain
set_option maxHeartbeats 1000000
section
variable {α:Type}[DecidableEq α]
theorem eS {X Y:List α}{i j:Nat}(hi:i<X.length) (hj:j<Y.length):lcs (X.drop i) (Y.drop j) =
  (let m:=if lcs (X.drop i) (Y.drop (j+1)) > lcs (X.drop (i+1)) (Y.drop j) then lcs (X.drop i) (Y.drop (j+1)) else lcs (X.drop (i+1)) (Y.drop j);if X[i] = Y[j]/\lcs (X.drop (i+1)) (Y.drop (j+1))+1 > m then lcs (X.drop (i+1)) (Y.drop (j+1))+1 else m):=by
 have e1:X.drop i=X[i]::X.drop (i+1):=List.drop_eq_getElem_cons hi
 have e2:Y.drop j=Y[j]::Y.drop (j+1):=List.drop_eq_getElem_cons hj
 rw[e1,e2];exact lcs_ref ..
def KOK (X Y:List α) (w i jj:Nat) (c:List Value):Prop:=c.length=(X.length+1)*w/\∀a b,a<=X.length->b<=Y.length->(i<a∨(a=i/\jj<=b)∨b=Y.length)->c[a*w+b]? = some (.int .i64 (lcs (X.drop a) (Y.drop b):Int))
theorem place_lt {a b n w:Nat}(ha:a<=n) (hb:b<w):a*w+b<(n+1)*w:=by
 have:(a+1)*w<=(n+1)*w:=Nat.mul_le_mul_right _ (by omega)
 rw[Nat.succ_mul] at this;omega
theorem place_inj {a b i j w:Nat}(hb:b<w) (hj:j<w) (h:a*w+b=i*w+j):a=i/\b=j:=by
 have h1:=congrArg (· / w) h
 have h2:=congrArg (· % w) h
 simp only[Nat.mul_add_mod_of_lt hb,Nat.mul_add_mod_of_lt hj] at h2;have h0:0<w:=by omega
 rw[show a*w+b=b+w*a by rw[Nat.mul_comm];omega,show i*w+j=j+w*i by rw[Nat.mul_comm];omega] at h1
 simp only[Nat.add_mul_div_left _ _ h0,Nat.div_eq_of_lt hb,Nat.div_eq_of_lt hj] at h1;omega
theorem KOK.start {X Y:List α}{w:Nat}(hw:w=Y.length+1):KOK X Y w X.length 0 (List.replicate ((X.length+1)*w) (.int .i64 0)):=by
 refine⟨by simp,fun a b ha hb h=>?_⟩
 have hl:lcs (X.drop a) (Y.drop b)=0:=by
  rcases h with h|⟨rfl,_⟩|rfl
  ·omega
  ·rw[List.drop_length,fL]
  rw[List.drop_length,lcs_nil_right]
 rw[hl];have:=place_lt (w:=w) ha (b:=b) (by omega)
 simp[this]
theorem KOK.put {X Y:List α}{w i j:Nat}{c:List Value}(h:KOK X Y w i (j+1) c) (hw:w=Y.length+1) (hi:i<=X.length) (hj:j<Y.length) {v:Int}(hv:v=lcs (X.drop i) (Y.drop j)):KOK X Y w i j (setAt c (i*w+j) [.int .i64 v]):=by
 refine⟨by rw[cX];exact h.1,fun a b ha hb hk=>?_⟩
 rw[setAt_get c _ _ (by rw[h.1];exact place_lt hi (by omega))]
 split
 ·rename_i e;obtain⟨rfl,rfl⟩:=place_inj (by omega) (by omega) e
  rw[hv]
 rename_i e;refine h.2 a b ha hb ?_;rcases hk with hk|⟨rfl,hk⟩|hk
 ·exact .inl hk
 ·by_cases e2:b=j
  ·subst e2;exact absurd rfl e
  exact .inr (.inl ⟨rfl,by omega⟩)
 exact .inr (.inr hk)
theorem KOK.row {X Y : List α} {w i : Nat} {c : List Value} (h : KOK X Y w (i + 1) 0 c) : KOK X Y w i Y.length c :=
  ⟨h.1, fun a b ha hb hk => h.2 a b ha hb (by rcases hk with hk | ⟨h1, h2⟩ | hk
                                              · by_cases e : a = i + 1
                                                · exact .inr (.inl ⟨e, by omega⟩)
                                                exact .inl (by omega)
                                              · exact .inr (.inr (by omega))
                                              exact .inr (.inr hk))⟩
theorem KOK.cell {X Y:List α}{w0:World}{S:SS}{w i jj r tot:Nat}{c:List Value}(h:KOK X Y w i jj c) (hm:(r,AO.cells c 3 tot)∈S.flatten) (a b:Nat) (ha:a<=X.length) (hb:b<=Y.length) (hk:i<a∨(a=i/\jj<=b)∨b=Y.length):Cell w0 S ⟨r,a*w+b,none⟩ (.int .i64 (lcs (X.drop a) (Y.drop b):Int)):=
 az hm (h.2 a b ha hb hk)
end
theorem keeps_fc {w0:World}{S:SS}{A B:Option Addr}{ca cb:Nat}{xs ys:List ByteArray}(hx:Rd w0 S A (xs.map .string)) (hy:Rd w0 S B (ys.map .string)) (hX:xs.length<=1024) (hY:ys.length<=1024) :
  FC prog w0 127 [.slice A xs.length ca,.slice B ys.length cb] S (fun v S'=>∃r c,v=.slice (some ⟨r,0,none⟩) ((xs.length+1)*(ys.length+1)) ((xs.length+1)*(ys.length+1))/\S'=[(r,.cells c 3 (((xs.length+1)*(ys.length+1))*1))]::S/\KOK xs ys (ys.length+1) 0 0 c):=by
 obtain⟨w,hw⟩:∃w,w=ys.length+1:=⟨_,rfl⟩;have hnw:(xs.length+1)*w<=1025*1025:=Nat.mul_le_mul (by omega) (by omega)
 have hci:((xs.length:Int)+1)*(w:Int)=(((xs.length+1)*w:Nat):Int):=rfl
 refine FC.of known127 (by simp) ?_
 unfold pc127;simp only[bo];refine PW.s1 rfl (PW.k2 0 1 rfl (PW.ae (OL.p2 rfl rfl (OL.x (Yields.ao rfl rfl (by omega) (by omega)) ?_))))
 rw[show((ys.length:Int)+1)=(w:Int) by rw[hw];rfl]
 refine OL.n1 rfl (PW.k3 0 1 5 rfl (PW.ae (OL.p2 rfl rfl (OL.x (Yields.ao rfl rfl (by omega) (by omega)) (OL.dp rfl (OL.x (Yields.mul64 rfl rfl (by omega) (by omega)) ?_))))))
 refine OL.c (OW.mkS_full (m:=(xs.length+1)*w) rfl rfl (by omega) (by unfold maxLen;omega)) ?_
 rintro _ _ ⟨r18,rfl,rfl⟩;rw[made1 _ rfl];refine OL.n1 rfl (PW.k4 0 1 5 6 rfl (PW.seq fun K1 hK1=>PW.ae (OL.p2 rfl rfl (OL.x (Yields.cH rfl rfl (by omega) (by omega)) (OL.n1 rfl (PW.k5 0 1 5 6 7 rfl (PW.block ?_)))))))
 refine PW.k5 0 1 5 6 7 rfl ?_;refine PW.aR (I:=fun m T S'=>∃(ii:Nat) (c:List Value),(ii<=xs.length/\m=ii/\KOK xs ys w ii 0 c)/\T=([(0,.slice A xs.length ca),(1,.slice B ys.length cb),(5,.int .i64 (w:Int)),(6,.slice (some ⟨r18,0,none⟩) ((xs.length+1)*w) ((xs.length+1)*w)),(7,.int .i64 ((ii:Int)-1))]:TT)/\S'=[(r18,.cells c 3 (((xs.length+1)*w)*1))]::S) (m:=xs.length) ⟨xs.length,_,⟨by omega,rfl,KOK.start hw⟩,rfl,rfl⟩ ?_
 rintro m _ _ ⟨ii,c,⟨hii,hm,hrow0⟩,rfl,rfl⟩;refine PW.seq fun K2 hK2=>PW.s2 rfl rfl (PW.k6 0 1 5 6 7 23 rfl ?_)
 refine PW.cond rfl (fun c23=>?_) (fun c23=>?_)
 ·try simp only[decide_eq_true_eq,decide_eq_false_iff_not,beq_iff_eq,bne_iff_ne,beq_eq_false_iff_ne,bne_eq_false_iff_eq,Bool.not_eq_true',Bool.not_eq_false',Bool.not_eq_true,ne_eq,Decidable.not_not] at c23
  obtain⟨i,rfl⟩:∃i,ii=i+1:=⟨ii-1,by omega⟩
  have ei:((i+1:Nat):Int)-1=i:=by omega
  rw[ei];have hp1:(i+1)*w=i*w+w:=Nat.succ_mul ..
  have hp2:(i+1)*w+w<=(xs.length+1)*w:=by rw[<- Nat.succ_mul];exact Nat.mul_le_mul_right _ (by omega)
  have hc1:(i:Int)*(w:Int)=((i*w:Nat):Int):=rfl
  have hc2:((i:Int)+1)*(w:Int)=(((i+1)*w:Nat):Int):=rfl
  refine PW.skip (hK2 _ _ (PW.k5 0 1 5 6 7 rfl (PW.seq fun K3 hK3=>PW.block (PW.ae (OL.p2 rfl rfl (OL.x (Yields.cH rfl rfl (by omega) (by omega)) (OL.n1 rfl (PW.k6 0 1 5 6 7 8 rfl ?_))))))))
  refine PW.block (PW.k6 0 1 5 6 7 8 rfl ?_);refine PW.aR (I:=fun m T S'=>∃(jj:Nat) (c:List Value),(jj<=ys.length/\m=jj/\KOK xs ys w i jj c)/\T=([(0,.slice A xs.length ca),(1,.slice B ys.length cb),(5,.int .i64 (w:Int)),(6,.slice (some ⟨r18,0,none⟩) ((xs.length+1)*w) ((xs.length+1)*w)),(7,.int .i64 (i:Int)),(8,.int .i64 ((jj:Int)-1))]:TT)/\S'=[(r18,.cells c 3 (((xs.length+1)*w)*1))]::S) (m:=ys.length) ⟨ys.length,c,⟨by omega,rfl,hrow0.row⟩,rfl,rfl⟩ ?_
  rintro m _ _ ⟨jj,c,⟨hjj,hmj,hrow⟩,rfl,rfl⟩;refine PW.seq fun K4 hK4=>PW.s2 rfl rfl (PW.k7 0 1 5 6 7 8 30 rfl ?_)
  refine PW.cond rfl (fun c30=>?_) (fun c30=>?_)
  ·try simp only[decide_eq_true_eq,decide_eq_false_iff_not,beq_iff_eq,bne_iff_ne,beq_eq_false_iff_ne,bne_eq_false_iff_eq,Bool.not_eq_true',Bool.not_eq_false',Bool.not_eq_true,ne_eq,Decidable.not_not] at c30
   obtain⟨j,rfl⟩:∃j,jj=j+1:=⟨jj-1,by omega⟩
   have ej:((j+1:Nat):Int)-1=j:=by omega
   rw[ej];have hlj:=lcs_le (xs.drop (i+1)) (ys.drop (j+1))
   simp only[List.length_drop] at hlj;obtain⟨aX,rfl⟩:=hx.some (strs_ne (by omega))
   obtain⟨aY,rfl⟩:=hy.some (strs_ne (by omega))
   refine PW.skip (hK4 _ _ (PW.k6 0 1 5 6 7 8 rfl (PW.seq fun K5 hK5=>PW.block (PW.ae (OL.p2 rfl rfl (OL.x (Yields.ao rfl rfl (by omega) (by omega)) (OL.dp rfl (OL.x (Yields.mul64 rfl rfl (by omega) (by omega)) (OL.dp rfl ?_)))))))))
   refine OL.x (Yields.ao rfl rfl (by omega) (by omega)) (OL.x (Yields.ixO1 rfl rfl (show _=(((i+1)*w+j:Nat):Int) from rfl) (by omega)) (OL.x (Yields.ld rfl (hrow.cell (tot:=((xs.length+1)*w)*1) (by simp) (i+1) j (by omega) (by omega) (by omega))) (OL.n1 rfl (PW.k7 0 1 5 6 7 8 9 rfl (PW.seq fun K6 hK6=>PW.ae (OL.p3 rfl rfl rfl (OL.x (Yields.mul64 rfl rfl (by omega) (by omega)) ?_)))))))
   refine OL.dp rfl (OL.x (Yields.ao rfl rfl (by omega) (by omega)) (OL.x (Yields.ao rfl rfl (by omega) (by omega)) (OL.x (Yields.ixO1 rfl rfl (show _=((i*w+(j+1):Nat):Int) from rfl) (by omega)) (OL.x (Yields.ld rfl (hrow.cell (tot:=((xs.length+1)*w)*1) (by simp) i (j+1) (by omega) (by omega) (by omega))) (OL.n2 rfl rfl (PW.k8 0 1 5 6 7 8 9 52 rfl ?_))))))
   refine PW.cond rfl (fun c52=>?_) (fun c52=>?_)
   ·try simp only[decide_eq_true_eq,decide_eq_false_iff_not,beq_iff_eq,bne_iff_ne,beq_eq_false_iff_ne,bne_eq_false_iff_eq,Bool.not_eq_true',Bool.not_eq_false',Bool.not_eq_true,ne_eq,Decidable.not_not] at c52
    refine PW.ops (OL.p3 rfl rfl rfl (OL.x (Yields.mul64 rfl rfl (by omega) (by omega)) (OL.dp rfl (OL.x (Yields.ao rfl rfl (by omega) (by omega)) (OL.x (Yields.ao rfl rfl (by omega) (by omega)) (OL.x (Yields.ixO1 rfl rfl (show _=((i*w+(j+1):Nat):Int) from rfl) (by omega)) (OL.x (Yields.ld rfl (hrow.cell (tot:=((xs.length+1)*w)*1) (by simp) i (j+1) (by omega) (by omega) (by omega))) (OL.n1 rfl ?_))))))))
    refine hK6 _ _ (PW.k7 0 1 5 6 7 8 9 rfl (PW.seq fun K7 hK7=>PW.seq fun K8 hK8=>PW.aQ mixed (QK.p2 rfl rfl (QK.x (Yields.dY rfl rfl rfl (by omega)) (QK.x (Yields.ld rfl (dD hx.cons (by omega))) (QK.p2 rfl rfl (QK.x (Yields.dY rfl rfl rfl (by omega)) ?_)))))))
    refine QK.x (Yields.ld rfl (dD hy.cons (by omega))) (QK.dp rfl ?_)
    refine QK.bool trivial (Yields.pure rfl) (fun g71=>?_) (fun g71=>?_)
    ·try simp only[decide_eq_true_eq,decide_eq_false_iff_not,beq_iff_eq,bne_iff_ne,beq_eq_false_iff_ne,bne_eq_false_iff_eq,Bool.not_eq_true',Bool.not_eq_false',Bool.not_eq_true,ne_eq,Decidable.not_not] at g71
     have he:xs[i] = ys[j]:=bytes_ext g71
     refine QK.ak rfl (.pure rfl) (QK.ak rfl (.pure rfl) (QK.ak rfl (.ao rfl rfl (by omega) (by omega)) (QK.ak rfl (.pure rfl) (QK.ak rfl (Yields.mul64 rfl rfl (by omega) (by omega)) (QK.ak rfl (.pure rfl) (QK.ak rfl (.ao rfl rfl (by omega) (by omega)) (QK.ak rfl (.ao rfl rfl (by omega) (by omega)) (QK.ak rfl (Yields.ixO1 rfl rfl (show _=(((i+1)*w+(j+1):Nat):Int) from rfl) (by omega)) (QK.ak rfl (.ld rfl (hrow.cell (tot:=((xs.length+1)*w)*1) (by simp) (i+1) (j+1) (by omega) (by omega) (by omega))) (QK.ak rfl (.ao rfl rfl (by omega) (by omega)) (QK.ak rfl (.pure rfl) ?_)))))))))))
     refine QK.nil ?_;change OL _ _ _ [_,_] _ _ _;refine OL.ak rfl (.pure rfl) (OL.n1 rfl (hK8 _ _ (PW.k8 0 1 5 6 7 8 9 85 rfl ?_)));refine PW.cond rfl (fun c85=>?_) (fun c85=>?_)
     ·try simp only[decide_eq_true_eq,decide_eq_false_iff_not,beq_iff_eq,bne_iff_ne,beq_eq_false_iff_ne,bne_eq_false_iff_eq,Bool.not_eq_true',Bool.not_eq_false',Bool.not_eq_true,ne_eq,Decidable.not_not] at c85
      refine PW.ops (OL.p2 rfl rfl (OL.x (Yields.ao rfl rfl (by omega) (by omega)) (OL.dp rfl (OL.x (Yields.mul64 rfl rfl (by omega) (by omega)) (OL.dp rfl (OL.x (Yields.ao rfl rfl (by omega) (by omega)) (OL.x (Yields.ao rfl rfl (by omega) (by omega)) (OL.x (Yields.ixO1 rfl rfl (show _=(((i+1)*w+(j+1):Nat):Int) from rfl) (by omega)) (OL.x (Yields.ld rfl (hrow.cell (tot:=((xs.length+1)*w)*1) (by simp) (i+1) (j+1) (by omega) (by omega) (by omega))) (OL.x (Yields.ao rfl rfl (by omega) (by omega)) ?_))))))))))
      refine OL.n1 rfl (hK7 _ _ (PW.k7 0 1 5 6 7 8 9 rfl (PW.ops (OL.p3 rfl rfl rfl (OL.x (Yields.mul64 rfl rfl (by omega) (by omega)) (OL.dp rfl (OL.x (Yields.ao rfl rfl (by omega) (by omega)) (OL.dp rfl ?_))))))))
      refine OL.x (Yields.ixO1 rfl rfl (show _=((i*w+j:Nat):Int) from rfl) (by omega)) ?_
      refine OL.c (OW.st (k:=0) rfl rfl rfl rfl (by have:=hrow.1;omega) rfl) ?_
      rintro _ _ rfl;refine OL.nil (hK5 _ _ (PW.k6 0 1 5 6 7 8 rfl (PW.ops (OL.dp rfl (OL.x (Yields.cH rfl rfl (by omega) (by omega)) (OL.n1 rfl ?_))))))
      refine af.mk (T'':=[(0,_),(1,_),(5,_),(6,_),(7,_),(8,_)]) (wi rfl) ?_;refine⟨j,by omega,j,_,⟨by omega,rfl,hrow.put hw (by omega) (by omega) ?_⟩,rfl,rfl⟩
      rw[eS (i:=i) (j:=j) (by omega) (by omega)]
      simp only[he,true_and,false_and,if_false];repeat' split
      all_goals omega
     try simp only[decide_eq_true_eq,decide_eq_false_iff_not,beq_iff_eq,bne_iff_ne,beq_eq_false_iff_ne,bne_eq_false_iff_eq,Bool.not_eq_true',Bool.not_eq_false',Bool.not_eq_true,ne_eq,Decidable.not_not] at c85
     refine PW.skip (hK7 _ _ (PW.k7 0 1 5 6 7 8 9 rfl (PW.ops (OL.p3 rfl rfl rfl (OL.x (Yields.mul64 rfl rfl (by omega) (by omega)) (OL.dp rfl (OL.x (Yields.ao rfl rfl (by omega) (by omega)) (OL.dp rfl (OL.x (Yields.ixO1 rfl rfl (show _=((i*w+j:Nat):Int) from rfl) (by omega)) ?_)))))))))
     refine OL.c (OW.st (k:=0) rfl rfl rfl rfl (by have:=hrow.1;omega) rfl) ?_
     rintro _ _ rfl;refine OL.nil (hK5 _ _ (PW.k6 0 1 5 6 7 8 rfl (PW.ops (OL.dp rfl (OL.x (Yields.cH rfl rfl (by omega) (by omega)) (OL.n1 rfl ?_))))))
     refine af.mk (T'':=[(0,_),(1,_),(5,_),(6,_),(7,_),(8,_)]) (wi rfl) ?_;refine⟨j,by omega,j,_,⟨by omega,rfl,hrow.put hw (by omega) (by omega) ?_⟩,rfl,rfl⟩
     rw[eS (i:=i) (j:=j) (by omega) (by omega)]
     simp only[he,true_and,false_and,if_false];repeat' split
     all_goals omega
    try simp only[decide_eq_true_eq,decide_eq_false_iff_not,beq_iff_eq,bne_iff_ne,beq_eq_false_iff_ne,bne_eq_false_iff_eq,Bool.not_eq_true',Bool.not_eq_false',Bool.not_eq_true,ne_eq,Decidable.not_not] at g71
    have he:¬xs[i] = ys[j]:=fun e=>g71 (by rw[e])
    refine QK.off rfl rfl (QK.off rfl rfl (QK.off rfl rfl (QK.off rfl rfl (QK.off rfl rfl (QK.off rfl rfl (QK.off rfl rfl (QK.off rfl rfl (QK.off rfl rfl (QK.off rfl rfl (QK.off rfl rfl (QK.off rfl rfl ?_)))))))))));refine QK.nil ?_;change OL _ _ _ [_,_] _ _ _;refine OL.off rfl rfl (OL.n1 rfl (hK8 _ _ (PW.k8 0 1 5 6 7 8 9 85 rfl (PW.ite (b:=false) rfl ?_))));rw[if_neg Bool.false_ne_true];refine PW.skip (hK7 _ _ (PW.k7 0 1 5 6 7 8 9 rfl (PW.ops (OL.p3 rfl rfl rfl (OL.x (Yields.mul64 rfl rfl (by omega) (by omega)) (OL.dp rfl (OL.x (Yields.ao rfl rfl (by omega) (by omega)) (OL.dp rfl (OL.x (Yields.ixO1 rfl rfl (show _=((i*w+j:Nat):Int) from rfl) (by omega)) ?_)))))))))
    refine OL.c (OW.st (k:=0) rfl rfl rfl rfl (by have:=hrow.1;omega) rfl) ?_
    rintro _ _ rfl;refine OL.nil (hK5 _ _ (PW.k6 0 1 5 6 7 8 rfl (PW.ops (OL.dp rfl (OL.x (Yields.cH rfl rfl (by omega) (by omega)) (OL.n1 rfl ?_))))))
    refine af.mk (T'':=[(0,_),(1,_),(5,_),(6,_),(7,_),(8,_)]) (wi rfl) ?_;refine⟨j,by omega,j,_,⟨by omega,rfl,hrow.put hw (by omega) (by omega) ?_⟩,rfl,rfl⟩
    rw[eS (i:=i) (j:=j) (by omega) (by omega)]
    simp only[he,true_and,false_and,if_false];repeat' split
    all_goals omega
   try simp only[decide_eq_true_eq,decide_eq_false_iff_not,beq_iff_eq,bne_iff_ne,beq_eq_false_iff_ne,bne_eq_false_iff_eq,Bool.not_eq_true',Bool.not_eq_false',Bool.not_eq_true,ne_eq,Decidable.not_not] at c52
   refine PW.skip (hK6 _ _ (PW.k7 0 1 5 6 7 8 9 rfl (PW.seq fun K9 hK9=>PW.seq fun K10 hK10=>PW.aQ mixed (QK.p2 rfl rfl (QK.x (Yields.dY rfl rfl rfl (by omega)) (QK.x (Yields.ld rfl (dD hx.cons (by omega))) (QK.p2 rfl rfl ?_)))))))
   refine QK.x (Yields.dY rfl rfl rfl (by omega)) (QK.x (Yields.ld rfl (dD hy.cons (by omega))) (QK.dp rfl ?_))
   refine QK.bool trivial (Yields.pure rfl) (fun g71=>?_) (fun g71=>?_)
   ·try simp only[decide_eq_true_eq,decide_eq_false_iff_not,beq_iff_eq,bne_iff_ne,beq_eq_false_iff_ne,bne_eq_false_iff_eq,Bool.not_eq_true',Bool.not_eq_false',Bool.not_eq_true,ne_eq,Decidable.not_not] at g71
    have he:xs[i] = ys[j]:=bytes_ext g71
    refine QK.ak rfl (.pure rfl) (QK.ak rfl (.pure rfl) (QK.ak rfl (.ao rfl rfl (by omega) (by omega)) (QK.ak rfl (.pure rfl) (QK.ak rfl (Yields.mul64 rfl rfl (by omega) (by omega)) (QK.ak rfl (.pure rfl) (QK.ak rfl (.ao rfl rfl (by omega) (by omega)) (QK.ak rfl (.ao rfl rfl (by omega) (by omega)) (QK.ak rfl (Yields.ixO1 rfl rfl (show _=(((i+1)*w+(j+1):Nat):Int) from rfl) (by omega)) (QK.ak rfl (.ld rfl (hrow.cell (tot:=((xs.length+1)*w)*1) (by simp) (i+1) (j+1) (by omega) (by omega) (by omega))) (QK.ak rfl (.ao rfl rfl (by omega) (by omega)) (QK.ak rfl (.pure rfl) ?_)))))))))))
    refine QK.nil ?_;change OL _ _ _ [_,_] _ _ _;refine OL.ak rfl (.pure rfl) (OL.n1 rfl (hK10 _ _ (PW.k8 0 1 5 6 7 8 9 85 rfl ?_)));refine PW.cond rfl (fun c85=>?_) (fun c85=>?_)
    ·try simp only[decide_eq_true_eq,decide_eq_false_iff_not,beq_iff_eq,bne_iff_ne,beq_eq_false_iff_ne,bne_eq_false_iff_eq,Bool.not_eq_true',Bool.not_eq_false',Bool.not_eq_true,ne_eq,Decidable.not_not] at c85
     refine PW.ops (OL.p2 rfl rfl (OL.x (Yields.ao rfl rfl (by omega) (by omega)) (OL.dp rfl (OL.x (Yields.mul64 rfl rfl (by omega) (by omega)) (OL.dp rfl (OL.x (Yields.ao rfl rfl (by omega) (by omega)) (OL.x (Yields.ao rfl rfl (by omega) (by omega)) (OL.x (Yields.ixO1 rfl rfl (show _=(((i+1)*w+(j+1):Nat):Int) from rfl) (by omega)) (OL.x (Yields.ld rfl (hrow.cell (tot:=((xs.length+1)*w)*1) (by simp) (i+1) (j+1) (by omega) (by omega) (by omega))) (OL.x (Yields.ao rfl rfl (by omega) (by omega)) ?_))))))))))
     refine OL.n1 rfl (hK9 _ _ (PW.k7 0 1 5 6 7 8 9 rfl (PW.ops (OL.p3 rfl rfl rfl (OL.x (Yields.mul64 rfl rfl (by omega) (by omega)) (OL.dp rfl (OL.x (Yields.ao rfl rfl (by omega) (by omega)) (OL.dp rfl ?_))))))))
     refine OL.x (Yields.ixO1 rfl rfl (show _=((i*w+j:Nat):Int) from rfl) (by omega)) ?_
     refine OL.c (OW.st (k:=0) rfl rfl rfl rfl (by have:=hrow.1;omega) rfl) ?_
     rintro _ _ rfl;refine OL.nil (hK5 _ _ (PW.k6 0 1 5 6 7 8 rfl (PW.ops (OL.dp rfl (OL.x (Yields.cH rfl rfl (by omega) (by omega)) (OL.n1 rfl ?_))))))
     refine af.mk (T'':=[(0,_),(1,_),(5,_),(6,_),(7,_),(8,_)]) (wi rfl) ?_;refine⟨j,by omega,j,_,⟨by omega,rfl,hrow.put hw (by omega) (by omega) ?_⟩,rfl,rfl⟩
     rw[eS (i:=i) (j:=j) (by omega) (by omega)]
     simp only[he,true_and,false_and,if_false];repeat' split
     all_goals omega
    try simp only[decide_eq_true_eq,decide_eq_false_iff_not,beq_iff_eq,bne_iff_ne,beq_eq_false_iff_ne,bne_eq_false_iff_eq,Bool.not_eq_true',Bool.not_eq_false',Bool.not_eq_true,ne_eq,Decidable.not_not] at c85
    refine PW.skip (hK9 _ _ (PW.k7 0 1 5 6 7 8 9 rfl (PW.ops (OL.p3 rfl rfl rfl (OL.x (Yields.mul64 rfl rfl (by omega) (by omega)) (OL.dp rfl (OL.x (Yields.ao rfl rfl (by omega) (by omega)) (OL.dp rfl (OL.x (Yields.ixO1 rfl rfl (show _=((i*w+j:Nat):Int) from rfl) (by omega)) ?_)))))))))
    refine OL.c (OW.st (k:=0) rfl rfl rfl rfl (by have:=hrow.1;omega) rfl) ?_
    rintro _ _ rfl;refine OL.nil (hK5 _ _ (PW.k6 0 1 5 6 7 8 rfl (PW.ops (OL.dp rfl (OL.x (Yields.cH rfl rfl (by omega) (by omega)) (OL.n1 rfl ?_))))))
    refine af.mk (T'':=[(0,_),(1,_),(5,_),(6,_),(7,_),(8,_)]) (wi rfl) ?_;refine⟨j,by omega,j,_,⟨by omega,rfl,hrow.put hw (by omega) (by omega) ?_⟩,rfl,rfl⟩
    rw[eS (i:=i) (j:=j) (by omega) (by omega)]
    simp only[he,true_and,false_and,if_false];repeat' split
    all_goals omega
   try simp only[decide_eq_true_eq,decide_eq_false_iff_not,beq_iff_eq,bne_iff_ne,beq_eq_false_iff_ne,bne_eq_false_iff_eq,Bool.not_eq_true',Bool.not_eq_false',Bool.not_eq_true,ne_eq,Decidable.not_not] at g71
   have he:¬xs[i] = ys[j]:=fun e=>g71 (by rw[e])
   refine QK.off rfl rfl (QK.off rfl rfl (QK.off rfl rfl (QK.off rfl rfl (QK.off rfl rfl (QK.off rfl rfl (QK.off rfl rfl (QK.off rfl rfl (QK.off rfl rfl (QK.off rfl rfl (QK.off rfl rfl (QK.off rfl rfl ?_)))))))))));refine QK.nil ?_;change OL _ _ _ [_,_] _ _ _;refine OL.off rfl rfl (OL.n1 rfl (hK10 _ _ (PW.k8 0 1 5 6 7 8 9 85 rfl (PW.ite (b:=false) rfl ?_))));rw[if_neg Bool.false_ne_true];refine PW.skip (hK9 _ _ (PW.k7 0 1 5 6 7 8 9 rfl (PW.ops (OL.p3 rfl rfl rfl (OL.x (Yields.mul64 rfl rfl (by omega) (by omega)) (OL.dp rfl (OL.x (Yields.ao rfl rfl (by omega) (by omega)) (OL.dp rfl (OL.x (Yields.ixO1 rfl rfl (show _=((i*w+j:Nat):Int) from rfl) (by omega)) ?_)))))))))
   refine OL.c (OW.st (k:=0) rfl rfl rfl rfl (by have:=hrow.1;omega) rfl) ?_
   rintro _ _ rfl;refine OL.nil (hK5 _ _ (PW.k6 0 1 5 6 7 8 rfl (PW.ops (OL.dp rfl (OL.x (Yields.cH rfl rfl (by omega) (by omega)) (OL.n1 rfl ?_))))))
   refine af.mk (T'':=[(0,_),(1,_),(5,_),(6,_),(7,_),(8,_)]) (wi rfl) ?_;refine⟨j,by omega,j,_,⟨by omega,rfl,hrow.put hw (by omega) (by omega) ?_⟩,rfl,rfl⟩
   rw[eS (i:=i) (j:=j) (by omega) (by omega)]
   simp only[he,true_and,false_and,if_false];repeat' split
   all_goals omega
  try simp only[decide_eq_true_eq,decide_eq_false_iff_not,beq_iff_eq,bne_iff_ne,beq_eq_false_iff_ne,bne_eq_false_iff_eq,Bool.not_eq_true',Bool.not_eq_false',Bool.not_eq_true,ne_eq,Decidable.not_not] at c30
  refine PW.exit (hK3 _ _ (PW.k5 0 1 5 6 7 rfl (PW.ops (OL.dp rfl (OL.x (Yields.cH rfl rfl (by omega) (by omega)) (OL.n1 rfl ?_))))))
  refine af.mk (T'':=[(0,_),(1,_),(5,_),(6,_),(7,_)]) (wi rfl) ?_;obtain rfl:jj=0:=by omega
  exact⟨i,by omega,i,c,⟨by omega,rfl,hrow⟩,rfl,rfl⟩
 try simp only[decide_eq_true_eq,decide_eq_false_iff_not,beq_iff_eq,bne_iff_ne,beq_eq_false_iff_ne,bne_eq_false_iff_eq,Bool.not_eq_true',Bool.not_eq_false',Bool.not_eq_true,ne_eq,Decidable.not_not] at c23
 refine PW.exit (hK1 _ _ (PW.k1 6 rfl (PW.s2 rfl rfl (PW.k1 4 rfl ?_))));refine PW.ret (zR rfl ?_);obtain rfl:ii=0:=by omega
 subst hw;exact⟨r18,c,rfl,rfl,hrow0⟩
end Go.Proofs.My

namespace Go.Proofs.My
open Go.SL Go.RowKit Go.Proofs.Tryz
open Go.MyPlain
set_option maxHeartbeats 1000000
theorem rdiff_fc {w0:World}{S:SS}{A B:Option Addr}{ca cb:Nat}{xs ys:List ByteArray}(hx:Rd w0 S A (xs.map .string)) (hy:Rd w0 S B (ys.map .string)) (hX:xs.length<=1024) (hY:ys.length<=1024) :
  FC prog w0 107 [.slice A xs.length ca,.slice B ys.length cb] S (fun v S'=>∃u seg,v=.tuple #[u,.int .i64 0]/\S'=seg::S/\aV 186 3 u (scr xs ys).length (stsC (scr xs ys)) seg):=by
 obtain⟨w,hw⟩:∃w,w=ys.length+1:=⟨_,rfl⟩;have hnw:(xs.length+1)*w<=1025*1025:=Nat.mul_le_mul (by omega) (by omega)
 refine FC.ofD known107 (by simp) ?_
 unfold pc107;simp only[bo];refine PW.s2 rfl rfl (PW.k2 0 1 rfl (PW.seq fun K1 hK1=>PW.ae (OL.p3 rfl rfl rfl ?_)))
 refine OL.bool trivial (Yields.pure rfl) (fun g14=>?_) (fun g14=>?_)
 ·try simp only[decide_eq_true_eq,decide_eq_false_iff_not,beq_iff_eq,bne_iff_ne,beq_eq_false_iff_ne,bne_eq_false_iff_eq,Bool.not_eq_true',Bool.not_eq_false',Bool.not_eq_true,ne_eq,Decidable.not_not] at g14
  exfalso;omega -- done
 try simp only[decide_eq_true_eq,decide_eq_false_iff_not,beq_iff_eq,bne_iff_ne,beq_eq_false_iff_ne,bne_eq_false_iff_eq,Bool.not_eq_true',Bool.not_eq_false',Bool.not_eq_true,ne_eq,Decidable.not_not] at g14
 refine OL.ak rfl (.pure rfl) (OL.ak rfl (.pure rfl) (OL.ak rfl (.pure rfl) (OL.n1 rfl (PW.k3 0 1 18 rfl ?_))));refine PW.cond rfl (fun c18=>?_) (fun c18=>?_)
 ·try simp only[decide_eq_true_eq,decide_eq_false_iff_not,beq_iff_eq,bne_iff_ne,beq_eq_false_iff_ne,bne_eq_false_iff_eq,Bool.not_eq_true',Bool.not_eq_false',Bool.not_eq_true,ne_eq,Decidable.not_not] at c18
  exfalso;omega -- done
 try simp only[decide_eq_true_eq,decide_eq_false_iff_not,beq_iff_eq,bne_iff_ne,beq_eq_false_iff_ne,bne_eq_false_iff_eq,Bool.not_eq_true',Bool.not_eq_false',Bool.not_eq_true,ne_eq,Decidable.not_not] at c18
 refine PW.skip (hK1 _ _ (PW.k2 0 1 rfl (PW.ae (OL.p2 rfl rfl (OL.l rfl (keeps_fc hx hy hX hY) ?_)))));rintro _ _ ⟨r21,c,rfl,rfl,hrow⟩;rw[<- hw] at hrow ⊢;refine OL.n1 rfl (PW.k3 0 1 6 rfl (PW.ae (OL.p2 rfl rfl (OL.x (Yields.ao rfl rfl (by omega) (by omega)) ?_))))
 rw[show((ys.length:Int)+1)=(w:Int) by rw[hw];rfl]
 refine OL.n1 rfl (PW.k4 0 1 6 7 rfl (PW.s1 rfl (PW.k5 0 1 6 7 8 rfl (PW.s1 rfl (PW.k6 0 1 6 7 8 9 rfl (PW.ae ?_))))));refine OL.nilseg (OL.n1 rfl (PW.k7 0 1 6 7 8 9 10 rfl (PW.seq fun K2 hK2=>PW.block (PW.k7 0 1 6 7 8 9 10 rfl ?_))))
 refine PW.aR (I:=fun m T S'=>∃(i j:Nat) (o:List (Int×Int×Int)) (v:Value) (seg:bD),(i<=xs.length/\j<=ys.length/\m=(xs.length-i)+(ys.length-j)/\o++rest xs ys i j=scr xs ys/\o.length<=i+j/\aV 186 3 v o.length (stsC o) seg)/\T=([(0,.slice A xs.length ca),(1,.slice B ys.length cb),(6,.slice (some ⟨r21,0,none⟩) ((xs.length+1)*w) ((xs.length+1)*w)),(7,.int .i64 (w:Int)),(8,.int .i64 i),(9,.int .i64 j),(10,v)]:TT)/\S'=seg::[(r21,.cells c 3 (((xs.length+1)*w)*1))]::S) (m:=xs.length+ys.length) ⟨0,0,[],_,[],⟨by omega,by omega,by omega,by rw[rest_zero];rfl,by simp,by simpa[stsC] using aV.nil 186 3⟩,rfl,rfl⟩ ?_
 rintro m _ _ ⟨i,j,o,v,seg,⟨hi,hj,hm,hrest,holen,hsl⟩,rfl,rfl⟩;refine PW.seq fun K3 hK3=>PW.ae (OL.p4 rfl rfl rfl rfl ?_)
 refine OL.bool trivial (Yields.pure rfl) (fun g29=>?_) (fun g29=>?_)
 ·try simp only[decide_eq_true_eq,decide_eq_false_iff_not,beq_iff_eq,bne_iff_ne,beq_eq_false_iff_ne,bne_eq_false_iff_eq,Bool.not_eq_true',Bool.not_eq_false',Bool.not_eq_true,ne_eq,Decidable.not_not] at g29
  refine OL.off rfl rfl (OL.off rfl rfl (OL.off rfl rfl (OL.off rfl rfl (OL.n1 rfl (PW.k8 0 1 6 7 8 9 10 34 rfl (PW.ite (b:=true) rfl ?_))))));rw[if_pos rfl];refine PW.skip (hK3 _ _ (PW.k7 0 1 6 7 8 9 10 rfl (PW.block (PW.seq fun K4 hK4=>PW.aQ mixed (QK.p4 rfl rfl rfl rfl ?_)))))
  refine QK.bool trivial (Yields.pure rfl) (fun g39=>?_) (fun g39=>?_)
  ·try simp only[decide_eq_true_eq,decide_eq_false_iff_not,beq_iff_eq,bne_iff_ne,beq_eq_false_iff_ne,bne_eq_false_iff_eq,Bool.not_eq_true',Bool.not_eq_false',Bool.not_eq_true,ne_eq,Decidable.not_not] at g39
   obtain⟨aX,rfl⟩:=hx.some (strs_ne (by omega))
   refine QK.ak rfl (.pure rfl) (QK.ak rfl (.pure rfl) (QK.ak rfl (.pure rfl) (QK.ak rfl (.pure rfl) (QK.dp rfl ?_))));refine QK.bool trivial (Yields.pure rfl) (fun g45=>?_) (fun g45=>?_)
   ·try simp only[decide_eq_true_eq,decide_eq_false_iff_not,beq_iff_eq,bne_iff_ne,beq_eq_false_iff_ne,bne_eq_false_iff_eq,Bool.not_eq_true',Bool.not_eq_false',Bool.not_eq_true,ne_eq,Decidable.not_not] at g45
    obtain⟨aY,rfl⟩:=hy.some (strs_ne (by omega))
    refine QK.ak rfl (.pure rfl) (QK.ak rfl (.pure rfl) (QK.ak rfl (.dY rfl rfl rfl (by omega)) (QK.ak rfl (.ld rfl (dD hx.cons.cons (by omega))) (QK.ak rfl (.pure rfl) (QK.ak rfl (.pure rfl) (QK.ak rfl (.dY rfl rfl rfl (by omega)) (QK.ak rfl (.ld rfl (dD hy.cons.cons (by omega))) (QK.nil ?_))))))))
    change OL _ _ _ [_,_] _ _ _;refine OL.ak rfl (.pure rfl) (OL.n1 rfl (hK4 _ _ (PW.k8 0 1 6 7 8 9 10 55 rfl ?_)));refine PW.cond rfl (fun c55=>?_) (fun c55=>?_)
    ·try simp only[decide_eq_true_eq,decide_eq_false_iff_not,beq_iff_eq,bne_iff_ne,beq_eq_false_iff_ne,bne_eq_false_iff_eq,Bool.not_eq_true',Bool.not_eq_false',Bool.not_eq_true,ne_eq,Decidable.not_not] at c55
     refine PW.ae (OL.p3 rfl rfl rfl (OL.x (Yields.build rfl) ?_));apply OL.bV (k:=0)
     ·rfl
     ·rfl
     ·rfl
     ·rfl
     ·rfl
     ·rfl
     ·exact hsl
     ·rfl
     ·omega
     ·unfold maxLen;omega
     intro v61 seg61 hsl61;refine OL.n1 rfl (PW.k7 0 1 6 7 8 9 10 rfl (PW.ae (OL.dp rfl (OL.x (Yields.ao rfl rfl (by omega) (by omega)) (OL.n1 rfl (PW.k7 0 1 6 7 8 9 10 rfl (PW.ops (OL.dp rfl (OL.x (Yields.ao rfl rfl (by omega) (by omega)) ?_)))))))))
     refine OL.n1 rfl ?_;refine af.mk (T'':=[(0,_),(1,_),(6,_),(7,_),(8,_),(9,_),(10,_)]) (wi rfl) ?_;refine⟨(xs.length-(i+1))+(ys.length-(j+1)),by omega,i+1,j+1,o++[(0,(i:Int),(j:Int))],v61,seg61,⟨by omega,by omega,rfl,?_,by simp;omega,?_⟩,rfl,rfl⟩
     ·rw[<- hrest,rest_keep (i:=i) (j:=j) (by omega) (by omega) (bytes_ext c55),List.append_assoc];rfl
     rw[dv,List.length_append];exact hsl61
    try simp only[decide_eq_true_eq,decide_eq_false_iff_not,beq_iff_eq,bne_iff_ne,beq_eq_false_iff_ne,bne_eq_false_iff_eq,Bool.not_eq_true',Bool.not_eq_false',Bool.not_eq_true,ne_eq,Decidable.not_not] at c55
    refine PW.seq fun K5 hK5=>PW.aQ mixed (QK.p4 rfl rfl rfl rfl ?_)
    refine QK.bool trivial (Yields.pure rfl) (fun g70=>?_) (fun g70=>?_)
    ·try simp only[decide_eq_true_eq,decide_eq_false_iff_not,beq_iff_eq,bne_iff_ne,beq_eq_false_iff_ne,bne_eq_false_iff_eq,Bool.not_eq_true',Bool.not_eq_false',Bool.not_eq_true,ne_eq,Decidable.not_not] at g70
     refine QK.ak rfl (.pure rfl) (QK.ak rfl (.pure rfl) (QK.ak rfl (.pure rfl) (QK.ak rfl (.pure rfl) ?_)));refine QK.bool rfl (Yields.pure rfl) (fun g75=>?_) (fun g75=>?_)
     ·(try simp only[decide_eq_true_eq,decide_eq_false_iff_not,beq_iff_eq,bne_iff_ne,beq_eq_false_iff_ne,bne_eq_false_iff_eq,Bool.not_eq_true',Bool.not_eq_false',Bool.not_eq_true,ne_eq,Decidable.not_not] at g75)<;>(exfalso;first|omega|(simp at g75;done)|(revert g75;simp;done))
     try simp only[decide_eq_true_eq,decide_eq_false_iff_not,beq_iff_eq,bne_iff_ne,beq_eq_false_iff_ne,bne_eq_false_iff_eq,Bool.not_eq_true',Bool.not_eq_false',Bool.not_eq_true,ne_eq,Decidable.not_not] at g75
     have hp1:(i+1)*w=i*w+w:=Nat.succ_mul ..
     have hp2:(i+1)*w+w<=(xs.length+1)*w:=by rw[<- Nat.succ_mul];exact Nat.mul_le_mul_right _ (by omega)
     have hc1:(i:Int)*(w:Int)=((i*w:Nat):Int):=rfl
     have hc2:((i:Int)+1)*(w:Int)=(((i+1)*w:Nat):Int):=rfl
     refine QK.ak rfl (.pure rfl) (QK.ak rfl (.pure rfl) (QK.ak rfl (.ao rfl rfl (by omega) (by omega)) (QK.ak rfl (.pure rfl) (QK.ak rfl (Yields.mul64 rfl rfl (by omega) (by omega)) (QK.ak rfl (.pure rfl) (QK.ak rfl (.ao rfl rfl (by omega) (by omega)) (QK.ak rfl (Yields.ixO1 rfl rfl (show _=(((i+1)*w+j:Nat):Int) from rfl) (by omega)) (QK.ak rfl (.ld rfl (hrow.cell (tot:=((xs.length+1)*w)*1) (by simp) (i+1) j (by omega) (by omega) (by omega))) (QK.ak rfl (.pure rfl) (QK.ak rfl (.pure rfl) (QK.ak rfl (.pure rfl) ?_)))))))))))
     refine QK.ak rfl (Yields.mul64 rfl rfl (by omega) (by omega)) (QK.ak rfl (.pure rfl) (QK.ak rfl (.ao rfl rfl (by omega) (by omega)) (QK.ak rfl (.ao rfl rfl (by omega) (by omega)) (QK.ak rfl (Yields.ixO1 rfl rfl (show _=((i*w+(j+1):Nat):Int) from rfl) (by omega)) (QK.ak rfl (.ld rfl (hrow.cell (tot:=((xs.length+1)*w)*1) (by simp) i (j+1) (by omega) (by omega) (by omega))) (QK.nil ?_))))))
     change OL _ _ _ [_,_,_] _ _ _;refine OL.ak rfl (.pure rfl) (OL.ak rfl (.pure rfl) (OL.n1 rfl (hK5 _ _ (PW.k8 0 1 6 7 8 9 10 96 rfl ?_))));refine PW.cond rfl (fun c96=>?_) (fun c96=>?_)
     ·try simp only[decide_eq_true_eq,decide_eq_false_iff_not,beq_iff_eq,bne_iff_ne,beq_eq_false_iff_ne,bne_eq_false_iff_eq,Bool.not_eq_true',Bool.not_eq_false',Bool.not_eq_true,ne_eq,Decidable.not_not] at c96
      refine PW.ae (OL.p2 rfl rfl (OL.x (Yields.build rfl) ?_));apply OL.bV (k:=0)
      ·rfl
      ·rfl
      ·rfl
      ·rfl
      ·rfl
      ·rfl
      ·exact hsl
      ·rfl
      ·omega
      ·unfold maxLen;omega
      intro v101 seg101 hsl101;refine OL.n1 rfl (PW.k7 0 1 6 7 8 9 10 rfl (PW.ops (OL.dp rfl (OL.x (Yields.ao rfl rfl (by omega) (by omega)) (OL.n1 rfl ?_)))))
      refine af.mk (T'':=[(0,_),(1,_),(6,_),(7,_),(8,_),(9,_),(10,_)]) (wi rfl) ?_;refine⟨(xs.length-(i+1))+(ys.length-(j)),by omega,i+1,j,o++[(1,(i:Int),0)],v101,seg101,⟨by omega,by omega,rfl,?_,by simp;omega,?_⟩,rfl,rfl⟩
      ·rw[<- hrest,rest_gone (i:=i) (j:=j) (by omega) (by omega) (fun h=>by first|omega|exact⟨fun e=>c55 (by rw[e]),by omega⟩),List.append_assoc];rfl
      rw[dv,List.length_append];exact hsl101
     try simp only[decide_eq_true_eq,decide_eq_false_iff_not,beq_iff_eq,bne_iff_ne,beq_eq_false_iff_ne,bne_eq_false_iff_eq,Bool.not_eq_true',Bool.not_eq_false',Bool.not_eq_true,ne_eq,Decidable.not_not] at c96
     refine PW.ae (OL.p2 rfl rfl (OL.x (Yields.build rfl) ?_));apply OL.bV (k:=0)
     ·rfl
     ·rfl
     ·rfl
     ·rfl
     ·rfl
     ·rfl
     ·exact hsl
     ·rfl
     ·omega
     ·unfold maxLen;omega
     intro v108 seg108 hsl108;refine OL.n1 rfl (PW.k7 0 1 6 7 8 9 10 rfl (PW.ops (OL.dp rfl (OL.x (Yields.ao rfl rfl (by omega) (by omega)) (OL.n1 rfl ?_)))))
     refine af.mk (T'':=[(0,_),(1,_),(6,_),(7,_),(8,_),(9,_),(10,_)]) (wi rfl) ?_;refine⟨(xs.length-(i))+(ys.length-(j+1)),by omega,i,j+1,o++[(2,0,(j:Int))],v108,seg108,⟨by omega,by omega,rfl,?_,by simp;omega,?_⟩,rfl,rfl⟩
     ·rw[<- hrest,rest_new (i:=i) (j:=j) (by omega) (by omega) (fun h=>by first|omega|exact⟨fun e=>c55 (by rw[e]),by omega⟩),List.append_assoc];rfl
     rw[dv,List.length_append];exact hsl108
    (try simp only[decide_eq_true_eq,decide_eq_false_iff_not,beq_iff_eq,bne_iff_ne,beq_eq_false_iff_ne,bne_eq_false_iff_eq,Bool.not_eq_true',Bool.not_eq_false',Bool.not_eq_true,ne_eq,Decidable.not_not] at g70)<;>(exfalso;first|omega|(simp at g70;done)|(revert g70;simp;done))
   try simp only[decide_eq_true_eq,decide_eq_false_iff_not,beq_iff_eq,bne_iff_ne,beq_eq_false_iff_ne,bne_eq_false_iff_eq,Bool.not_eq_true',Bool.not_eq_false',Bool.not_eq_true,ne_eq,Decidable.not_not] at g45
   refine QK.off rfl rfl (QK.off rfl rfl (QK.off rfl rfl (QK.off rfl rfl (QK.off rfl rfl (QK.off rfl rfl (QK.off rfl rfl (QK.off rfl rfl (QK.nil ?_))))))));change OL _ _ _ [_,_] _ _ _;refine OL.off rfl rfl (OL.n1 rfl (hK4 _ _ (PW.k8 0 1 6 7 8 9 10 55 rfl (PW.ite (b:=false) rfl ?_))));rw[if_neg Bool.false_ne_true];refine PW.seq fun K6 hK6=>PW.aQ mixed (QK.p4 rfl rfl rfl rfl ?_)
   refine QK.bool trivial (Yields.pure rfl) (fun g70=>?_) (fun g70=>?_)
   ·try simp only[decide_eq_true_eq,decide_eq_false_iff_not,beq_iff_eq,bne_iff_ne,beq_eq_false_iff_ne,bne_eq_false_iff_eq,Bool.not_eq_true',Bool.not_eq_false',Bool.not_eq_true,ne_eq,Decidable.not_not] at g70
    refine QK.ak rfl (.pure rfl) (QK.ak rfl (.pure rfl) (QK.ak rfl (.pure rfl) (QK.ak rfl (.pure rfl) ?_)));refine QK.bool rfl (Yields.pure rfl) (fun g75=>?_) (fun g75=>?_)
    ·try simp only[decide_eq_true_eq,decide_eq_false_iff_not,beq_iff_eq,bne_iff_ne,beq_eq_false_iff_ne,bne_eq_false_iff_eq,Bool.not_eq_true',Bool.not_eq_false',Bool.not_eq_true,ne_eq,Decidable.not_not] at g75
     refine QK.off rfl rfl (QK.off rfl rfl (QK.off rfl rfl (QK.off rfl rfl (QK.off rfl rfl (QK.off rfl rfl (QK.off rfl rfl (QK.off rfl rfl (QK.off rfl rfl (QK.off rfl rfl (QK.off rfl rfl (QK.off rfl rfl ?_)))))))))));refine QK.off rfl rfl (QK.off rfl rfl (QK.off rfl rfl (QK.off rfl rfl (QK.off rfl rfl (QK.off rfl rfl (QK.nil ?_))))));change OL _ _ _ [_,_,_] _ _ _;refine OL.off rfl rfl (OL.ak rfl (.pure rfl) (OL.n1 rfl (hK6 _ _ (PW.k8 0 1 6 7 8 9 10 96 rfl (PW.ite (b:=true) rfl ?_)))));rw[if_pos rfl];refine PW.ae (OL.p2 rfl rfl (OL.x (Yields.build rfl) ?_));apply OL.bV (k:=0)
     ·rfl
     ·rfl
     ·rfl
     ·rfl
     ·rfl
     ·rfl
     ·exact hsl
     ·rfl
     ·omega
     ·unfold maxLen;omega
     intro v101 seg101 hsl101;refine OL.n1 rfl (PW.k7 0 1 6 7 8 9 10 rfl (PW.ops (OL.dp rfl (OL.x (Yields.ao rfl rfl (by omega) (by omega)) (OL.n1 rfl ?_)))))
     refine af.mk (T'':=[(0,_),(1,_),(6,_),(7,_),(8,_),(9,_),(10,_)]) (wi rfl) ?_;refine⟨(xs.length-(i+1))+(ys.length-(j)),by omega,i+1,j,o++[(1,(i:Int),0)],v101,seg101,⟨by omega,by omega,rfl,?_,by simp;omega,?_⟩,rfl,rfl⟩
     ·rw[<- hrest,rest_gone (i:=i) (j:=j) (by omega) (by omega) (fun h=>by first|omega|exact⟨fun e=>c55 (by rw[e]),by omega⟩),List.append_assoc];rfl
     rw[dv,List.length_append];exact hsl101
    (try simp only[decide_eq_true_eq,decide_eq_false_iff_not,beq_iff_eq,bne_iff_ne,beq_eq_false_iff_ne,bne_eq_false_iff_eq,Bool.not_eq_true',Bool.not_eq_false',Bool.not_eq_true,ne_eq,Decidable.not_not] at g75)<;>(exfalso;first|omega|(simp at g75;done)|(revert g75;simp;done))
   (try simp only[decide_eq_true_eq,decide_eq_false_iff_not,beq_iff_eq,bne_iff_ne,beq_eq_false_iff_ne,bne_eq_false_iff_eq,Bool.not_eq_true',Bool.not_eq_false',Bool.not_eq_true,ne_eq,Decidable.not_not] at g70)<;>(exfalso;first|omega|(simp at g70;done)|(revert g70;simp;done))
  (try simp only[decide_eq_true_eq,decide_eq_false_iff_not,beq_iff_eq,bne_iff_ne,beq_eq_false_iff_ne,bne_eq_false_iff_eq,Bool.not_eq_true',Bool.not_eq_false',Bool.not_eq_true,ne_eq,Decidable.not_not] at g39)<;>(exfalso;first|omega|(simp at g39;done)|(revert g39;simp;done))
 try simp only[decide_eq_true_eq,decide_eq_false_iff_not,beq_iff_eq,bne_iff_ne,beq_eq_false_iff_ne,bne_eq_false_iff_eq,Bool.not_eq_true',Bool.not_eq_false',Bool.not_eq_true,ne_eq,Decidable.not_not] at g29
 refine OL.ak rfl (.pure rfl) (OL.ak rfl (.pure rfl) (OL.ak rfl (.pure rfl) (OL.ak rfl (.pure rfl) (OL.n1 rfl (PW.k8 0 1 6 7 8 9 10 34 rfl ?_)))));refine PW.cond rfl (fun c34=>?_) (fun c34=>?_)
 ·try simp only[decide_eq_true_eq,decide_eq_false_iff_not,beq_iff_eq,bne_iff_ne,beq_eq_false_iff_ne,bne_eq_false_iff_eq,Bool.not_eq_true',Bool.not_eq_false',Bool.not_eq_true,ne_eq,Decidable.not_not] at c34
  refine PW.skip (hK3 _ _ (PW.k7 0 1 6 7 8 9 10 rfl (PW.block (PW.seq fun K7 hK7=>PW.aQ mixed (QK.p4 rfl rfl rfl rfl ?_)))))
  refine QK.bool trivial (Yields.pure rfl) (fun g39=>?_) (fun g39=>?_)
  ·(try simp only[decide_eq_true_eq,decide_eq_false_iff_not,beq_iff_eq,bne_iff_ne,beq_eq_false_iff_ne,bne_eq_false_iff_eq,Bool.not_eq_true',Bool.not_eq_false',Bool.not_eq_true,ne_eq,Decidable.not_not] at g39)<;>(exfalso;first|omega|(simp at g39;done)|(revert g39;simp;done))
  try simp only[decide_eq_true_eq,decide_eq_false_iff_not,beq_iff_eq,bne_iff_ne,beq_eq_false_iff_ne,bne_eq_false_iff_eq,Bool.not_eq_true',Bool.not_eq_false',Bool.not_eq_true,ne_eq,Decidable.not_not] at g39
  refine QK.off rfl rfl (QK.off rfl rfl (QK.off rfl rfl (QK.off rfl rfl (QK.p2 rfl rfl (QK.off rfl rfl (QK.off rfl rfl (QK.off rfl rfl (QK.off rfl rfl (QK.off rfl rfl (QK.off rfl rfl ?_))))))))));refine QK.off rfl rfl (QK.off rfl rfl (QK.nil ?_));change OL _ _ _ [_,_] _ _ _;refine OL.off rfl rfl (OL.n1 rfl (hK7 _ _ (PW.k8 0 1 6 7 8 9 10 55 rfl (PW.ite (b:=false) rfl ?_))));rw[if_neg Bool.false_ne_true];refine PW.seq fun K8 hK8=>PW.aQ mixed (QK.p4 rfl rfl rfl rfl ?_)
  refine QK.bool trivial (Yields.pure rfl) (fun g70=>?_) (fun g70=>?_)
  ·(try simp only[decide_eq_true_eq,decide_eq_false_iff_not,beq_iff_eq,bne_iff_ne,beq_eq_false_iff_ne,bne_eq_false_iff_eq,Bool.not_eq_true',Bool.not_eq_false',Bool.not_eq_true,ne_eq,Decidable.not_not] at g70)<;>(exfalso;first|omega|(simp at g70;done)|(revert g70;simp;done))
  try simp only[decide_eq_true_eq,decide_eq_false_iff_not,beq_iff_eq,bne_iff_ne,beq_eq_false_iff_ne,bne_eq_false_iff_eq,Bool.not_eq_true',Bool.not_eq_false',Bool.not_eq_true,ne_eq,Decidable.not_not] at g70
  refine QK.off rfl rfl (QK.off rfl rfl (QK.off rfl rfl (QK.off rfl rfl (QK.off rfl rfl (QK.off rfl rfl (QK.off rfl rfl (QK.off rfl rfl (QK.off rfl rfl (QK.off rfl rfl (QK.off rfl rfl (QK.off rfl rfl ?_)))))))))));refine QK.off rfl rfl (QK.off rfl rfl (QK.off rfl rfl (QK.off rfl rfl (QK.off rfl rfl (QK.off rfl rfl (QK.off rfl rfl (QK.off rfl rfl (QK.off rfl rfl (QK.off rfl rfl (QK.off rfl rfl (QK.nil ?_)))))))))));change OL _ _ _ [_,_,_] _ _ _;refine OL.off rfl rfl (OL.off rfl rfl (OL.n1 rfl (hK8 _ _ (PW.k8 0 1 6 7 8 9 10 96 rfl (PW.ite (b:=false) rfl ?_)))));rw[if_neg Bool.false_ne_true];refine PW.ae (OL.p2 rfl rfl (OL.x (Yields.build rfl) ?_));apply OL.bV (k:=0)
  ·rfl
  ·rfl
  ·rfl
  ·rfl
  ·rfl
  ·rfl
  ·exact hsl
  ·rfl
  ·omega
  ·unfold maxLen;omega
  intro v108 seg108 hsl108;refine OL.n1 rfl (PW.k7 0 1 6 7 8 9 10 rfl (PW.ops (OL.dp rfl (OL.x (Yields.ao rfl rfl (by omega) (by omega)) (OL.n1 rfl ?_)))))
  refine af.mk (T'':=[(0,_),(1,_),(6,_),(7,_),(8,_),(9,_),(10,_)]) (wi rfl) ?_;refine⟨(xs.length-(i))+(ys.length-(j+1)),by omega,i,j+1,o++[(2,0,(j:Int))],v108,seg108,⟨by omega,by omega,rfl,?_,by simp;omega,?_⟩,rfl,rfl⟩
  ·rw[<- hrest,rest_new (i:=i) (j:=j) (by omega) (by omega) (fun h=>by first|omega|exact⟨fun e=>c55 (by rw[e]),by omega⟩),List.append_assoc];rfl
  rw[dv,List.length_append];exact hsl108
 try simp only[decide_eq_true_eq,decide_eq_false_iff_not,beq_iff_eq,bne_iff_ne,beq_eq_false_iff_ne,bne_eq_false_iff_eq,Bool.not_eq_true',Bool.not_eq_false',Bool.not_eq_true,ne_eq,Decidable.not_not] at c34
 refine PW.exit (hK2 _ _ (PW.k1 10 rfl (PW.s3 rfl rfl rfl (PW.k2 4 5 rfl ?_))));refine PW.ret (zR rfl ?_);have e1:=rest_end (X:=xs) (Y:=ys) (show i=xs.length by omega) (show j=ys.length by omega)
 rw[e1,List.append_nil] at hrest;refine⟨seg::S,?_,v,seg,rfl,rfl,by rw[<- hrest];exact hsl⟩
 exact Sub.cons (Sub.drop (Sub.refl S))
end Go.Proofs.My

namespace Go.Proofs.Gr
open Go.SL Go.RowKit Go.Proofs Go.GP Go.MyPlain
def begT (l first:List ByteArray):Bool:=decide (first.length<=l.length) && decide (l.take first.length=first)
def recF (I:List aB) (w:List ByteArray):Nat->Nat->Option Nat
 |0,_=>none
 |f+1,i=>if I[i]!.block && begT w (dT I[i]!) then some i else recF I w f (i+1)
def recAt (I:List aB) (fr:Nat) (w:List ByteArray):Option Nat:=recF I w (I.length-fr) fr
theorem recAt_end {I:List aB}{fr:Nat}{w:List ByteArray}(h:I.length<=fr):recAt I fr w=none:=by
 unfold recAt;rw[show I.length-fr=0 by omega];rfl
theorem recAt_here {I:List aB}{fr:Nat}{w:List ByteArray}(h:fr<I.length) (hc:(I[fr].block && begT w (dT I[fr]))=true):recAt I fr w=some fr:=by
 unfold recAt;rw[show I.length-fr=(I.length-fr-1)+1 by omega]
 unfold recF;rw[getElem!_pos I fr h,hc];rfl
theorem recAt_next {I:List aB}{fr:Nat}{w:List ByteArray}(h:fr<I.length) (hc:(I[fr].block && begT w (dT I[fr]))=false):recAt I fr w=recAt I (fr+1) w:=by
 unfold recAt;rw[show I.length-fr=(I.length-(fr+1))+1 by omega]
 conv=>lhs;unfold recF
 rw[getElem!_pos I fr h,hc];rfl
theorem recF_some {I:List aB}{w:List ByteArray}:∀{f i k:Nat},recF I w f i=some k->i<=k/\k<i+f/\I[k]!.block=true/\begT w (dT I[k]!)=true
 |0,_,_,h=>by cases h
 |f+1,i,k,h=>by
  unfold recF at h;split at h
  ·rename_i hc;obtain rfl:=Option.some.inj h;rw[Bool.and_eq_true] at hc;exact⟨Nat.le_refl _,by omega,hc.1,hc.2⟩
  obtain⟨h1,h2,h3⟩:=recF_some h;exact⟨by omega,by omega,h3⟩
theorem eI {I:List aB}{fr k:Nat}{w:List ByteArray}(h:recAt I fr w=some k):fr<=k/\k<I.length/\I[k]!.block=true/\begT w (dT I[k]!)=true:=by
 obtain⟨h1,h2,h3⟩:=recF_some h;exact⟨h1,by omega,h3⟩
inductive Tok where
 |free (s:ByteArray)
 |blk (k:Nat)
def eY (I:List aB):Nat->Nat->List ByteArray->List Tok
 |0,_,_=>[]
 |_+1,_,[]=>[]
 |f+1,fr,s::w=>match recAt I fr (s::w) with
  |some k=>.blk k::eY I f (k+1) ((s::w).drop (dT I[k]!).length)
  |none=>.free s::eY I f fr w
def dq (I:List aB) (fr:Nat) (w:List ByteArray):List Tok:=eY I w.length fr w
theorem oneT_pos {x:aB}(h:x.block=true):2<=(dT x).length:=by
 unfold dT;rw[h];simp
theorem toksF_fuel {I:List aB}:∀(f g fr:Nat) (w:List ByteArray),w.length<=f->w.length<=g->eY I f fr w=eY I g fr w
 |0,g,fr,w,h1,h2=>by
  obtain rfl:=List.eq_nil_of_length_eq_zero (Nat.le_zero.1 h1);cases g<;>rfl
 |f+1,0,fr,w,h1,h2=>by
  obtain rfl:=List.eq_nil_of_length_eq_zero (Nat.le_zero.1 h2);rfl
 |f+1,g+1,fr,[],_,_=>rfl
 |f+1,g+1,fr,s::w,h1,h2=>by
  simp only[eY];simp only[List.length_cons] at h1 h2;cases e:recAt I fr (s::w) with
  |none=>simp only;rw[toksF_fuel f g fr w (by omega) (by omega)]
  |some k=>
   have:=oneT_pos (eI e).2.2.1
   simp only;rw[toksF_fuel f g (k+1) _ (by rw[List.length_drop,List.length_cons];omega) (by rw[List.length_drop,List.length_cons];omega)]
theorem toks_nil {I:List aB}{fr:Nat}:dq I fr [] = []:=rfl
theorem toks_free {I:List aB}{fr:Nat}{s:ByteArray}{w:List ByteArray}(h:recAt I fr (s::w)=none):dq I fr (s::w)=.free s::dq I fr w:=by
 unfold dq;simp only[List.length_cons,eY,h]
theorem toks_blk {I:List aB}{fr k:Nat}{w:List ByteArray}(hw:0<w.length) (h:recAt I fr w=some k):dq I fr w=.blk k::dq I (k+1) (w.drop (dT I[k]!).length):=by
 cases w with
 |nil=>cases hw
 |cons s w=>
  unfold dq;have:=oneT_pos (eI h).2.2.1
  simp only[List.length_cons,eY,h];rw[toksF_fuel w.length ((s::w).drop (dT I[k]!).length).length _ _ (by rw[List.length_drop,List.length_cons];omega) (Nat.le_refl _)]
structure Sec where
 fr:Nat
 to:Nat
 lines:List ByteArray
def di (n:Nat):List Tok->Nat->List ByteArray->List Sec
 |[],fr,cur=>[⟨fr,n,cur⟩]
 |.free s::r,fr,cur=>di n r fr (cur++[s])
 |.blk k::r,fr,cur=>⟨fr,k,cur⟩::di n r (k+1) []
def secs (I:List aB) (w:List ByteArray):List Sec:=di I.length (dq I 0 w) 0 []
def fC (K:List Bool):List Tok->List Bool
 |[]=>K
 |.free _::r=>fC K r
 |.blk k::r=>fC (K.set k true) r
theorem keepT_len:∀(l:List Tok) (K:List Bool),(fC K l).length=K.length
 |[],_=>rfl
 |.free _::r,K=>keepT_len r K
 |.blk k::r,K=>by simp only[fC];rw[keepT_len r];simp
structure Run where
 fr:Nat
 to:Nat
 lines:List ByteArray
structure RS where
 at_:Nat
 op:Bool
 runs:List Run
 K:List Bool
def growR (st:RS):List Run:=if st.op then st.runs else st.runs++[⟨st.at_,st.at_,[]⟩]
def modLast (f:Run->Run):List Run->List Run
 |[]=>[]
 |[r]=>[f r]
 |r::s::l=>r::modLast f (s::l)
def cf (ls:List ByteArray) (st:RS) (t:Int×Int×Int):RS:=
 if t.1=0 then⟨st.at_+1,false,st.runs,st.K.set st.at_ true⟩
 else if t.1=1 then⟨st.at_+1,true,modLast (fun r=>{ r with to:=st.at_+1 }) (growR st),st.K⟩
 else⟨st.at_,true,modLast (fun r=>{ r with lines:=r.lines++[ls[t.2.2.toNat]!] }) (growR st),st.K⟩
def neverB:ByteArray:=⟨#[10]⟩
def txtI (x:aB):ByteArray:=if x.block then neverB else x.lines[0]!.text
def db (I:List aB) (fr to:Nat):List ByteArray:=((I.take to).drop fr).map txtI
def fb (I:List aB) (s:Sec) (K:List Bool):RS:=(scr (db I s.fr s.to) s.lines).foldl (cf s.lines) ⟨s.fr,false,[],K⟩
def fg (I:List aB):List Sec->List Bool->List Run×List Bool
 |[],K=>([],K)
 |s::r,K=>let x:=fb I s K;let y:=fg I r x.K;(x.runs++y.1,y.2)
theorem stepU_len (ls:List ByteArray) (st:RS) (t:Int×Int×Int):(cf ls st t).K.length=st.K.length:=by
 unfold cf;split
 ·simp
 split<;>rfl
theorem foldU_len (ls:List ByteArray):∀(l:List (Int×Int×Int)) (st:RS),(l.foldl (cf ls) st).K.length=st.K.length
 |[],_=>rfl
 |t::l,st=>by rw[List.foldl_cons,foldU_len ls l,stepU_len]
structure HunkP where
 up:ay
 down:ay
 lines:List ByteArray
 gone:List ay
def cj (I:List aB) (K:List Bool) (i:Nat):Bool:=K[i]! && !I[i]!.block
def headV (x:aB):ay:=x.lines[0]!.v
def upK (I:List aB) (K:List Bool) (fr:Nat):ay:=((((List.range fr).filter (cj I K)).getLast?).map fun i=>headV I[i]!).getD aU
def downK (I:List aB) (K:List Bool) (to:Nat):ay:=((((List.range I.length).filter fun i=>decide (to<=i) && cj I K i).head?).map fun i=>headV I[i]!).getD bQ
def goneK (I:List aB) (r:Run):List ay:=((I.take r.to).drop r.fr).flatMap fun x=>x.lines.map aG.v
def bM (t:Int×Int×Int):Bool:=decide (t.1≠2)
theorem scrF_ops {α:Type}[DecidableEq α]:∀(f i j:Nat) (xs ys:List α),xs.length+ys.length<=f->(∀t∈dt f i j xs ys,(t.1=0∨t.1=1∨t.1=2)/\(t.1=2->∃b:Nat,t.2.2=(b:Int)/\j<=b/\b<j+ys.length))/\((dt f i j xs ys).filter bM).length=xs.length
 |0,i,j,xs,ys,h=>by
  have h1:xs=[]:=List.eq_nil_of_length_eq_zero (by omega)
  subst h1;exact⟨fun t ht=>by simp[dt] at ht,by simp[dt]⟩
 |f+1,i,j,[],[],h=>⟨fun t ht=>by simp[dt] at ht,by simp[dt]⟩
 |f+1,i,j,x::xs,[],h=>by
  simp only[List.length_cons,List.length_nil] at h;obtain⟨h1,h2⟩:=scrF_ops f (i+1) j xs [] (by simp;omega)
  simp only[dt];refine⟨fun t ht=>?_,by simp[bM,h2]⟩
  rcases List.mem_cons.1 ht with rfl|ht
  ·exact⟨.inr (.inl rfl),fun e=>by cases e⟩
  exact h1 t ht
 |f+1,i,j,[],y::ys,h=>by
  simp only[List.length_cons,List.length_nil] at h;obtain⟨h1,h2⟩:=scrF_ops f i (j+1) [] ys (by simp;omega)
  simp only[dt];refine⟨fun t ht=>?_,by simpa[bM] using h2⟩
  rcases List.mem_cons.1 ht with rfl|ht
  ·exact⟨.inr (.inr rfl),fun _=>⟨j,rfl,by omega,by simp⟩⟩
  refine⟨(h1 t ht).1,fun e=>?_⟩
  obtain⟨b,e1,e2,e3⟩:=(h1 t ht).2 e;exact⟨b,e1,by omega,by simp only[List.length_cons];omega⟩
 |f+1,i,j,x::xs,y::ys,h=>by
  simp only[List.length_cons] at h;simp only[dt];split
  ·obtain⟨h1,h2⟩:=scrF_ops f (i+1) (j+1) xs ys (by omega)
   refine⟨fun t ht=>?_,by simp[bM,h2]⟩
   rcases List.mem_cons.1 ht with rfl|ht
   ·exact⟨.inl rfl,fun e=>by cases e⟩
   refine⟨(h1 t ht).1,fun e=>?_⟩
   obtain⟨b,e1,e2,e3⟩:=(h1 t ht).2 e;exact⟨b,e1,by omega,by simp only[List.length_cons];omega⟩
  split
  ·obtain⟨h1,h2⟩:=scrF_ops f (i+1) j xs (y::ys) (by simp;omega)
   refine⟨fun t ht=>?_,by simp[bM,h2]⟩
   rcases List.mem_cons.1 ht with rfl|ht
   ·exact⟨.inr (.inl rfl),fun e=>by cases e⟩
   exact h1 t ht
  obtain⟨h1,h2⟩:=scrF_ops f i (j+1) (x::xs) ys (by simp;omega)
  refine⟨fun t ht=>?_,by simpa[bM] using h2⟩
  rcases List.mem_cons.1 ht with rfl|ht
  ·exact⟨.inr (.inr rfl),fun _=>⟨j,rfl,by omega,by simp⟩⟩
  refine⟨(h1 t ht).1,fun e=>?_⟩
  obtain⟨b,e1,e2,e3⟩:=(h1 t ht).2 e;exact⟨b,e1,by omega,by simp only[List.length_cons];omega⟩
theorem scr_op {α:Type}[DecidableEq α] {xs ys:List α}{t:Int×Int×Int}(h:t∈scr xs ys):t.1=0∨t.1=1∨t.1=2:=((scrF_ops _ 0 0 xs ys (Nat.le_refl _)).1 t h).1
theorem scr_new {α:Type}[DecidableEq α] {xs ys:List α}{t:Int×Int×Int}(h:t∈scr xs ys) (e:t.1=2):∃b:Nat,t.2.2=(b:Int)/\b<ys.length:=by
 obtain⟨b,e1,_,e3⟩:=((scrF_ops _ 0 0 xs ys (Nat.le_refl _)).1 t h).2 e;exact⟨b,e1,by omega⟩
theorem scr_takes {α:Type}[DecidableEq α] (xs ys:List α):((scr xs ys).filter bM).length=xs.length:=(scrF_ops _ 0 0 xs ys (Nat.le_refl _)).2
theorem foldU_at (ls:List ByteArray):∀(l:List (Int×Int×Int)) (st:RS),(∀t∈l,t.1=0∨t.1=1∨t.1=2)->(l.foldl (cf ls) st).at_=st.at_+(l.filter bM).length
 |[],st,_=>by simp
 |t::l,st,h=>by
  rw[List.foldl_cons,foldU_at ls l _ (fun x hx=>h x (List.mem_cons_of_mem _ hx))]
  have ht:=h t (List.mem_cons_self ..)
  unfold cf;rcases ht with e|e|e
  ·rw[if_pos e,List.filter_cons,if_pos (by simp[bM,e])];simp;omega
  ·rw[if_neg (by rw[e];decide),if_pos e,List.filter_cons,if_pos (by simp[bM,e])];simp;omega
  rw[if_neg (by rw[e];decide),if_neg (by rw[e];decide),List.filter_cons,if_neg (by simp[bM,e])]
end Go.Proofs.Gr

namespace Go.Proofs.Gr
open Go.SL Go.RowKit Go.Proofs Go.GP Go.Proofs.Tryz
set_option maxHeartbeats 1000000
theorem texts_fc {w0:World}{S:SS}{A B:Option Addr}{c d:Nat}{a b:List ByteArray}(hx:Rd w0 S A (strs a)) (hy:Rd w0 S B (strs b)) (ha:a.length<=1000000000000) (hb:b.length<=1000000000000) :
  FC prog w0 11 [.slice A a.length c,.slice B b.length d] S (fun u S'=>u=.bool (decide (a=b))/\S'=S):=by
 refine FC.of known11 (by simp) ?_
 unfold pc11;simp only[bo];refine PW.s1 rfl (PW.k2 0 1 rfl (PW.seq fun K1 hK1=>PW.ae (OL.p4 rfl rfl rfl rfl (OL.n1 rfl ?_))))
 refine PW.k3 0 1 10 rfl ?_;refine PW.cond rfl (fun c10=>?_) (fun c10=>?_)
 ·try simp only[aD] at c10
  refine PW.s1 rfl (PW.k1 4 rfl ?_);refine PW.ret (zR rfl ?_);refine⟨congrArg Value.bool (Eq.symm (decide_eq_false fun e=>?_)),rfl⟩
  subst e;exact absurd rfl c10
 try simp only[aD] at c10
 refine PW.skip (hK1 _ _ (PW.k2 0 1 rfl (PW.seq fun K2 hK2=>PW.s1 rfl (PW.k3 0 1 5 rfl (PW.block (PW.k3 0 1 5 rfl ?_))))))
 refine PW.aR (I:=fun m T S'=>∃(k:Nat),(k<=a.length/\a.length=b.length/\m=a.length-k/\a.take k=b.take k)/\T=([(0,.slice A a.length c),(1,.slice B b.length d),(5,.int .i64 k)]:TT)/\S'=S) (m:=a.length) ⟨0,⟨by omega,by omega,by omega,rfl⟩,rfl,rfl⟩ ?_
 rintro m _ _ ⟨k,⟨hk,hab,hm,ht⟩,rfl,rfl⟩;refine PW.seq fun K3 hK3=>PW.s4 rfl rfl rfl rfl (PW.k4 0 1 5 14 rfl ?_)
 refine PW.cond rfl (fun c14=>?_) (fun c14=>?_)
 ·try simp only[aD] at c14
  have hkl:k<a.length:=by omega
  obtain⟨a0,rfl⟩:=dg hx (by omega)
  obtain⟨b0,rfl⟩:=dg hy (by omega)
  have hx2:=hx
  have hy2:=hy
  refine PW.skip (hK3 _ _ (PW.k3 0 1 5 rfl (PW.seq fun K4 hK4=>PW.block (PW.seq fun K5 hK5=>PW.aQ mixed (QK.p2 rfl rfl (QK.x (Yields.dY rfl rfl rfl (by omega)) (QK.x (Yields.ld rfl (dD hx2 hkl)) (QK.dp rfl ?_))))))))
  refine QK.dp rfl (QK.x (Yields.dY rfl rfl rfl (by omega)) (QK.x (Yields.ld rfl (dD hy2 (by omega))) (QK.nil ?_)))
  change OL _ _ _ [_] _ _ _;refine OL.n1 rfl (hK5 _ _ (PW.k4 0 1 5 25 rfl ?_));refine PW.cond rfl (fun c25=>?_) (fun c25=>?_)
  ·skip;refine PW.s1 rfl (PW.k1 4 rfl ?_);refine PW.ret (zR rfl ?_);refine⟨congrArg Value.bool (Eq.symm (decide_eq_false fun e=>?_)),rfl⟩
   subst e;simp at c25
  skip;refine PW.skip (hK4 _ _ (PW.k3 0 1 5 rfl (PW.ops (OL.dp rfl (OL.x (Yields.ao rfl rfl (by omega) (by omega)) (OL.n1 rfl ?_))))))
  refine af.mk (T'':=[(0,_),(1,_),(5,_)]) (wi rfl) ?_;have he:a[k] = b[k]'(by omega):=by
   have h1:a[k].toList=(b[k]'(by omega)).toList:=by simpa using c25
   exact toL_inj.1 h1
  exact⟨a.length-(k+1),by omega,k+1,⟨by omega,hab,rfl,by rw[aA hkl,aA (show k<b.length by omega),ht,he]⟩,rfl,rfl⟩
 try simp only[aD] at c14
 refine PW.exit (hK2 _ _ (PW.cD (T':=[]) trivial (PW.s1 rfl (PW.k1 4 rfl ?_))));refine PW.ret (zR rfl ?_);have hke:k=a.length:=by omega
 refine⟨congrArg Value.bool (Eq.symm (decide_eq_true ?_)),rfl⟩;rw[hke,List.take_length,hab,List.take_length] at ht;exact ht
theorem equal_fc {w0:World}{S:SS}{A B:Option Addr}{c d:Nat}{a b:List ByteArray}(hx:Rd w0 S A (strs a)) (hy:Rd w0 S B (strs b)) (ha:a.length<=1000000000000) (hb:b.length<=1000000000000) :
  FC prog w0 113 [.slice A a.length c,.slice B b.length d] S (fun u S'=>u=.bool (decide (a=b))/\S'=S):=by
 refine FC.of known113 (by simp) ?_
 unfold pc113;simp only[bo];refine PW.s1 rfl (PW.k2 0 1 rfl (PW.seq fun K1 hK1=>PW.ae (OL.p4 rfl rfl rfl rfl (OL.n1 rfl ?_))))
 refine PW.k3 0 1 10 rfl ?_;refine PW.cond rfl (fun c10=>?_) (fun c10=>?_)
 ·try simp only[aD] at c10
  refine PW.s1 rfl (PW.k1 4 rfl ?_);refine PW.ret (zR rfl ?_);refine⟨congrArg Value.bool (Eq.symm (decide_eq_false fun e=>?_)),rfl⟩
  subst e;exact absurd rfl c10
 try simp only[aD] at c10
 refine PW.skip (hK1 _ _ (PW.k2 0 1 rfl (PW.seq fun K2 hK2=>PW.s3 rfl rfl rfl (PW.k4 0 1 12 13 rfl (PW.block (PW.k4 0 1 12 13 rfl ?_))))))
 refine PW.aR (I:=fun m T S'=>∃(k:Nat),(k<=a.length/\a.length=b.length/\m=a.length-k/\a.take k=b.take k)/\T=([(0,.slice A a.length c),(1,.slice B b.length d),(12,.int .i64 (a.length:Int)),(13,.int .i64 k)]:TT)/\S'=S) (m:=a.length) ⟨0,⟨by omega,by omega,by omega,rfl⟩,rfl,rfl⟩ ?_
 rintro m _ _ ⟨k,⟨hk,hab,hm,ht⟩,rfl,rfl⟩;refine PW.s1 rfl (PW.k5 0 1 12 13 14 rfl (PW.seq fun K3 hK3=>?_))
 refine PW.cond rfl (fun c14=>?_) (fun c14=>?_)
 ·try simp only[aD] at c14
  have hkl:k<a.length:=by omega
  obtain⟨a0,rfl⟩:=dg hx (by omega)
  obtain⟨b0,rfl⟩:=dg hy (by omega)
  have hx2:=hx
  have hy2:=hy
  refine PW.skip (hK3 _ _ (PW.k4 0 1 12 13 rfl (PW.seq fun K4 hK4=>PW.block (PW.s2 rfl rfl (PW.k5 0 1 5 12 13 rfl (PW.seq fun K5 hK5=>PW.aQ mixed ?_))))))
  refine QK.p2 rfl rfl (QK.x (Yields.dY rfl rfl rfl (by omega)) (QK.x (Yields.ld rfl (dD hx2 hkl)) (QK.p2 rfl rfl (QK.x (Yields.dY rfl rfl rfl (by omega)) (QK.x (Yields.ld rfl (dD hy2 (by omega))) (QK.nil ?_))))))
  change OL _ _ _ [_] _ _ _;refine OL.n1 rfl (hK5 _ _ (PW.k5 0 1 12 13 24 rfl ?_));refine PW.cond rfl (fun c24=>?_) (fun c24=>?_)
  ·skip;refine PW.s1 rfl (PW.k1 4 rfl ?_);refine PW.ret (zR rfl ?_);refine⟨congrArg Value.bool (Eq.symm (decide_eq_false fun e=>?_)),rfl⟩
   subst e;simp at c24
  skip;refine PW.skip (hK4 _ _ (PW.k4 0 1 12 13 rfl (PW.ops (OL.x (Yields.ao rfl rfl (by omega) (by omega)) (OL.n1 rfl ?_)))))
  refine af.mk (T'':=[(0,_),(1,_),(12,_),(13,_)]) (wi rfl) ?_;have he:a[k] = b[k]'(by omega):=by
   have h1:a[k].toList=(b[k]'(by omega)).toList:=by simpa using c24
   exact toL_inj.1 h1
  exact⟨a.length-(k+1),by omega,k+1,⟨by omega,hab,rfl,by rw[aA hkl,aA (show k<b.length by omega),ht,he]⟩,rfl,rfl⟩
 try simp only[aD] at c14
 refine PW.exit (hK2 _ _ (PW.cD (T':=[]) trivial (PW.s1 rfl (PW.k1 4 rfl ?_))));refine PW.ret (zR rfl ?_);have hke:k=a.length:=by omega
 refine⟨congrArg Value.bool (Eq.symm (decide_eq_true ?_)),rfl⟩;rw[hke,List.take_length,hab,List.take_length] at ht;exact ht
theorem strs_pre {w0:World}{S:SS}{A:Option Addr}{l:List ByteArray}{k:Nat}(h:Rd w0 S A (strs l)):Rd w0 S A (strs (l.take k)):=
 h.pre (by unfold strs;rw[List.map_take];exact List.take_prefix _ _)
theorem begins_fc {w0:World}{S:SS}{A B:Option Addr}{c d:Nat}{a b:List ByteArray}(hx:Rd w0 S A (strs a)) (hy:Rd w0 S B (strs b)) (ha:a.length<=1000000000000) (hb:b.length<=1000000000000) (hc:a.length<=c) :
  FC prog w0 96 [.slice A a.length c,.slice B b.length d] S (fun u S'=>u=.bool (begT a b)/\S'=S):=by
 refine FC.of known96 (by simp) ?_
 unfold pc96;simp only[bo];refine PW.s1 rfl (PW.k2 0 1 rfl (PW.ae (OL.p4 rfl rfl rfl rfl ?_)));refine OL.bool trivial (Yields.pure rfl) (fun g9=>?_) (fun g9=>?_)
 ·try simp only[aD] at g9
  have hle:b.length<=a.length:=by omega
  have htl:(a.take b.length).length=b.length:=by rw[List.length_take];omega
  refine OL.dp rfl (OL.ak rfl (.pure rfl) (OL.ak rfl (.pure rfl) (OL.ak rfl (.pure rfl) ?_)));refine OL.ak rfl (.to (v':=.slice A (a.take b.length).length c) (Yields.slS (l:=0) (h:=b.length) rfl rfl rfl (.inr ⟨rfl,rfl⟩) (.inl rfl) (by omega) (by omega)) (by rw[cutV0,htl])) ?_
  refine OL.ak rfl (.pure rfl) (OL.call rfl rfl (equal_fc (strs_pre hx) hy (by omega) hb) ?_)
  rintro _ Sx ⟨rfl,hSx⟩;rw[hSx];clear hSx;exact OL.n2 rfl rfl (PW.k1 4 rfl (PW.ret (zR rfl ⟨congrArg Value.bool (by unfold begT;first|(rw[decide_eq_true hle];rfl)|(rw[decide_eq_false (by omega)];rfl)),rfl⟩)))
 try simp only[aD] at g9
 exact OL.dp rfl (OL.off rfl rfl (OL.off rfl rfl (OL.off rfl rfl (OL.off rfl rfl (OL.off rfl rfl (OL.off rfl rfl (OL.n2 rfl rfl (PW.k1 4 rfl (PW.ret (zR rfl ⟨congrArg Value.bool (by unfold begT;first|(rw[decide_eq_true hle];rfl)|(rw[decide_eq_false (by omega)];rfl)),rfl⟩))))))))))
structure TM where
 A:Option Addr
 c:Nat
 l:List ByteArray
instance:Inhabited TM:=⟨⟨none,0,[]⟩⟩
def toldC (t:TM):Value:=.slice t.A t.l.length t.c
def tolds (l:List TM):List Value:=l.map toldC
structure ChM where
 r:Nat
 aC:List bg
 Ai:Option Addr
 ci:Nat
 tm:List TM
 At:Option Addr
 ct:Nat
 rk:Nat
def ChM.I (c:ChM):List aB:=c.aC.map bg.pl
def ChM.cells (c:ChM):List Value:=[.slice c.Ai c.aC.length c.ci,.slice c.At c.tm.length c.ct,.slice (some ⟨c.rk,0,none⟩) c.aC.length c.aC.length]
abbrev cseg (c:ChM):bD:=[(c.r,.cells c.cells 71 3)]
abbrev eg (c:ChM) (K:List Bool):bD:=[(c.rk,.cells (K.map Value.bool) 4 (c.aC.length*1))]
def ChM.ptr (c:ChM):Value:=.pointer (some ⟨c.r,0,none⟩)
structure ChOK (w0:World) (X:SS) (c:ChM):Prop where
 items:Rd w0 X c.Ai (bl c.aC)
 rows:∀x∈c.aC,ItemRd w0 X x
 told:Rd w0 X c.At (tolds c.tm)
 tl:c.tm.map (·.l)=c.I.map dT
 trd:∀t∈c.tm,Rd w0 X t.A (strs t.l)/\t.l.length<=t.c/\t.l.length<=1000000
 n:c.aC.length<=1000
 icap:c.aC.length<=c.ci
 solid:∀x∈c.aC,x.block=false->0<x.lines.length
theorem ChOK.mono {w0:World}{X Y:SS}{c:ChM}(h:ChOK w0 X c) (ho:Over X Y):ChOK w0 Y c:=
 ⟨h.items.mono ho,fun x hx=>(h.rows x hx).mono ho,h.told.mono ho,h.tl,fun t ht=>⟨(h.trd t ht).1.mono ho,(h.trd t ht).2⟩,h.n,h.icap,h.solid⟩
theorem ChM.I_len (c:ChM):c.I.length=c.aC.length:=List.length_map _
theorem ChM.I_get (c:ChM) {k:Nat}(hk:k<c.aC.length):c.I[k]'(by rw[c.I_len];exact hk)=c.aC[k].pl:=List.getElem_map _
theorem ChOK.tlen {w0:World}{X:SS}{c:ChM}(h:ChOK w0 X c):c.tm.length=c.aC.length:=by
 have:=congrArg List.length h.tl
 simpa[ChM.I_len] using this
theorem ChOK.tget {w0:World}{X:SS}{c:ChM}(h:ChOK w0 X c) {k:Nat}(hk:k<c.aC.length):(c.tm[k]'(by rw[h.tlen];exact hk)).l=dT (c.I[k]'(by rw[c.I_len];exact hk)):=by
 have h1:(c.tm.map (·.l))[k]'(by simp[h.tlen,hk])=(c.I.map dT)[k]'(by simp[c.I_len,hk]):=by simp only[h.tl]
 simpa using h1
theorem told_at {w0:World}{S:SS}{a:Addr}{l:List TM}{k:Nat}(h:Rd w0 S (some a) (tolds l)) (hk:k<l.length):Cell w0 S (a.add k) (toldC l[k]):=h.at (by simp[tolds,hk])
theorem tolds_some {w0:World}{S:SS}{A:Option Addr}{l:List TM}(h:Rd w0 S A (tolds l)) (hk:0<l.length):∃a,A=some a:=
 h.some (fun e=>by have:=congrArg List.length e;simp[tolds] at this;subst this;simp at hk)
def optI:Option Nat->Int
 |some k=>k
 |none=>-1
theorem block_fc2 {w0:World}{S:SS}{c:ChM}{W:Option Addr}{cw fr:Nat}{w:List ByteArray}(h:ChOK w0 S c) (hS:Over [cseg c] S) (hw:Rd w0 S W (strs w)) (hwc:w.length<=cw) (hwl:w.length<=1000000000000) (hfr:fr<=c.aC.length) :
  FC prog w0 64 [c.ptr,.int .i64 (fr:Int),.slice W w.length cw] S (fun v S'=>v=.int .i64 (optI (recAt c.I fr w))/\S'=S):=by
 have hn:=h.n
 have hIl:=c.I_len
 have htn:=h.tlen
 refine FC.of known64 (by simp) ?_
 unfold pc64;simp only[bo];refine PW.s1 rfl (PW.k3 0 1 2 rfl (PW.seq fun K1 hK1=>PW.s2 rfl rfl (PW.k3 0 2 7 rfl (PW.block (PW.k3 0 2 7 rfl ?_)))))
 refine PW.aR (I:=fun mm T S'=>∃(k:Nat),(k<=c.aC.length/\mm=c.aC.length-k/\recAt c.I fr w=recAt c.I k w)/\T=([(0,c.ptr),(2,.slice W w.length cw),(7,.int .i64 k)]:TT)/\S'=S) (m:=c.aC.length-fr) ⟨fr,⟨hfr,rfl,rfl⟩,rfl,rfl⟩ ?_
 rintro mm _ _ ⟨k,⟨hk,hmm,hrec⟩,rfl,rfl⟩;refine PW.seq fun K2 hK2=>PW.ae (OL.p2 rfl rfl (OL.x (Yields.cF rfl) (OL.dp rfl (OL.x (Yields.ld rfl (az (j:=0) (c:=c.cells) (E:=71) (tot:=3) (hS _ (by simp)) rfl)) (OL.n2 rfl rfl (PW.k4 0 2 7 15 rfl ?_))))))
 refine PW.cond rfl (fun c15=>?_) (fun c15=>?_)
 ·try simp only[aD] at c15
  have hkl:k<c.aC.length:=by omega
  obtain⟨a0,ha0⟩:=cA h.items (by omega)
  have hr2:=h.items
  rw[ha0] at hr2;obtain⟨b0,hb0⟩:=tolds_some h.told (by omega)
  have ht2:=h.told
  rw[hb0] at ht2;have htg:=h.tget hkl
  have hig:=c.I_get hkl
  refine PW.skip (hK2 _ _ (PW.k3 0 2 7 rfl (PW.seq fun K3 hK3=>PW.block (PW.ae (OL.dp rfl (OL.x (Yields.cF rfl) (OL.dp rfl (OL.x (Yields.ld rfl (az (j:=0) (c:=c.cells) (E:=71) (tot:=3) (hS _ (by simp)) rfl)) (OL.dp rfl ?_)))))))))
  rw[ha0];refine OL.x (Yields.bO rfl rfl rfl hkl) (OL.dp rfl (OL.x (Yields.ld rfl (bz hr2 hkl _ _ rfl)) ?_));refine OL.bool trivial (Yields.pure rfl) (fun g26=>?_) (fun g26=>?_)
  ·try simp only[aD] at g26
   refine OL.ak rfl (.pure rfl) (OL.ak rfl (.pure rfl) (OL.ak rfl (Yields.cF rfl) (OL.ak rfl (.pure rfl) (OL.ak rfl (.ld rfl (az (j:=1) (c:=c.cells) (E:=71) (tot:=3) (hS _ (by simp)) rfl)) (OL.ak rfl (.pure rfl) ?_)))))
   rw[hb0];refine OL.ak rfl (.dY rfl rfl rfl (by omega)) (OL.ak rfl (.ld rfl (told_at ht2 (by omega))) ?_)
   refine OL.call rfl rfl (begins_fc hw (h.trd _ (List.getElem_mem (by omega))).1 hwl (by have:=(h.trd _ (List.getElem_mem (show k<c.tm.length by omega))).2.2;omega) hwc) ?_
   rintro _ Sx ⟨rfl,hSx⟩;rw[hSx];clear hSx;refine OL.n1 rfl (PW.k4 0 2 7 36 rfl ?_);refine PW.cond rfl (fun c36=>?_) (fun c36=>?_)
   ·skip;refine PW.s2 rfl rfl (PW.k1 6 rfl ?_);refine PW.ret (zR rfl ?_);have hhe:=recAt_here (I:=c.I) (fr:=k) (w:=w) (by omega) (by rw[<- htg,c36,Bool.and_true,hig];exact g26)
    exact⟨by rw[hrec,hhe];rfl,rfl⟩
   skip;refine PW.skip (hK3 _ _ (PW.k3 0 2 7 rfl (PW.ops (OL.dp rfl (OL.x (Yields.ao rfl rfl (by omega) (by omega)) (OL.n1 rfl ?_))))))
   refine af.mk (T'':=[(0,_),(2,_),(7,_)]) (wi rfl) ?_;have hnx:=recAt_next (I:=c.I) (fr:=k) (w:=w) (by omega) (by rw[<- htg,c36,Bool.and_false])
   exact⟨c.aC.length-(k+1),by omega,k+1,⟨by omega,rfl,by rw[hrec,hnx]⟩,rfl,rfl⟩
  try simp only[aD] at g26
  refine OL.off rfl rfl (OL.off rfl rfl (OL.off rfl rfl (OL.off rfl rfl (OL.off rfl rfl (OL.off rfl rfl (OL.off rfl rfl (OL.off rfl rfl (OL.off rfl rfl (OL.n1 rfl (PW.k4 0 2 7 36 rfl ?_))))))))));refine PW.ite (b:=false) rfl ?_;rw[if_neg Bool.false_ne_true];refine PW.skip (hK3 _ _ (PW.k3 0 2 7 rfl (PW.ops (OL.dp rfl (OL.x (Yields.ao rfl rfl (by omega) (by omega)) (OL.n1 rfl ?_))))))
  refine af.mk (T'':=[(0,_),(2,_),(7,_)]) (wi rfl) ?_;have hnx:=recAt_next (I:=c.I) (fr:=k) (w:=w) (by omega) (by rw[hig];show(c.aC[k].block && _)=false;rw[g26,Bool.false_and])
  exact⟨c.aC.length-(k+1),by omega,k+1,⟨by omega,rfl,by rw[hrec,hnx]⟩,rfl,rfl⟩
 try simp only[aD] at c15
 refine PW.exit (hK1 _ _ (PW.cD (T':=[]) trivial (PW.s1 rfl (PW.k1 6 rfl ?_))));refine PW.ret (zR rfl ?_);have hen:=recAt_end (I:=c.I) (fr:=k) (w:=w) (by omega)
 exact⟨by rw[hrec,hen];rfl,rfl⟩
theorem itemS_drop (l:List bg) (i:Nat):bl (l.drop i)=(bl l).drop (i*3):=by
 by_cases h:i<=l.length
 ·have e:=itemS_app (l.take i) (l.drop i)
  rw[List.take_append_drop] at e;have hl:(bl (l.take i)).length=i*3:=by rw[eR,List.length_take,Nat.min_eq_left h]
  rw[e,<- hl,List.drop_left]
 rw[List.drop_eq_nil_of_le (by omega),List.drop_eq_nil_of_le (by rw[eR];omega)];rfl
theorem itemS_take (l:List bg) (i:Nat):bl (l.take i) <+: bl l:=by
 conv=>rhs;rw[<- List.take_append_drop i l,itemS_app]
 exact List.prefix_append _ _
theorem cutI {A:Option Addr}{cap i j:Nat}{l:List bg}(hij:i<=j) (hj:j<=l.length) (hl:l.length<=cap) :
  ∃A' c',cutV A cap 3 i j=.slice A' ((l.take j).drop i).length c'/\∀(w0:World) (S:SS),Rd w0 S A (bl l)->Rd w0 S A' (bl ((l.take j).drop i)):=by
 have hlen:((l.take j).drop i).length=j-i:=by rw[List.length_drop,List.length_take];omega
 unfold cutV;rw[<- hlen];refine⟨_,_,rfl,fun w0 S h=>?_⟩
 split
 ·have:((l.take j).drop i)=[]:=List.eq_nil_of_length_eq_zero (by omega)
  rw[this];exact Rd.nil
 intro q v hq;rw[itemS_drop,List.getElem?_drop] at hq;have h2:=h.pre (itemS_take l j)
 obtain⟨a,rfl,hc⟩:=h2 _ _ hq;exact⟨a.add (i*3),rfl,by rw[aZ];exact hc⟩
def secV (s:Sec) (A:Option Addr) (c:Nat):Value:=.agg #[.int .i64 (s.fr:Int),.int .i64 (s.to:Int),.slice A s.lines.length c]
def secC (s:Sec) (A:Option Addr) (c:Nat):List Value:=[.int .i64 (s.fr:Int),.int .i64 (s.to:Int),.slice A s.lines.length c]
abbrev sseg (r:Nat) (s:Sec) (A:Option Addr) (c:Nat):bD:=[(r,.cells (secC s A c) 81 3)]
def txtM (x:bg):ByteArray:=txtI x.pl
theorem txts_M (c:ChM) (fr to:Nat):db c.I fr to=((c.aC.take to).drop fr).map txtM:=by
 unfold db ChM.I;rw[<- List.map_take,<- List.map_drop,List.map_map];rfl
theorem txtM_len {L:List bg}{k:Nat}(hk:k<L.length):((L.take (k+1)).map txtM)=(L.take k).map txtM++[txtM L[k]]:=by
 rw[aA hk,List.map_append];rfl
theorem ctexts_fc {w0:World}{S:SS}{c:ChM}{s:Sec}{A:Option Addr}{cc:Nat}(h:ChOK w0 S c) (hS:Over [cseg c] S) (hf:s.fr<=s.to) (ht:s.to<=c.aC.length) :
  FC prog w0 68 [c.ptr,secV s A cc] S (fun v S'=>∃seg,S'=seg::S/\aV 9 1 v (db c.I s.fr s.to).length (strs (db c.I s.fr s.to)) seg):=by
 have hn:=h.n
 rw[txts_M];obtain⟨A',c',hcut,hrd0⟩:=cutI (A:=c.Ai) hf ht h.icap;obtain⟨L,hL⟩:∃z,z=(c.aC.take s.to).drop s.fr:=⟨_,rfl⟩;have hLl:L.length<=1000:=by rw[hL,List.length_drop,List.length_take];omega
 have hLm:∀x∈L,x∈c.aC:=fun x hx=>by rw[hL] at hx;exact List.mem_of_mem_take (List.mem_of_mem_drop hx)
 rw[<- hL] at hcut hrd0 ⊢;refine FC.ofD known68 (by simp) ?_
 unfold pc68;simp only[bo];refine PW.nilseg (PW.ae (OL.c (OW.bx rfl) ?_));rintro _ _ ⟨r3,rfl,rfl⟩;change OL _ _ _ _ _ (sseg r3 s A cc::([]::S)) _;refine OL.n1 rfl (PW.k3 0 3 4 rfl (PW.seq fun K1 hK1=>PW.seq fun K2 hK2=>PW.aQ mixed (QK.dp rfl (QK.x (Yields.cF rfl) (QK.dp rfl (QK.x (Yields.ld rfl (az (j:=0) (c:=c.cells) (E:=71) (tot:=3) (hS.cons.cons _ (by simp)) rfl)) (QK.dp rfl (QK.x (Yields.ld rfl (az (j:=0) (c:=secC s A cc) (E:=81) (tot:=3) bF rfl)) ?_))))))))
 refine QK.dp rfl (QK.x (Yields.ld rfl (az (j:=1) (c:=secC s A cc) (E:=81) (tot:=3) bF rfl)) ?_);refine QK.x (Yields.to (v':=.slice A' L.length c') (Yields.slS (l:=s.fr) (h:=s.to) rfl rfl rfl (.inl rfl) (.inl rfl) hf (by have:=h.icap;omega)) hcut) ?_
 refine QK.n2 rfl rfl ?_;change OL _ _ _ [] _ _ _;refine OL.nil (hK2 _ _ (PW.k4 4 15 16 17 rfl (PW.block (PW.k4 4 15 16 17 rfl ?_))));refine PW.aR (I:=fun mm T S'=>∃(k:Nat) (v:Value) (sg:bD),(k<=L.length/\mm=L.length-k/\aV 9 1 v ((L.take k).map txtM).length (strs ((L.take k).map txtM)) sg)/\T=([(4,v),(15,.slice A' L.length c'),(16,.int .i64 (L.length:Int)),(17,.int .i64 k)]:TT)/\S'=sseg r3 s A cc::(sg::S)) (m:=L.length) ⟨0,_,[],⟨by omega,by omega,aV.nil 9 1⟩,rfl,rfl⟩ ?_
 rintro mm _ _ ⟨k,v,sg,⟨hk,hmm,hsg⟩,rfl,rfl⟩;refine PW.s1 rfl (PW.k5 4 15 16 17 18 rfl (PW.seq fun K3 hK3=>?_))
 refine PW.cond rfl (fun c18=>?_) (fun c18=>?_)
 ·try simp only[aD] at c18
  have hkl:k<L.length:=by omega
  obtain⟨a0,rfl⟩:=cA (hrd0 w0 S h.items) (by omega)
  have hr2:Rd w0 (sseg r3 s A cc::(sg::S)) (some a0) (bl L):=(hrd0 w0 S h.items).cons.cons
  have hvl:((L.take k).map txtM).length<=1000:=by rw[List.length_map,List.length_take];omega
  have htl:=txtM_len hkl
  refine PW.skip (hK3 _ _ (PW.k4 4 15 16 17 rfl (PW.seq fun K4 hK4=>PW.block (PW.ae (OL.x (Yields.bO rfl rfl rfl hkl) (OL.x (Yields.aT rfl (cU _) (bz hr2 hkl)) (OL.c OW.al ?_)))))))
  rintro _ _ ⟨r6,rfl,rfl⟩;refine OL.c (item_st rfl rfl rfl) ?_;rintro _ _ rfl;change OL _ _ _ _ _ ([(r6,.cells (bA L[k]) 75 3)]::sseg r3 s A cc::(sg::S)) _;refine OL.nil (PW.k5 4 6 15 16 17 rfl (PW.ae (OL.dp rfl (OL.x (Yields.ld rfl (az (j:=1) (c:=bA L[k]) (E:=75) (tot:=3) bF rfl)) (OL.nil (PW.k6 4 6 15 16 17 22 rfl ?_))))));refine PW.cond rfl (fun c22=>?_) (fun c22=>?_)
  ·skip;refine PW.ops (OL.dp rfl ?_);apply OL.bV (k:=2)
   ·rfl
   ·rfl
   ·rfl
   ·rfl
   ·rfl
   ·rfl
   ·exact hsg
   ·rfl
   ·omega
   ·unfold maxLen;omega
   intro v25 sgn hsn;refine OL.n1 rfl (hK4 _ _ (PW.k4 4 15 16 17 rfl (PW.ops (OL.x (Yields.ao rfl rfl (by omega) (by omega)) (OL.n1 rfl ?_)))))
   refine af.dE (Sub.drop (Sub.refl _)) (T'':=[(4,_),(15,_),(16,_),(17,_)]) (wi rfl) ?_;have hte:txtM L[k] = neverB:=by unfold txtM txtI;rw[show L[k].pl.block=L[k].block from rfl,c22];rfl
   exact⟨L.length-(k+1),by omega,k+1,_,sgn,⟨by omega,rfl,by rw[htl,hte];exact bt (z:=neverB) hsn⟩,rfl,rfl⟩
  skip;have hpos:=h.solid _ (hLm _ (List.getElem_mem hkl)) c22
  have hrl:=(h.rows _ (hLm _ (List.getElem_mem hkl))).rdL
  obtain⟨b0,hb0⟩:=bR hrl hpos;have hrl2:Rd w0 ([(r6,.cells (bA L[k]) 75 3)]::sseg r3 s A cc::(sg::S)) (some b0) (lines L[k].lines):=by rw[<- hb0];exact hrl.cons.cons.cons
  refine PW.ops (OL.p2 rfl rfl (OL.x (Yields.ld rfl (az (j:=0) (c:=bA L[k]) (E:=75) (tot:=3) bF rfl)) ?_));rw[hb0];refine OL.x (Yields.bO (j:=0) rfl rfl rfl hpos) (OL.dp rfl (OL.x (Yields.ld rfl (fA (k:=0) hrl2 hpos)) ?_));apply OL.bV (k:=2)
  ·rfl
  ·rfl
  ·rfl
  ·rfl
  ·rfl
  ·rfl
  ·exact hsg
  ·rfl
  ·omega
  ·unfold maxLen;omega
  intro v33 sgn hsn;refine OL.n1 rfl (hK4 _ _ (PW.k4 4 15 16 17 rfl (PW.ops (OL.x (Yields.ao rfl rfl (by omega) (by omega)) (OL.n1 rfl ?_)))))
  refine af.dE (Sub.drop (Sub.refl _)) (T'':=[(4,_),(15,_),(16,_),(17,_)]) (wi rfl) ?_;have hte:txtM L[k] = L[k].lines[0].text:=by unfold txtM txtI;rw[show L[k].pl.block=L[k].block from rfl,c22];show L[k].lines[0]!.text=_;rw[getElem!_pos _ 0 hpos]
  exact⟨L.length-(k+1),by omega,k+1,_,sgn,⟨by omega,rfl,by rw[htl,hte];exact bt hsn⟩,rfl,rfl⟩
 try simp only[aD] at c18
 refine PW.exit (hK1 _ _ (PW.k1 4 rfl (PW.s2 rfl rfl (PW.k1 4 rfl ?_))));refine PW.ret (zR rfl ?_);have hke:k=L.length:=by omega
 rw[hke,List.take_length] at hsg;exact⟨_,Sub.drop (Sub.refl _),sg,rfl,hsg⟩
theorem kept_at {w0:World}{S:SS}{c:ChM}{K:List Bool}{i:Nat}(hm:eg c K∈S) (hi:i<K.length):Cell w0 S ((⟨c.rk,0,none⟩:Addr).add i) (.bool K[i]):=
 (Rd.own (E:=4) (tot:=c.aC.length*1) (List.mem_flatten.2 ⟨_,hm,List.mem_singleton.2 rfl⟩)).at (by simp[hi])
theorem csolid_fc {w0:World}{S:SS}{c:ChM}{K:List Bool}{i:Nat}(h:ChOK w0 S c) (hC:cseg c∈S) (hK:eg c K∈S) (hk:K.length=c.aC.length) (hi:i<c.aC.length) :
  FC prog w0 70 [c.ptr,.int .i64 (i:Int)] S (fun v S'=>v=.bool (cj c.I K i)/\S'=S):=by
 have hn:=h.n
 have hki:i<K.length:=by omega
 obtain⟨a0,ha0⟩:=cA h.items (by omega)
 have hr2:=h.items
 rw[ha0] at hr2;have hsk:cj c.I K i=(K[i] && !c.aC[i].block):=by unfold cj;rw[getElem!_pos K i hki,getElem!_pos c.I i (by rw[c.I_len];exact hi),c.I_get hi];rfl
 refine FC.of known70 (by simp) ?_
 unfold pc70;simp only[bo];refine PW.s1 rfl (PW.k2 0 1 rfl (PW.ae (OL.dp rfl (OL.x (Yields.cF rfl) (OL.dp rfl (OL.x (Yields.ld rfl (az (j:=2) (c:=c.cells) (E:=71) (tot:=3) (List.mem_flatten.2 ⟨_,hC,List.mem_singleton.2 rfl⟩) rfl)) (OL.dp rfl (OL.x (Yields.dY rfl rfl rfl hi) (OL.x (Yields.ld rfl (kept_at hK hki)) ?_)))))))));refine OL.bool trivial (Yields.pure rfl) (fun g12=>?_) (fun g12=>?_)
 ·try simp only[aD] at g12
  have hkt:K[i] = true:=g12
  refine OL.ak rfl (.pure rfl) (OL.ak rfl (Yields.cF rfl) (OL.ak rfl (.pure rfl) (OL.ak rfl (.ld rfl (az (j:=0) (c:=c.cells) (E:=71) (tot:=3) (List.mem_flatten.2 ⟨_,hC,List.mem_singleton.2 rfl⟩) rfl)) (OL.ak rfl (.pure rfl) ?_))));rw[ha0];exact OL.ak rfl (.bO rfl rfl rfl hi) (OL.ak rfl (.pure rfl) (OL.ak rfl (.ld rfl (bz hr2 hi _ _ rfl)) (OL.ak rfl (.pure rfl) (OL.n2 rfl rfl (PW.k1 4 rfl (PW.ret (zR rfl ⟨congrArg Value.bool (by rw[hsk,hkt];first|rfl|simp),rfl⟩)))))))
 try simp only[aD] at g12
 have hkt:K[i] = false:=g12
 refine OL.off rfl rfl (OL.off rfl rfl (OL.off rfl rfl (OL.off rfl rfl (OL.off rfl rfl (OL.off rfl rfl (OL.off rfl rfl (OL.off rfl rfl (OL.off rfl rfl (OL.n2 rfl rfl ?_)))))))));exact PW.k1 4 rfl (PW.ret (zR rfl ⟨congrArg Value.bool (by rw[hsk,hkt];first|rfl|simp),rfl⟩))
structure bX where
 fr:Nat
 to:Nat
 A:Option Addr
 c:Nat
 lines:List ByteArray
instance:Inhabited bX:=⟨⟨0,0,none,0,[]⟩⟩
def bX.pl (x:bX):Run:=⟨x.fr,x.to,x.lines⟩
def fe (x:bX):List Value:=[.int .i64 (x.fr:Int),.int .i64 (x.to:Int),.slice x.A x.lines.length x.c]
def runV (x:bX):Value:=.agg (fe x).toArray
def cZ (l:List bX):List Value:=l.flatMap fe
theorem cQ (l:List bX):(cZ l).length=l.length*3:=by unfold cZ;rw[List.length_flatMap];simp[fe,List.map_const']
theorem ev (a b:List bX):cZ (a++b)=cZ a++cZ b:=by unfold cZ;rw[List.flatMap_append]
theorem runsS_one (l:List bX):(cZ l).all (·.oneCell')=true:=by
 unfold cZ;rw[List.all_flatMap];exact List.all_eq_true.2 fun x _=>rfl
def rrow (ro co:Nat) (l:List bX):bD:=[(ro,.cells (cZ l) 84 (co*3))]
abbrev bcell (r:Nat) (b:Bool):bD:=[(r,.cells [.bool b] 4 1)]
abbrev icell (r:Nat) (i:Nat):bD:=[(r,.cells [.int .i64 (i:Int)] 3 1)]
abbrev ocell (r:Nat) (v:Value):bD:=[(r,.cells [v] 79 1)]
def growM (op:Bool) (at_:Nat) (l:List bX):List bX:=if op then l else l++[⟨at_,at_,none,0,[]⟩]
theorem slv_runs {v:Value}{l:List bX}{seg:bD}(h:aV 84 3 v l.length (cZ l) seg) (h0:0<l.length):∃ro co,v=.slice (some ⟨ro,0,none⟩) l.length co/\seg=rrow ro co l/\l.length<=co/\co<=maxLen:=by
 obtain⟨_,⟨_,h1,_⟩|⟨r,cap,h1,h2,h3,h4⟩⟩:=h
 ·omega
 exact⟨r,cap,h1,h2,h3,h4⟩
theorem grow_fc {w0:World}{S:SS}{ro_ rv ra at_:Nat}{op:Bool}{v:Value}{sg:bD}{l:List bX}(hv:aV 84 3 v l.length (cZ l) sg) (hop:op=true->0<l.length) (hl:l.length<=100000) :
  FC prog w0 69 [.pointer (some ⟨ro_,0,none⟩),.pointer (some ⟨rv,0,none⟩),.pointer (some ⟨ra,0,none⟩)] (bcell ro_ op::ocell rv v::icell ra at_::sg::S) (fun u S'=>∃qo co,u=.pointer (some ⟨qo,((growM op at_ l).length-1)*3,none⟩)/\S'=bcell ro_ true::ocell rv (.slice (some ⟨qo,0,none⟩) (growM op at_ l).length co)::icell ra at_::rrow qo co (growM op at_ l)::S/\(growM op at_ l).length<=co/\co<=maxLen):=by
 refine FC.of known69 (by simp) ?_
 unfold pc69;simp only[bo];refine PW.s1 rfl (PW.k3 0 1 2 rfl (PW.seq fun K1 hK1=>PW.ae (OL.x (Yields.ld rfl (az (j:=0) (c:=[.bool op]) (E:=4) (tot:=1) bF rfl)) (OL.n1 rfl (PW.k4 0 1 2 5 rfl ?_)))))
 refine PW.cond rfl (fun c5=>?_) (fun c5=>?_)
 ·try simp only[aD] at c5
  subst c5;obtain⟨L,hL⟩:∃z,z=l++[(⟨at_,at_,none,0,[]⟩:bX)]:=⟨_,rfl⟩;have hLl:L.length=l.length+1:=by rw[hL];simp
  refine PW.ae (OL.x (Yields.ld rfl (az (j:=0) (c:=[v]) (E:=79) (tot:=1) dm rfl)) (OL.x (Yields.ld rfl (az (j:=0) (c:=[.int .i64 (at_:Int)]) (E:=3) (tot:=1) zM2 rfl)) (OL.x (Yields.ld rfl (az (j:=0) (c:=[.int .i64 (at_:Int)]) (E:=3) (tot:=1) zM2 rfl)) (OL.x (Yields.build (cs:=fe ⟨at_,at_,none,0,[]⟩) rfl) ?_))));apply OL.bV (k:=3)
  ·rfl
  ·rfl
  ·rfl
  ·rfl
  ·rfl
  ·rfl
  ·exact hv
  ·rfl
  ·omega
  ·unfold maxLen;omega
  intro v11 sg2 hv2;have hv3:aV 84 3 v11 (l++[(⟨at_,at_,none,0,[]⟩:bX)]).length (cZ (l++[(⟨at_,at_,none,0,[]⟩:bX)])) sg2:=by rw[ev,List.length_append];exact hv2
  obtain⟨qo,co,rfl,rfl,hco,hcm⟩:=slv_runs hv3 (by simp)
  refine OL.c (OW.st (k:=1) rfl rfl rfl rfl (Nat.le_refl 1) rfl) ?_;rintro _ _ rfl;refine OL.nil (PW.k2 0 1 rfl (PW.ops (OL.c (OW.st (k:=0) rfl rfl rfl rfl (Nat.le_refl 1) rfl) ?_)));rintro _ _ rfl;refine OL.nil (hK1 _ _ (PW.k1 1 rfl (PW.ae ?_)));change OL _ _ _ _ _ (bcell ro_ true::ocell rv (.slice (some ⟨qo,0,none⟩) _ co)::icell ra at_::rrow qo co _::S) _;rw[<- hL] at hco ⊢;exact OL.x (Yields.ld rfl (az (j:=0) (c:=[.slice (some ⟨qo,0,none⟩) (L).length co]) (E:=79) (tot:=1) dm rfl)) (OL.x (Yields.ld rfl (az (j:=0) (c:=[.slice (some ⟨qo,0,none⟩) (L).length co]) (E:=79) (tot:=1) dm rfl)) (OL.dp rfl (OL.x (Yields.to (v':=.int .i64 (((L).length-1:Nat):Int)) (Yields.cH rfl rfl (by omega) (by omega)) (congrArg (Value.int .i64) (by omega))) (OL.x (Yields.ixO rfl rfl rfl (by omega)) (OL.n1 rfl (PW.k1 3 rfl (PW.ret (zR rfl ⟨qo,co,by rw[hL];rfl,by rw[hL];rfl,by first|exact hco|(rw[hL] at hco;exact hco),hcm⟩))))))))
 try simp only[aD] at c5
 subst c5;have h0:=hop rfl
 obtain⟨qo,co,rfl,rfl,hco,hcm⟩:=slv_runs hv h0;obtain⟨L,hL⟩:∃z,z=l:=⟨_,rfl⟩;have hLl:0<L.length/\L.length=l.length:=by rw[hL];exact⟨h0,rfl⟩
 refine PW.skip (hK1 _ _ (PW.k1 1 rfl (PW.ae ?_)));change OL _ _ _ _ _ (bcell ro_ true::ocell rv (.slice (some ⟨qo,0,none⟩) _ co)::icell ra at_::rrow qo co _::S) _;rw[<- hL] at hco ⊢;exact OL.x (Yields.ld rfl (az (j:=0) (c:=[.slice (some ⟨qo,0,none⟩) (L).length co]) (E:=79) (tot:=1) dm rfl)) (OL.x (Yields.ld rfl (az (j:=0) (c:=[.slice (some ⟨qo,0,none⟩) (L).length co]) (E:=79) (tot:=1) dm rfl)) (OL.dp rfl (OL.x (Yields.to (v':=.int .i64 (((L).length-1:Nat):Int)) (Yields.cH rfl rfl (by omega) (by omega)) (congrArg (Value.int .i64) (by omega))) (OL.x (Yields.ixO rfl rfl rfl (by omega)) (OL.n1 rfl (PW.k1 3 rfl (PW.ret (zR rfl ⟨qo,co,by rw[hL];rfl,by rw[hL];rfl,by first|exact hco|(rw[hL] at hco;exact hco),hcm⟩))))))))
end Go.Proofs.Gr

namespace Go.Proofs.Gr
open Go.SL Go.RowKit Go.Proofs Go.GP
set_option maxHeartbeats 1000000
open Go.MyPlain
theorem runs_split (l:List bX) (h:0<l.length):∃l0 x,l=l0++[x]:=⟨l.dropLast,l.getLast (fun e=>by subst e;simp at h),(List.dropLast_concat_getLast _).symm⟩
theorem set_to (l0:List bX) (x:bX) (t:Nat):setAt (cZ (l0++[x])) (((l0++[x]).length-1)*3+1) [.int .i64 (t:Int)] = cZ (l0++[{ x with to:=t }]):=by
 have hl:=cQ l0
 rw[ev,ev,bU _ _ _ (by rw[List.length_append,List.length_append,cQ,cQ];simp),List.length_append,List.length_singleton,Nat.add_sub_cancel]
 rw[List.take_append,List.drop_append,hl];have h1:l0.length*3+1-l0.length*3=1:=by omega
 have h2:l0.length*3+1+1-l0.length*3=2:=by omega
 simp only[List.length_singleton,h1,h2];rw[List.take_of_length_le (by omega),List.drop_eq_nil_of_le (by omega)]
 simp[cZ,fe]
theorem set_lines (l0:List bX) (x:bX) (A:Option Addr) (c:Nat) (L:List ByteArray):setAt (cZ (l0++[x])) (((l0++[x]).length-1)*3+2) [.slice A L.length c] = cZ (l0++[{ x with A:=A,c:=c,lines:=L }]):=by
 have hl:=cQ l0
 rw[ev,ev,bU _ _ _ (by rw[List.length_append,List.length_append,cQ,cQ];simp),List.length_append,List.length_singleton,Nat.add_sub_cancel]
 rw[List.take_append,List.drop_append,hl];have h1:l0.length*3+2-l0.length*3=2:=by omega
 have h2:l0.length*3+2+1-l0.length*3=3:=by omega
 simp only[List.length_singleton,h1,h2];rw[List.take_of_length_le (by omega),List.drop_eq_nil_of_le (by omega)]
 simp[cZ,fe]
theorem fG (f:Run->Run):∀(l:List Run) (x:Run),modLast f (l++[x])=l++[f x]
 |[],x=>rfl
 |[a],x=>rfl
 |a::b::l,x=>by
  have:=fG f (b::l) x
  simp only[List.cons_append] at this ⊢;simp only[modLast];rw[this]
structure RunOk (w0:World) (j:bD) (x:bX):Prop where
 rd:Rd w0 (j::[]) x.A (strs x.lines)
 cap:x.lines.length<=x.c
 nil:x.A=none->x.c=0
theorem RunOk.more {w0:World}{j j':bD}{x:bX}(h:RunOk w0 j x) (hs:∀p∈j,p∈j'):RunOk w0 j' x:=⟨h.rd.mono fun p hp=>by simp at hp ⊢;exact hs p hp,h.cap,h.nil⟩
structure fq (w0:World) (l:List bX) (sl aH:bD):Prop where
 done:∀x∈l.dropLast,RunOk w0 aH x
 last:∀x,l.getLast? = some x->aV 9 1 (.slice x.A x.lines.length x.c) x.lines.length (strs x.lines) sl
theorem fq.nil {w0:World}{j:bD}:fq w0 [] [] j:=⟨by simp,by simp⟩
theorem run_ok {w0:World}{x:bX}{sl:bD}(h:aV 9 1 (.slice x.A x.lines.length x.c) x.lines.length (strs x.lines) sl):RunOk w0 sl x:=by
 obtain⟨A,cap,e,hn,hc,hr⟩:=aF (w0:=w0) h;simp only[Value.slice.injEq] at e;obtain⟨rfl,_,rfl⟩:=e;exact⟨hr [],hc,hn⟩
theorem fq.all {w0:World}{l:List bX}{sl aH:bD}(h:fq w0 l sl aH):∀x∈l,RunOk w0 (sl++aH) x:=by
 intro x hx;by_cases h0:0<l.length
 ·obtain⟨l0,y,rfl⟩:=runs_split l h0;rcases List.mem_append.1 hx with hx|hx
  ·exact(h.done x (by simpa using hx)).more fun p hp=>List.mem_append_right _ hp
  rw[List.mem_singleton] at hx;subst hx;exact(run_ok (h.last x (by simp))).more fun p hp=>List.mem_append_left _ hp
 have:l=[]:=List.eq_nil_of_length_eq_zero (by omega)
 subst this;cases hx
theorem fq.grown {w0:World}{l:List bX}{sl aH:bD}{x:bX}(h:fq w0 l sl aH) (hx:aV 9 1 (.slice x.A x.lines.length x.c) x.lines.length (strs x.lines) []):fq w0 (l++[x]) [] (sl++aH):=
 ⟨fun y hy=>by simp at hy;exact h.all y hy,fun y hy=>by simp at hy;subst hy;exact hx⟩
end Go.Proofs.Gr



namespace Go.Proofs.Gr
open Go.SL Go.RowKit Go.Proofs Go.GP
set_option maxHeartbeats 1000000
open Go.MyPlain
theorem fold_snoc {ls:List ByteArray}{l:List (Int×Int×Int)}{k:Nat}(hk:k<l.length) (st:RS):(l.take (k+1)).foldl (cf ls) st=cf ls ((l.take k).foldl (cf ls) st) l[k]:=by
 rw[aA hk,List.foldl_append];rfl
theorem at_room {I:List aB}{s:Sec}{k:Nat}{K:List Bool}{L:List (Int×Int×Int)}(hL:L=scr (db I s.fr s.to) s.lines) (hf:s.fr<=s.to) (ht:s.to<=I.length) (hk:k<L.length) (htk:bM L[k] = true) :
  ((L.take k).foldl (cf s.lines) ⟨s.fr,false,[],K⟩).at_<s.to:=by
 have h1:=scr_takes (db I s.fr s.to) s.lines
 have h2:(db I s.fr s.to).length=s.to-s.fr:=by unfold db;rw[List.length_map,List.length_drop,List.length_take];omega
 have hop:∀t∈L,t.1=0∨t.1=1∨t.1=2:=fun t h=>scr_op (hL▸h)
 rw[<- hL] at h1;rw[foldU_at _ _ _ (fun t h=>hop t (List.mem_of_mem_take h))]
 have h3:(L.take (k+1)).filter bM=(L.take k).filter bM++[L[k]]:=by
  rw[aA hk,List.filter_append,List.filter_cons,if_pos htk];rfl
 have h4:((L.take (k+1)).filter bM).length<=(L.filter bM).length:=by
  have:=List.take_append_drop (k+1) L
  conv=>rhs;rw[<- this]
  rw[List.filter_append,List.length_append];omega
 rw[h3,List.length_append] at h4;simp at h4;simp only;omega
theorem kseg_set (c:ChM) (K:List Bool) (i:Nat) (hi:i<K.length):setAt (K.map Value.bool) i [.bool true] = (K.set i true).map Value.bool:=by
 rw[bU _ _ _ (by simp;omega),List.map_set]
 rw[List.set_eq_take_append_cons_drop,if_pos (by simpa using hi)]
 simp
end Go.Proofs.Gr

namespace Go.Proofs.Gr
open Go.SL Go.RowKit Go.Proofs Go.GP Go.Proofs.Tryz
set_option maxHeartbeats 1000000
open Go.MyPlain
theorem fq.grow {w0:World}{l:List bX}{sl aH:bD}{op:Bool}{at_:Nat}(h:fq w0 l sl aH):∃sl' junk',fq w0 (growM op at_ l) sl' junk'/\∀S,Sub (sl'::junk'::S) (sl::aH::S):=by
 cases op
 ·exact⟨[],sl++aH,h.grown (aV.nil 9 1),fun S=>Sub.cL Sub.join⟩
 exact⟨sl,aH,h,fun S=>Sub.refl _⟩
theorem grow_pl {l:List bX}{st:RS}(h:l.map bX.pl=st.runs):(growM st.op st.at_ l).map bX.pl=growR st:=by
 unfold growM growR;split
 ·exact h
 rw[List.map_append,h];rfl
theorem grow_pos {l:List bX}{op:Bool}{at_:Nat}(h:op=true->0<l.length):0<(growM op at_ l).length:=by
 unfold growM;split
 ·exact h (by assumption)
 simp
theorem grow_le {l:List bX}{op:Bool}{at_:Nat}:(growM op at_ l).length<=l.length+1:=by
 unfold growM;split<;>simp
theorem fq.last' {w0:World}{l0:List bX}{x y:bX}{sl sl' aH:bD}(h:fq w0 (l0++[x]) sl aH) (hy:aV 9 1 (.slice y.A y.lines.length y.c) y.lines.length (strs y.lines) sl'):fq w0 (l0++[y]) sl' aH:=
 ⟨fun z hz=>h.done z (by simpa using hz),fun z hz=>by simp at hz;subst hz;exact hy⟩
theorem runs_slv {qo co:Nat}{l:List bX}(h:l.length<=co) (h2:co<=maxLen):aV 84 3 (.slice (some ⟨qo,0,none⟩) l.length co) l.length (cZ l) (rrow qo co l):=aV.mk' (cQ l) h h2
theorem run_lines_at {w0:World}{S:SS}{qo co:Nat}{l0:List bX}{x:bX}(h:(qo,.cells (cZ (l0++[x])) 84 (co*3))∈S.flatten):Cell w0 S ((⟨qo,((l0++[x]).length-1)*3,none⟩:Addr).add 2) (.slice x.A x.lines.length x.c):=by
 have:=(Rd.own h).at (w0:=w0) (j:=((l0++[x]).length-1)*3+2) (v:=.slice x.A x.lines.length x.c) (by rw[List.length_append,List.length_singleton,Nat.add_sub_cancel,ev,List.getElem?_append_right (by rw[cQ];omega),cQ];simp[cZ,fe])
 simpa[Addr.add] using this
theorem step_st {w0:World}{S:SS}{P:Program}{n r:Nat}{T:TT}{x v:PV}{t:Int×Int×Int}{z:List Value}(hx:x.val T=some (.pointer (some ⟨r,0,none⟩))) (hv:v.val T=some (.agg (My.stC t).toArray)) (hz:z.length=3) :
  OW P w0 n (.st 3 x v) T ([(r,.cells z 138 3)]::S) (fun _ S'=>S'=[(r,.cells (My.stC t) 138 3)]::S):=by
 refine(OW.st (k:=0) (c:=z) (u:=.agg (My.stC t).toArray) hx hv rfl (show(Value.agg (My.stC t).toArray).cells.size=3 from rfl) (by omega) rfl).mono ?_
 rintro _ _ rfl;rw[show(Value.agg (My.stC t).toArray).cells.toList=My.stC t from rfl,eP (by rw[hz];rfl)]
 rfl
theorem runs_fc {w0:World}{S:SS}{c:ChM}{K:List Bool}{s:Sec}{A:Option Addr}{cc:Nat}(h:ChOK w0 S c) (hC:Over [cseg c] S) (hk:K.length=c.aC.length) (hf:s.fr<=s.to) (ht:s.to<=c.aC.length) (hls:Rd w0 S A (strs s.lines)) (hll:s.lines.length<=1000) :
  FC prog w0 29 [c.ptr,secV s A cc] (eg c K::S) (fun u S'=>∃v rs sg aH,u=.tuple #[v,.int .i64 0]/\S'=sg::aH::eg c (fb c.I s K).K::S/\aV 84 3 v rs.length (cZ rs) sg/\(∀x∈rs,RunOk w0 aH x)/\rs.map bX.pl=(fb c.I s K).runs/\rs.length<=2000):=by
 have hn:=h.n
 have htl:(db c.I s.fr s.to).length<=1000:=by unfold db;rw[List.length_map,List.length_drop,List.length_take,c.I_len];omega
 refine FC.ofCT known29 (by simp) ?_
 unfold pc29;simp only[bo];refine PW.ae (OL.c (OW.bx rfl) ?_);rintro _ _ ⟨r3,rfl,rfl⟩;change OL _ _ _ _ _ (sseg r3 s A cc::eg c K::S) _;refine OL.c OW.al ?_;rintro _ _ ⟨r4,rfl,rfl⟩;refine OL.n1 rfl (PW.k3 0 3 4 rfl (PW.seq fun K1 hK1=>?_))
 refine PW.dy (Ss:=Over (ocell r4 (.slice none 0 0)::sseg r3 s A cc::eg c K::S)) (fr:=false) [(0,0),(1,0),(3,0),(4,0),(2,2),(5,2),(6,0),(7,0),(8,0),(9,0)] mixed (by decide +kernel) (Over.refl _) (fun h=>by cases h) ?_
 refine GL.dp rfl ?_;refine GL.ak trivial (fun Sx hSx=>Yields.aT rfl rfl (av (c:=secC s A cc) (E:=81) (tot:=3) (hSx _ dm))) ?_
 refine GL.dp rfl ?_;refine GL.ak trivial (fun Sx hSx=>Yields.ld rfl (az (j:=2) (c:=secC s A cc) (E:=81) (tot:=3) (hSx _ dm) rfl)) ?_
 refine GL.lo trivial (OW.mono (OW.call rfl (ctexts_fc (h.mono (Over.refl _).cons.cons.cons) (fun q hq=>(hC.cons.cons.cons) q hq) hf ht)) ?_)
 rintro v17 _ ⟨sgt,rfl,hst⟩;obtain⟨At,ct,rfl,hnt,hct,hrt⟩:=aF (w0:=w0) hst;refine⟨(Over.refl _).cons,?_⟩;refine GL.lo trivial (OW.mono (OW.call rfl (My.diff_fc (xs:=db c.I s.fr s.to) (ys:=s.lines) (hrt _) (hls.mono (Over.refl _).cons.cons.cons.cons) (by omega) (by omega))) ?_)
 rintro v20 _ ⟨u,sgd,rfl,rfl,hsd⟩;obtain⟨L,hL⟩:∃z,z=scr (db c.I s.fr s.to) s.lines:=⟨_,rfl⟩;rw[<- hL] at hsd;have hLl:L.length<=2000:=by have:=scr_length (db c.I s.fr s.to) s.lines;rw[<- hL] at this;omega
 obtain⟨Au,cu,rfl,hnu,hcu,hru⟩:=aF (w0:=w0) hsd;refine⟨(Over.refl _).cons.cons,?_⟩;refine GL.dp rfl ?_;refine GL.dp rfl ?_;refine GL.dp rfl ?_;refine GL.dp rfl ?_;change OL _ _ _ [_] _ _ _;refine OL.n1 rfl (hK1 _ _ (PW.k5 0 3 4 5 6 rfl (PW.seq fun K2 hK2=>PW.ae (OL.dp rfl (OL.x (Yields.to (v':=.bool false) (Yields.pure rfl) rfl) (OL.nil (PW.k6 0 3 4 5 6 24 rfl (PW.ite (b:=false) rfl ?_))))))))
 rw[if_neg Bool.false_ne_true];refine PW.skip (hK2 _ _ (PW.k4 0 3 4 6 rfl (PW.ae (OL.dp rfl (OL.x (Yields.ld rfl (az (j:=0) (c:=secC s A cc) (E:=81) (tot:=3) zM3 rfl)) (OL.c OW.al ?_))))));rintro _ _ ⟨r7,rfl,rfl⟩;refine OL.c (OW.st (k:=0) rfl rfl rfl rfl (Nat.le_refl 1) rfl) ?_;rintro _ _ rfl;refine OL.nil (PW.k5 0 3 4 6 7 rfl (PW.ae (OL.c OW.al ?_)));rintro _ _ ⟨r8,rfl,rfl⟩;refine OL.c (OW.st (k:=0) rfl rfl rfl rfl (Nat.le_refl 1) rfl) ?_;rintro _ _ rfl;refine OL.nil (PW.k6 0 3 4 6 7 8 rfl (PW.ae (OL.bZ (S':=bcell r8 false::ocell r4 (.slice none 0 0)::icell r7 s.fr::[]::[]::[]::eg c K::sseg r3 s A cc::sgd::S) ((Sub.cons (Sub.cons (Sub.cons (Sub.cL (Sub.cL (Sub.cL (Sub.refl _))))))).trans (Sub.ec [0,4,1,6,5,2] 7 (by decide) (bcell r8 false::icell r7 s.fr::sgd::sgt::ocell r4 (.slice none 0 0)::sseg r3 s A cc::eg c K::S))) (OL.x (Yields.mkF rfl) (OL.n1 rfl (PW.k7 0 3 4 6 7 8 9 rfl (PW.seq fun K3 hK3=>PW.ae (OL.p2 rfl rfl ?_))))))))
 refine OL.n1 rfl (PW.k9 0 3 4 7 8 9 29 30 31 rfl (PW.block (PW.k9 0 3 4 7 8 9 29 30 31 rfl ?_)));refine PW.aR (I:=fun m T S'=>∃(k:Nat) (st:RS) (l:List bX) (v:Value) (sg sl aH:bD),(k<=L.length/\m=L.length-k/\st=(L.take k).foldl (cf s.lines) ⟨s.fr,false,[],K⟩/\l.map bX.pl=st.runs/\aV 84 3 v l.length (cZ l) sg/\fq w0 l sl aH/\(st.op=true->0<l.length)/\l.length<=k/\st.K.length=c.aC.length/\∀x∈l,x.lines.length<=k)/\T=([(0,c.ptr),(3,.pointer (some ⟨r3,0,none⟩)),(4,.pointer (some ⟨r4,0,none⟩)),(7,.pointer (some ⟨r7,0,none⟩)),(8,.pointer (some ⟨r8,0,none⟩)),(9,.func (.func 69) #[] #[.pointer (some ⟨r8,0,none⟩),.pointer (some ⟨r4,0,none⟩),.pointer (some ⟨r7,0,none⟩)]),(29,.slice Au L.length cu),(30,.int .i64 (L.length:Int)),(31,.int .i64 k)]:TT)/\S'=bcell r8 st.op::ocell r4 v::icell r7 st.at_::sg::sl::aH::eg c st.K::sseg r3 s A cc::sgd::S) (m:=L.length) ⟨0,_,[],_,[],[],[],⟨by omega,by omega,rfl,rfl,aV.nil 84 3,fq.nil,(fun h=>by cases h),by simp,hk,(by simp)⟩,rfl,rfl⟩ ?_
 rintro m _ _ ⟨k,st,l,v,sg,sl,aH,⟨hkL,hm,hst,hlp,hv,hin,hop,hlk,hKl,hxl⟩,rfl,rfl⟩;refine PW.s1 rfl (PW.k10 0 3 4 7 8 9 29 30 31 32 rfl (PW.seq fun K4 hK4=>?_))
 refine PW.cond rfl (fun c32=>?_) (fun c32=>?_)
 ·try simp only[aD] at c32
  have hkl:k<L.length:=by omega
  obtain⟨a0,rfl⟩:=(hru []).some (My.stsC_ne (by omega))
  refine PW.skip (hK4 _ _ (PW.k9 0 3 4 7 8 9 29 30 31 rfl (PW.seq fun K5 hK5=>PW.block (PW.ae (OL.x (Yields.bO rfl rfl rfl (by omega)) ?_)))))
  refine OL.x (Yields.aT rfl rfl (fun j v hj=>My.st_at (k:=k) (l:=L) ((hru S).mono (Over.refl _).cons.cons.cons.cons.cons.cons.cons.cons) hkl j (show j<(My.stC L[k]).length from(List.getElem?_eq_some_iff.1 hj).1) hj)) ?_
  refine OL.c OW.al ?_;rintro _ _ ⟨r11,rfl,rfl⟩;refine OL.c (step_st rfl rfl rfl) ?_;rintro _ _ rfl;refine OL.nil (PW.k10 0 3 4 7 8 9 11 29 30 31 rfl (PW.ae (OL.dp rfl (OL.x (Yields.ld rfl (az (j:=0) (c:=My.stC L[k]) (E:=138) (tot:=3) bF rfl)) (OL.nil (PW.k11 0 3 4 7 8 9 11 29 30 31 36 rfl (PW.block (PW.s2 rfl rfl ?_))))))));refine PW.k12 0 3 4 7 8 9 11 29 30 31 36 37 rfl ?_;refine PW.cond rfl (fun c37=>?_) (fun c37=>?_)
  ·try simp only[aD] at c37
   have hai:st.at_+1<=st.K.length:=by
    have:=at_room (I:=c.I) (K:=K) hL hf (by rw[c.I_len];exact ht) hkl (by unfold bM;simp[c37])
    rw[<- hst] at this;omega
   refine PW.seq fun K6 hK6=>PW.aQ mixed (QK.dp rfl (QK.x (Yields.cF rfl) (QK.dp rfl (QK.x (Yields.ld rfl (az (j:=2) (c:=c.cells) (E:=71) (tot:=3) (hC.cons.cons.cons.cons.cons.cons.cons.cons.cons.cons _ (List.mem_flatten.2 ⟨_,List.mem_singleton.2 rfl,List.mem_singleton.2 rfl⟩)) rfl)) (QK.x (Yields.ld rfl (az (j:=0) (c:=[.int .i64 (st.at_:Int)]) (E:=3) (tot:=1) zM3 rfl)) (QK.nil ?_))))))
   change OL _ _ _ [_,_] _ _ _;refine OL.x (Yields.to (v':=.pointer (some ⟨c.rk,st.at_,none⟩)) (Yields.dY rfl rfl rfl (by omega)) (by simp[Addr.add,eq_comm])) ?_
   refine OL.c (OW.st (k:=7) rfl rfl rfl rfl (by rw[List.length_map];exact hai) rfl) ?_
   rintro _ _ rfl;refine OL.nil (hK6 _ _ (PW.k9 0 3 4 7 8 9 29 30 31 rfl (PW.ae (OL.x (Yields.ld rfl (az (j:=0) (c:=[.int .i64 (st.at_:Int)]) (E:=3) (tot:=1) zM3 rfl)) (OL.x (Yields.ao rfl rfl (by omega) (by omega)) (OL.c (OW.st (k:=3) rfl rfl rfl rfl (Nat.le_refl 1) rfl) ?_))))))
   rintro _ _ rfl;refine OL.nil (PW.k9 0 3 4 7 8 9 29 30 31 rfl (PW.ops (OL.c (OW.st (k:=1) rfl rfl rfl rfl (Nat.le_refl 1) rfl) ?_)));rintro _ _ rfl;refine OL.nil (hK5 _ _ (PW.k9 0 3 4 7 8 9 29 30 31 rfl (PW.ops (OL.x (Yields.ao rfl rfl (by omega) (by omega)) (OL.n1 rfl ?_)))))
   refine af.dE (Sub.drop (Sub.refl _)) (T'':=[(0,_),(3,_),(4,_),(7,_),(8,_),(9,_),(29,_),(30,_),(31,_)]) (wi rfl) ?_;have hfs:=fold_snoc (ls:=s.lines) hkl ⟨s.fr,false,[],K⟩
   rw[<- hst] at hfs;have hs0:cf s.lines st L[k] =⟨st.at_+1,false,st.runs,st.K.set st.at_ true⟩:=by unfold cf;rw[if_pos c37]
   refine⟨L.length-(k+1),by omega,k+1,cf s.lines st L[k],l,v,sg,sl,aH,⟨by omega,rfl,hfs.symm,by rw[hs0];exact hlp,hv,hin,by rw[hs0];exact(fun h=>by cases h),by omega,by rw[hs0];simpa using hKl,fun x hx=>by have:=hxl x hx;omega⟩,rfl,?_⟩
   rw[hs0];refine List.cons_eq_cons.2 ⟨rfl,List.cons_eq_cons.2 ⟨rfl,List.cons_eq_cons.2 ⟨rfl,List.cons_eq_cons.2 ⟨rfl,List.cons_eq_cons.2 ⟨rfl,List.cons_eq_cons.2 ⟨rfl,List.cons_eq_cons.2 ⟨?_,rfl⟩⟩⟩⟩⟩⟩⟩;exact(congrArg (fun z=>[(c.rk,AO.cells z 4 (c.aC.length*1))]) (kseg_set c st.K st.at_ (by omega)))
  try simp only[aD] at c37
  refine PW.s2 rfl rfl (PW.k12 0 3 4 7 8 9 11 29 30 31 36 47 rfl ?_);refine PW.cond rfl (fun c47=>?_) (fun c47=>?_)
  ·try simp only[aD] at c47
   have hai:st.at_+1<=st.K.length:=by
    have:=at_room (I:=c.I) (K:=K) hL hf (by rw[c.I_len];exact ht) hkl (by unfold bM;simp[c47])
    rw[<- hst] at this;omega
   refine PW.ae (OL.bZ (S':=bcell r8 st.op::ocell r4 v::icell r7 st.at_::sg::[(r11,.cells (My.stC L[k]) 138 3)]::sl::aH::eg c st.K::sseg r3 s A cc::sgd::S) (Sub.ec [1,2,3,4,0,5,6,7,8,9] 10 (by decide) ([(r11,.cells (My.stC L[k]) 138 3)]::bcell r8 st.op::ocell r4 v::icell r7 st.at_::sg::sl::aH::eg c st.K::sseg r3 s A cc::sgd::S)) (OL.dp rfl ?_))
   refine OL.c (OW.callv (fi:=[]) rfl (by kernel_rfl) rfl (grow_fc hv hop (by omega))) ?_
   rintro _ _ ⟨qo,co,rfl,rfl,hco,hcm⟩;obtain⟨sl2,junk2,hin2,hsub⟩:=hin.grow (op:=st.op) (at_:=st.at_);have hgl:=grow_le (op:=st.op) (at_:=st.at_) (l:=l)
   obtain⟨l0,x,hG⟩:=runs_split (growM st.op st.at_ l) (grow_pos hop);have hGp:=grow_pl (st:=st) hlp
   have hGx:∀y∈growM st.op st.at_ l,y.lines.length<=k:=by
    intro y hy;unfold growM at hy;split at hy
    ·exact hxl y hy
    rcases List.mem_append.1 hy with h|h
    ·exact hxl y h
    rw[List.mem_singleton.1 h];simp
   rw[hG] at hGx;have hxk:=hGx x (by simp)
   rw[hG] at hGp hin2 hco hgl ⊢;refine OL.bZ (S':=bcell r8 true::ocell r4 (.slice (some ⟨qo,0,none⟩) (l0++[x]).length co)::icell r7 st.at_::rrow qo co (l0++[x])::[(r11,.cells (My.stC L[k]) 138 3)]::sl2::junk2::eg c st.K::sseg r3 s A cc::sgd::S) (Sub.cons (Sub.cons (Sub.cons (Sub.cons (Sub.cons (hsub _)))))) (OL.n1 rfl (PW.k10 0 3 4 7 8 9 12 29 30 31 rfl (PW.ae (OL.x (Yields.ld rfl (az (j:=0) (c:=[.int .i64 (st.at_:Int)]) (E:=3) (tot:=1) zM2 rfl)) (OL.x (Yields.ao rfl rfl (by omega) (by omega)) (OL.c (OW.st (k:=2) rfl rfl rfl rfl (Nat.le_refl 1) rfl) ?_))))))
   rintro _ _ rfl;refine OL.nil (PW.k10 0 3 4 7 8 9 12 29 30 31 rfl (PW.ops (OL.dp rfl (OL.x (Yields.ld rfl (az (j:=0) (c:=[.int .i64 ((st.at_+1:Nat):Int)]) (E:=3) (tot:=1) zM2 rfl)) (OL.x (Yields.cF rfl) (OL.dp rfl ?_))))));refine OL.c (OW.st (k:=3) rfl rfl rfl rfl (by rw[cQ];simp;omega) rfl) ?_
   rintro _ _ rfl;refine OL.nil (hK5 _ _ (PW.k9 0 3 4 7 8 9 29 30 31 rfl (PW.ops (OL.x (Yields.ao rfl rfl (by omega) (by omega)) (OL.n1 rfl ?_)))))
   refine af.dE (Sub.ec [0,1,2,3,5,6,7,8,9] 10 (by decide) _) (T'':=[(0,_),(3,_),(4,_),(7,_),(8,_),(9,_),(29,_),(30,_),(31,_)]) (wi rfl) ?_
   have hfs:=fold_snoc (ls:=s.lines) hkl ⟨s.fr,false,[],K⟩
   rw[<- hst] at hfs;have hs0:cf s.lines st L[k] =⟨st.at_+1,true,modLast (fun r=>{ r with to:=st.at_+1 }) (growR st),st.K⟩:=by unfold cf;rw[if_neg c37,if_pos c47]
   have hnl:(l0++[({ x with to:=st.at_+1 }:bX)]).length=(l0++[x]).length:=by simp
   refine⟨L.length-(k+1),by omega,k+1,cf s.lines st L[k],l0++[({ x with to:=st.at_+1 }:bX)],.slice (some ⟨qo,0,none⟩) (l0++[({ x with to:=st.at_+1 }:bX)]).length co,rrow qo co (l0++[({ x with to:=st.at_+1 }:bX)]),sl2,junk2,⟨by omega,rfl,hfs.symm,by rw[hs0,<- hGp];simp only[List.map_append,List.map_cons,List.map_nil];rw[fG];rfl,runs_slv (by rw[hnl];exact hco) hcm,hin2.last' (hin2.last x (by simp)),fun _=>by simp,by rw[hnl];omega,by rw[hs0];exact hKl,?_⟩,rfl,?_⟩
   ·intro y hy;rcases List.mem_append.1 hy with h|h
    ·have:=hGx y (List.mem_append_left _ h);omega
    rw[List.mem_singleton.1 h];show x.lines.length<=k+1;omega
   rw[hs0,hnl];refine List.cons_eq_cons.2 ⟨rfl,List.cons_eq_cons.2 ⟨rfl,List.cons_eq_cons.2 ⟨rfl,List.cons_eq_cons.2 ⟨?_,rfl⟩⟩⟩⟩;exact congrArg (fun z=>[(qo,AO.cells z 84 (co*3))]) (set_to l0 x (st.at_+1))
  try simp only[aD] at c47
  refine PW.s2 rfl rfl (PW.k11 0 3 4 7 8 9 11 29 30 31 57 rfl ?_);refine PW.cond rfl (fun c57=>?_) (fun c57=>?_)
  ·try simp only[aD] at c57
   obtain⟨b,hb,hbl⟩:=scr_new (xs:=db c.I s.fr s.to) (ys:=s.lines) (t:=L[k]) (by rw[<- hL];exact List.getElem_mem hkl) c57
   obtain⟨aL,haL⟩:=hls.some (by unfold strs;intro e;have:=congrArg List.length e;simp at this;rw[this] at hbl;simp at hbl)
   refine PW.ae (OL.bZ (S':=bcell r8 st.op::ocell r4 v::icell r7 st.at_::sg::[(r11,.cells (My.stC L[k]) 138 3)]::sl::aH::eg c st.K::sseg r3 s A cc::sgd::S) (Sub.ec [1,2,3,4,0,5,6,7,8,9] 10 (by decide) ([(r11,.cells (My.stC L[k]) 138 3)]::bcell r8 st.op::ocell r4 v::icell r7 st.at_::sg::sl::aH::eg c st.K::sseg r3 s A cc::sgd::S)) (OL.dp rfl ?_))
   refine OL.c (OW.callv (fi:=[]) rfl (by kernel_rfl) rfl (grow_fc hv hop (by omega))) ?_
   rintro _ _ ⟨qo,co,rfl,rfl,hco,hcm⟩;obtain⟨sl2,junk2,hin2,hsub⟩:=hin.grow (op:=st.op) (at_:=st.at_);have hgl:=grow_le (op:=st.op) (at_:=st.at_) (l:=l)
   obtain⟨l0,x,hG⟩:=runs_split (growM st.op st.at_ l) (grow_pos hop);have hGp:=grow_pl (st:=st) hlp
   have hGx:∀y∈growM st.op st.at_ l,y.lines.length<=k:=by
    intro y hy;unfold growM at hy;split at hy
    ·exact hxl y hy
    rcases List.mem_append.1 hy with h|h
    ·exact hxl y h
    rw[List.mem_singleton.1 h];simp
   rw[hG] at hGx;have hxk:=hGx x (by simp)
   rw[hG] at hGp hin2 hco hgl ⊢;refine OL.bZ (S':=bcell r8 true::ocell r4 (.slice (some ⟨qo,0,none⟩) (l0++[x]).length co)::icell r7 st.at_::rrow qo co (l0++[x])::[(r11,.cells (My.stC L[k]) 138 3)]::sl2::junk2::eg c st.K::sseg r3 s A cc::sgd::S) (Sub.cons (Sub.cons (Sub.cons (Sub.cons (Sub.cons (hsub _)))))) (OL.n1 rfl (PW.k11 0 3 4 7 8 9 11 13 29 30 31 rfl ?_));refine PW.dy (Ss:=Over (bcell r8 true::ocell r4 (.slice (some ⟨qo,0,none⟩) (l0++[x]).length co)::icell r7 st.at_::rrow qo co (l0++[x])::[(r11,.cells (My.stC L[k]) 138 3)]::sl2::junk2::eg c st.K::sseg r3 s A cc::sgd::S)) (fr:=false) [(0,0),(1,0),(2,0),(3,0),(4,0),(5,0),(6,0),(7,0),(8,0),(9,0),(10,0),(11,2)] mixed (by decide +kernel) (Over.refl _) (fun h=>by cases h) ?_
   refine GL.dp rfl ?_;refine GL.dp rfl ?_;refine GL.ak trivial (fun Sx hSx=>Yields.cF rfl) ?_
   refine GL.dp rfl ?_;refine GL.ak trivial (fun Sx hSx=>Yields.ld rfl (run_lines_at (co:=co) (hSx _ zM3))) ?_
   refine GL.dp rfl ?_;refine GL.ak trivial (fun Sx hSx=>Yields.ld rfl (az (j:=2) (c:=secC s A cc) (E:=81) (tot:=3) (hSx _ zM8) rfl)) ?_
   refine GL.dp rfl ?_;refine GL.ak trivial (fun Sx hSx=>Yields.ld rfl (az (j:=2) (c:=My.stC L[k]) (E:=138) (tot:=3) (hSx _ zM4) rfl)) ?_
   refine GL.ak trivial (fun Sx hSx=>Yields.dY (congrArg (fun z=>some (Value.slice z s.lines.length cc)) haL) (congrArg (fun z=>some (Value.int .i64 z)) hb) rfl hbl) ?_
   refine GL.ak trivial (fun Sx hSx=>Yields.ld rfl (((show Rd w0 S (some aL) (strs s.lines) from by rw[<- haL];exact hls).mono fun q hq=>hSx q ((Over.refl S).cons.cons.cons.cons.cons.cons.cons.cons.cons.cons q hq)).at (j:=b) (v:=.string s.lines[b]) (by unfold strs;rw[List.getElem?_map,List.getElem?_eq_getElem hbl];rfl))) ?_
   refine GL.lo trivial (OW.mono (K:=fun u S'=>∃r,u=.slice (some ⟨r,0,none⟩) 1 1/\S'=[(r,.cells [.string s.lines[b]] 9 1)]::bcell r8 true::ocell r4 (.slice (some ⟨qo,0,none⟩) (l0++[x]).length co)::icell r7 st.at_::rrow qo co (l0++[x])::[(r11,.cells (My.stC L[k]) 138 3)]::sl2::junk2::eg c st.K::sseg r3 s A cc::sgd::S) (OW.fl rfl) fun v S2 hk=>⟨(fun u S' ⟨r,_,h⟩=>by rw[h];exact(Over.refl _).cons) v S2 hk,?_⟩)
   revert v S2
   rintro _ _ ⟨r72,rfl,rfl⟩;change OL _ _ _ [_,_,_,_] _ _ _;refine OL.c (OW.app (k:=6) rfl rfl (hin2.last x (by simp)) rfl (news:=[.string s.lines[b]]) rfl (fun j u hj=>(Rd.own (xs:=[.string s.lines[b]]) (E:=9) (tot:=1) bF).at hj) rfl (by omega) (by unfold maxLen;omega)) ?_
   rintro v73 _ ⟨seg73,rfl,hsl73⟩;have h73:aV 9 1 v73 (x.lines++[s.lines[b]]).length (strs (x.lines++[s.lines[b]])) seg73:=by simpa[strs] using hsl73
   obtain⟨A3,c3,rfl,-,-,-⟩:=aF (w0:=w0) h73;refine OL.x (Yields.cF rfl) (OL.dp rfl ?_);refine OL.c (OW.st (k:=4) rfl rfl rfl rfl (by rw[cQ];simp;omega) rfl) ?_
   rintro _ _ rfl;refine OL.nil (hK5 _ _ (PW.k9 0 3 4 7 8 9 29 30 31 rfl (PW.ops (OL.x (Yields.ao rfl rfl (by omega) (by omega)) (OL.n1 rfl ?_)))))
   refine af.dE (Sub.ec [1,2,3,4,6,7,8,9,10] 11 (by decide) _) (T'':=[(0,_),(3,_),(4,_),(7,_),(8,_),(9,_),(29,_),(30,_),(31,_)]) (wi rfl) ?_
   have hfs:=fold_snoc (ls:=s.lines) hkl ⟨s.fr,false,[],K⟩
   rw[<- hst] at hfs;have hbe:s.lines[L[k].2.2.toNat]! = s.lines[b]:=by rw[hb];exact getElem!_pos s.lines b hbl
   have hs0:cf s.lines st L[k] =⟨st.at_,true,modLast (fun r=>{ r with lines:=r.lines++[s.lines[b]] }) (growR st),st.K⟩:=by unfold cf;rw[if_neg c37,if_neg c47,hbe]
   have hnl:(l0++[({ x with A:=A3,c:=c3,lines:=x.lines++[s.lines[b]] }:bX)]).length=(l0++[x]).length:=by simp
   refine⟨L.length-(k+1),by omega,k+1,cf s.lines st L[k],l0++[({ x with A:=A3,c:=c3,lines:=x.lines++[s.lines[b]] }:bX)],.slice (some ⟨qo,0,none⟩) (l0++[({ x with A:=A3,c:=c3,lines:=x.lines++[s.lines[b]] }:bX)]).length co,rrow qo co (l0++[({ x with A:=A3,c:=c3,lines:=x.lines++[s.lines[b]] }:bX)]),seg73,junk2,⟨by omega,rfl,hfs.symm,by rw[hs0,<- hGp];simp only[List.map_append,List.map_cons,List.map_nil];rw[fG];rfl,runs_slv (by rw[hnl];exact hco) hcm,hin2.last' h73,fun _=>by simp,by rw[hnl];omega,by rw[hs0];exact hKl,?_⟩,rfl,?_⟩
   ·intro y hy;rcases List.mem_append.1 hy with h|h
    ·have:=hGx y (List.mem_append_left _ h);omega
    rw[List.mem_singleton.1 h];show(x.lines++[s.lines[b]]).length<=k+1;rw[List.length_append,List.length_singleton];omega
   rw[hs0,hnl];refine List.cons_eq_cons.2 ⟨rfl,List.cons_eq_cons.2 ⟨rfl,List.cons_eq_cons.2 ⟨rfl,List.cons_eq_cons.2 ⟨?_,rfl⟩⟩⟩⟩;exact congrArg (fun z=>[(qo,AO.cells z 84 (co*3))]) (set_lines l0 x A3 c3 (x.lines++[s.lines[b]]))
  try simp only[aD] at c57
  exfalso;have:=scr_op (xs:=db c.I s.fr s.to) (ys:=s.lines) (t:=L[k]) (by rw[<- hL];exact List.getElem_mem hkl)
  omega -- done
 try simp only[aD] at c32
 refine PW.exit (hK3 _ _ (PW.k1 4 rfl (PW.ae ?_)));obtain⟨Av,cv,rfl⟩:∃A c,v=.slice A l.length c:=by
  obtain⟨_,⟨h1,h2,_⟩|⟨r,cap,h1,_⟩⟩:=hv
  ·exact⟨none,0,by rw[h1,h2]⟩
  exact⟨_,_,h1⟩
 refine OL.x (Yields.ld rfl (az (j:=0) (c:=[.slice Av l.length cv]) (E:=79) (tot:=1) dm rfl)) (OL.c (OW.st (k:=1) rfl rfl rfl rfl (Nat.le_refl 1) rfl) ?_);rintro _ _ rfl;refine OL.n1 rfl (PW.k2 4 5 rfl (PW.ret ?_));change(Exit.ret=Exit.normal∨Exit.ret=Exit.ret)/\∃a v x,Go.SL.look _ _=some (.pointer (some a))/\ReadsAs _ _ _ _ _/\Go.SL.look _ _=some x/\_;have hkk:k=L.length:=by omega
 have hrr:fb c.I s K=st:=by unfold fb;rw[<- hL,hst,hkk,List.take_length]
 exact⟨.inr rfl,_,_,_,rfl,az (j:=0) (c:=[.slice Av l.length cv]) (E:=79) (tot:=1) dm rfl,rfl,_,(Sub.cons Sub.join).trans (Sub.ec [3,4,5,6] 9 (by decide) (bcell r8 st.op::ocell r4 (.slice Av l.length cv)::icell r7 st.at_::sg::sl::aH::eg c st.K::sseg r3 s A cc::sgd::S)),_,l,sg,_,rfl,by rw[hrr];rfl,hv,hin.all,by rw[hrr];exact hlp,by omega⟩
end Go.Proofs.Gr
