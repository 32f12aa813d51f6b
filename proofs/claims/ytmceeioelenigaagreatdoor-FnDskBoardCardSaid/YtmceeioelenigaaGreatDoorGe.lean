/- Plain laws: what is drawn, boards; the law. -/
import Derived.Test.YtmceeioelenigaaGreatDoorGc
section
namespace T
open Go Go.E Go.Proofs
theorem Ql{α:Type}{l:List α}{i:Nat}(z:α)(h:i<l.length):(l.take i).append [gt l (i:Int) z]=l.take (i+1):=by
 rw[gB h]
 exact (List.take_succ_eq_append_getElem h).symm
theorem ag1(a0 a1 a2 a3:Int)(J:List Job)(F:List G8)(A:List Str)(O:List Out)(b0 b1 b2 b3 c0 c1 c2 c3:Int)(hO:O.length<=1000)(hd:∀ o∈O,o.2.2.length<=300):
  ∀ (m i:Nat),i+m=O.length->JU (O7 i a0 a1 a2 a3 J F A O b0 b1 b2 b3 c0 c1 c2 c3 J F A (O.take i))=some (c0,c1,c2,c3,J,F,A,O)
 |0,i,h=>by
  refine eL ((acy dd JU ..).trans ?_);show (_:Option (zTs))=some _
  rw[ay (by rw[bF];omega),List.take_of_length_le (by omega)]
 |m+1,i,h=>by
  have hi:i<O.length:=by omega
  have h2:=hd _ (List.getElem_mem hi)
  refine eL ((acy dd JU ..).trans ?_);show (_:Option (zTs))=some _
  rw[au (by rw[bF];omega),if_pos (by omega),if_pos (by rw[bF];omega),if_pos (by rw[gB hi];omega),if_pos (by rw[List.length_take];omega),Ql (0,0,[]) hi,aI (by omega) (by omega)]
  exact ag1 a0 a1 a2 a3 J F A O b0 b1 b2 b3 c0 c1 c2 c3 hO hd m (i+1) (by omega)
theorem ag2(a0 a1 a2 a3:Int)(J:List Job)(F:List G8)(A:List Str)(O:List Out)(b0 b1 b2 b3 c0 c1 c2 c3:Int)(hO:O.length<=1000)(hd:∀ o∈O,o.2.2.length<=300)(hF:F.length<=1000)(hf:∀ f∈F,f.2.2.length<=300):
  ∀ (m i:Nat),i+m=F.length->JU (O6 i a0 a1 a2 a3 J F A O b0 b1 b2 b3 c0 c1 c2 c3 J (F.take i) A)=some (c0,c1,c2,c3,J,F,A,O)
 |0,i,h=>by
  refine eL ((acw dd JU ..).trans ?_)
  rw[ay (by rw[bF];omega),List.take_of_length_le (by omega)]
  exact ag1 a0 a1 a2 a3 J F A O b0 b1 b2 b3 c0 c1 c2 c3 hO hd O.length 0 (by omega)
 |m+1,i,h=>by
  have hi:i<F.length:=by omega
  have h2:=hf _ (List.getElem_mem hi)
  refine eL ((acw dd JU ..).trans ?_)
  rw[au (by rw[bF];omega),if_pos (by omega),if_pos (by rw[bF];omega),if_pos (by rw[gB hi];omega),if_pos (by rw[List.length_take];omega),Ql (ByteArray.mk #[],0,[]) hi,aI (by omega) (by omega)]
  exact ag2 a0 a1 a2 a3 J F A O b0 b1 b2 b3 c0 c1 c2 c3 hO hd hF hf m (i+1) (by omega)
theorem ag3(a0 a1 a2 a3:Int)(J:List Job)(F:List G8)(A:List Str)(O:List Out)(b0 b1 b2 b3 c0 c1 c2 c3:Int)(hO:O.length<=1000)(hd:∀ o∈O,o.2.2.length<=300)(hF:F.length<=1000)(hf:∀ f∈F,f.2.2.length<=300)
  (hJ:J.length<=1000) (hj:∀ j∈J,j.2.2.1.length<=300):
  ∀ (m i:Nat),i+m=J.length->JU (JR i a0 a1 a2 a3 J F A O b0 b1 b2 b3 c0 c1 c2 c3 (J.take i) A)=some (c0,c1,c2,c3,J,F,A,O)
 |0,i,h=>by
  refine eL ((acv dd JU ..).trans ?_)
  rw[ay (by rw[bF];omega),List.take_of_length_le (by omega)]
  exact ag2 a0 a1 a2 a3 J F A O b0 b1 b2 b3 c0 c1 c2 c3 hO hd hF hf F.length 0 (by omega)
 |m+1,i,h=>by
  have hi:i<J.length:=by omega
  have hg:gt J (i:Int) (0,ByteArray.mk #[],[],0)=J[i]:=gB hi
  have h2:=hj _ (List.getElem_mem hi)
  refine eL ((acv dd JU ..).trans ?_)
  rw[au (by rw[bF];omega),if_pos (by omega),if_pos (by rw[bF];omega),arl (by rw[hg];omega),abJ,if_pos (by rw[List.length_take];omega)]
  have e:=Ql (0,ByteArray.mk #[],[],0) hi
  refine (congrArg (fun x=>JU (JR _ a0 a1 a2 a3 J F A O b0 b1 b2 b3 c0 c1 c2 c3 x A)) e).trans ?_
  rw[aI (by omega) (by omega)]
  exact ag3 a0 a1 a2 a3 J F A O b0 b1 b2 b3 c0 c1 c2 c3 hO hd hF hf hJ hj m (i+1) (by omega)
theorem arw{n:Nat}{s:Ts}(hs:mQ n s)(hn:n<=1000):aki dd s=some s:=by
 obtain⟨hj,hf,ha,ho,hx,h1,h2,h3⟩:=hs
 obtain⟨a0,a1,a2,a3,J,F,A,O⟩:=s
 dsimp only at hj hf ha ho h1 h2 h3
 refine dL rfl ((aox dd JU ..).trans ?_)
 rw[if_pos (by omega)]
 exact ag3 a0 a1 a2 a3 J F A O 0 0 0 0 a0 a1 a2 a3 (by omega) (fun o ho=>(h3 o ho).2) (by omega) (fun f hf=>(h2 f hf).2) (by omega) h1 J.length 0 (by omega)
end T
end
section
namespace T
open Go Go.E Go.Proofs
theorem ag4(n:Int)(hn:n<=1000){k:Int}{s:List Int×Int}(hs:Rd k s)(hk:k<=700000000):∃ f s',aeY dd (s,n)=some (f,s')∧fB f∧f.length<=300∧Rd (k+3000) s':=by
 obtain⟨kd,s1,h1,g1,r1⟩:=aqd hs (by omega)
 obtain⟨note,s2,h2,g2,n2,r2⟩:=D50 9 r1 (by omega) (by omega)
 obtain⟨ras,s3,h3,g3,r3⟩:=aqe r2 (by omega)
 obtain⟨W,H,hnn⟩:=zT.1 g3
 have hm:=qo hnn.h6 hnn.w6
 have hl:=hnn.len
 have h4:=aqz kd note (by omega) ras (by show ras.2.2.length<_;omega)
 have e4:Ky kd note ras=oW kd note ras:=by unfold Ky;rw[if_pos ⟨g1,n2,g3⟩]
 rw[e4] at h4
 obtain⟨fb,fl⟩:=Nq g1 g2 n2 hnn
 obtain⟨v5,s5,h5,r5,g5⟩:=SX n r3 (by omega) (by omega)
 obtain⟨b,p⟩:=s
 have start:∀ {x:List Int×List Int×Int},(bif v5 then (iZ dd (s5,4)).bind fun (rM:Int×List Int×Int)=>bif rM.fst==0 then (ahO dd (rM.snd,oW kd note ras)).bind fun (r:List Int×List Int×Int)=>some r else bif rM.fst==1 then (r50 dd (rM.snd,12)).bind fun (r:List Int×List Int×Int)=>some r else bif rM.fst==2 then (iZ dd (rM.snd,256)).bind fun (yN:Int×List Int×Int)=>if 0<ln (oW kd note ras) then some ((oW kd note ras).set 0 (wb yN.fst),yN.snd) else none else some (0::List.replicate 220 0,rM.snd) else some (oW kd note ras,s5))=some x->aeY dd ((b,p),n)=some x:=by
  intro x h
  refine dL rfl ((aof dd aog ..).trans ?_)
  rw[h1,abJ]
  show ((r50 dd (s1,9)).bind _)=_
  have h2':r50 dd (s1,9)=some (note,s2):=h2
  rw[h2',abJ]
  show ((ahN dd (s2,0)).bind _)=_
  rw[h3,abJ]
  show ((ae2 dd (kd,note,ras)).bind _)=_
  rw[h4,abJ]
  show ((KZ dd (s3,n)).bind _)=_
  rw[h5,abJ]
  exact h
 cases v5 with
 |false=>exact⟨oW kd note ras,s5,start rfl,fb,by omega,r5.le (by omega)⟩
 |true=>
  obtain⟨v6,s6,h6,l1,l2,r6⟩:=lg 4 r5 (by omega) (by omega)
  by_cases c0:v6=0
  ·obtain⟨f',s7,h7,b7,n7,r7⟩:=aqR r6 (by omega) fb (by omega)
   refine⟨f',s7,start ?_,b7,by omega,r7.le (by omega)⟩
   rw[cond_true,h6,abJ,aK c0,h7,abJ]
  by_cases c1:v6=1
  ·obtain⟨f',s7,h7,b7,n7,r7⟩:=D50 12 r6 (by omega) (by omega)
   refine⟨f',s7,start ?_,b7,by omega,r7.le (by omega)⟩
   have h7':r50 dd (s6,12)=some (f',s7):=h7
   rw[cond_true,h6,abJ,aA c0,aK c1,h7',abJ]
  by_cases c2:v6=2
  ·obtain⟨v7,s7,h7,_,_,r7⟩:=lg 256 r6 (by omega) (by omega)
   refine⟨(oW kd note ras).set 0 (wb v7),s7,start ?_,Xo fb (oM _),by rw[List.length_set];omega,r7.le (by omega)⟩
   have:0<ln (oW kd note ras):=by
    rw[bF];unfold oW;rw[List.length_cons];omega
   rw[cond_true,h6,abJ,aA c0,aA c1,aK c2,h7,abJ,if_pos this]
  ·refine⟨0::List.replicate 220 0,s6,start ?_,?_,by rw[List.length_cons,List.length_replicate];omega,r6.le (by omega)⟩
   ·rw[cond_true,h6,abJ,aA c0,aA c1,aA c2]
   ·refine bV.2 ⟨by omega,fun x hx=> ?_⟩
    rw[List.eq_of_mem_replicate hx];omega
theorem aiD{b:List Int}{p k x:Int}(hs:Rd k (b,p))(hk:k<=300000000):∃ e s',BU (lI x b p 0 (ByteArray.mk #[]) 0 0)=some (e,s')∧ad6 e∧Rd (k+3001) s':=by
 obtain⟨v1,s1,h1,a1,b1,r1⟩:=lg 9 hs (by omega) (by omega)
 by_cases c:v1=0
 ·refine⟨(3,ByteArray.mk #[],x,[],0),s1,?_,?_,r1.le (by omega)⟩
  ·refine eL ((ab7 dd BU ..).trans ?_);show (_:Option ahv)=some _
   rw[h1,abJ,aK c]
  ·exact⟨by show (ByteArray.mk #[]).size<=300;decide,fun x hx=>(List.not_mem_nil hx).elim,by simp⟩
 ·obtain⟨f,s2,h2,b2,l2,r2⟩:=ag4 6 (by omega) r1 (by omega)
  refine⟨(2,ByteArray.mk #[],x,f,0),s2,?_,?_,r2.le (by omega)⟩
  ·refine eL ((ab7 dd BU ..).trans ?_);show (_:Option ahv)=some _
   rw[h1,abJ,aA c,h2,abJ]
  ·exact⟨by show (ByteArray.mk #[]).size<=300;decide,b2,l2⟩
theorem amg{s:List Int×Int}{k:Int}(hs:Rd k s)(hk:k<=200000000)(nx:Int)(hx:nx<=1000)(J:List Job)(hJ:J.length<=1000):
  ∃ e s',((iZ dd (s,if nx>1 then nx else 1)).bind fun (r:Int×List Int×Int)=>bif decide (ln J>0) then (iZ dd (r.snd,6)).bind fun (dU:Int×List Int×Int)=>bif decide (dU.fst>0) then (iZ dd (dU.snd,ln J)).bind fun (r:Int×List Int×Int)=>if 0<=r.fst then if r.fst<ln J then BU (lI (gt J r.fst (0,ByteArray.mk #[],[],0)).fst r.snd.fst r.snd.snd 0 (ByteArray.mk #[]) 0 0) else none else none else BU (lI r.fst dU.snd.fst dU.snd.snd 0 (ByteArray.mk #[]) 0 0) else BU (lI r.fst r.snd.fst r.snd.snd 0 (ByteArray.mk #[]) 0 0))=some (e,s')∧ad6 e∧Rd (k+3010) s':=by
 obtain⟨v1,s1,h1,a1,b1,r1⟩:=lg (if nx>1 then nx else 1) hs (by omega) (by split<;>omega)
 by_cases c:ln J>0
 ·obtain⟨v2,s2,h2,a2,b2,r2⟩:=lg 6 r1 (by omega) (by omega)
  by_cases d:v2>0
  ·obtain⟨v3,s3,h3,a3,b3,r3⟩:=lg (ln J) r2 (by omega) (by rw[bF];omega)
   obtain⟨e,s',h,g,r⟩:=aiD (x:=(gt J v3 (0,ByteArray.mk #[],[],0)).fst) r3 (by omega)
   refine⟨e,s',?_,g,r.le (by omega)⟩
   rw[h1,abJ,au c,h2,abJ,au d,h3,abJ,if_pos a3,if_pos (b3 (by omega))]
   exact h
  ·obtain⟨e,s',h,g,r⟩:=aiD (x:=v1) r2 (by omega)
   refine⟨e,s',?_,g,r.le (by omega)⟩
   rw[h1,abJ,au c,h2,abJ,ay d]
   exact h
 ·obtain⟨e,s',h,g,r⟩:=aiD (x:=v1) r1 (by omega)
  refine⟨e,s',?_,g,r.le (by omega)⟩
  rw[h1,abJ,ay c]
  exact h
theorem amh{s:List Int×Int}{k:Int}(hs:Rd k s)(hk:k<=200000000)(key:List Int):
  ∃ e s',((YI dd (s,key)).bind fun (r:ByteArray×List Int×Int)=>some (((1,r.fst,0,[],0):Evt),r.snd))=some (e,s')∧ad6 e∧Rd (k+300) s':=by
 obtain⟨t,s',h,g,r⟩:=aq7 key hs (by omega)
 exact⟨_,s',by rw[h,abJ],⟨g,fun x hx=>(List.not_mem_nil hx).elim,by simp⟩,r⟩
theorem arx{s:List Int×Int}{k:Int}(hs:Rd k s)(hk:k<=100000000)(c:Cf)(t:Ts){n:Nat}(ht:mQ n t)(hn:n<=900):
  ∃ e s',aj9 dd (s,c,t)=some (e,s')∧ad6 e∧Rd (k+3020) s':=by
 obtain⟨v1,s1,h1,a1,b1,r1⟩:=lg 10 hs (by omega) (by omega)
 have hx:=ht.next
 have hj:=ht.jobs
 obtain⟨eF,mV⟩:=s
 obtain⟨t1,t2,t3,t4,t5,t6,t7,t8⟩:=t
 obtain⟨c1,c2,c3,c4,c5,c6,c7⟩:=c
 dsimp only at hx hj
 have A:=amh r1 (by omega) c1
 have B:=amg r1 (by omega) t4 (by omega) t5 (by omega)
 by_cases e0:v1=0
 ·obtain⟨e,s',h,g,r⟩:=A
  exact⟨e,s',by refine dL rfl ((OJ dd BU ..).trans ?_);show (_:Option ahv)=some _;rw[h1,abJ,aK e0];exact h,g,r.le (by omega)⟩
 by_cases e1:v1=1
 ·obtain⟨e,s',h,g,r⟩:=A
  exact⟨e,s',by refine dL rfl ((OJ dd BU ..).trans ?_);show (_:Option ahv)=some _;rw[h1,abJ,aA e0,aK e1];exact h,g,r.le (by omega)⟩
 by_cases e2:v1=2
 ·obtain⟨e,s',h,g,r⟩:=A
  exact⟨e,s',by refine dL rfl ((OJ dd BU ..).trans ?_);show (_:Option ahv)=some _;rw[h1,abJ,aA e0,aA e1,aK e2];exact h,g,r.le (by omega)⟩
 by_cases e3:v1=3
 ·obtain⟨e,s',h,g,r⟩:=A
  exact⟨e,s',by refine dL rfl ((OJ dd BU ..).trans ?_);show (_:Option ahv)=some _;rw[h1,abJ,aA e0,aA e1,aA e2,aK e3];exact h,g,r.le (by omega)⟩
 by_cases e4:v1=4
 ·obtain⟨e,s',h,g,r⟩:=B
  exact⟨e,s',by refine dL rfl ((OJ dd BU ..).trans ?_);show (_:Option ahv)=some _;rw[h1,abJ,aA e0,aA e1,aA e2,aA e3,aK e4];exact h,g,r.le (by omega)⟩
 by_cases e5:v1=5
 ·obtain⟨e,s',h,g,r⟩:=B
  exact⟨e,s',by refine dL rfl ((OJ dd BU ..).trans ?_);show (_:Option ahv)=some _;rw[h1,abJ,aA e0,aA e1,aA e2,aA e3,aA e4,aK e5];exact h,g,r.le (by omega)⟩
 by_cases e6:v1=6
 ·obtain⟨e,s',h,g,r⟩:=B
  exact⟨e,s',by refine dL rfl ((OJ dd BU ..).trans ?_);show (_:Option ahv)=some _;rw[h1,abJ,aA e0,aA e1,aA e2,aA e3,aA e4,aA e5,aK e6];exact h,g,r.le (by omega)⟩
 by_cases e7:v1=7
 ·obtain⟨e,s',h,g,r⟩:=B
  exact⟨e,s',by refine dL rfl ((OJ dd BU ..).trans ?_);show (_:Option ahv)=some _;rw[h1,abJ,aA e0,aA e1,aA e2,aA e3,aA e4,aA e5,aA e6,aK e7];exact h,g,r.le (by omega)⟩
 obtain⟨v9,s9,h9,a9,b9,r9⟩:=lg 9 r1 (by omega) (by omega)
 refine⟨(4,ByteArray.mk #[],0,[],wi (wi (t1+v9)-1)),s9,?_,?_,r9.le (by omega)⟩
 ·refine dL rfl ((OJ dd BU ..).trans ?_);show (_:Option ahv)=some _
  rw[h1,abJ,aA e0,aA e1,aA e2,aA e3,aA e4,aA e5,aA e6,aA e7,h9,abJ]
 ·exact⟨by show (ByteArray.mk #[]).size<=300;decide,fun x hx=>(List.not_mem_nil hx).elim,by simp⟩
end T
end
section
namespace T
open Go Go.E Go.Proofs
theorem Xv(v:Int):mQ 0 ((0,v,0,0,[],[],[],[]):Ts):=
 ⟨Nat.le_refl _,Nat.le_refl _,by simp,by simp,by simp,fun _ h=>(List.not_mem_nil h).elim,fun _ h=>(List.not_mem_nil h).elim,fun _ h=>(List.not_mem_nil h).elim⟩
theorem ami(c:Cf):∃ s,akg dd c=some s∧mQ 0 s:=by
 have h:=al4 c
 obtain⟨c1,c2,c3,c4,c5,c6,c7⟩:=c
 cases hc:DZ (c1,c2,c3,c4,c5,c6,c7) with
 |true=>exact⟨_,by refine dL rfl ((ak7 dd ak8 ..).trans ?_);rw[h,abJ,hc];rfl,Xv c2⟩
 |false=>exact⟨_,by refine dL rfl ((ak7 dd ak8 ..).trans ?_);rw[h,abJ,hc];rfl,Xv 0⟩
theorem amj{c:Cf}(hc:ad1 c)(z1 z2 z3 z4 z5 z6 y0 y1 y2 y3:Int):∀ (m n:Nat) (k:Int) (r:RdS) (s:Ts) (l:List Evt),Rd k r->k+4000*m<=50000000->mQ n s->n+m<=900->l.length+m<=1000->
  ∃ l' s' r',afj (OL m r.1 r.2 z1 z2 z3 z4 z5 z6 y0 y1 y2 y3 c.2.1 c.2.2.1 c.2.2.2.1 c.2.2.2.2.1 c.2.2.2.2.2.1 c.2.2.2.2.2.2 c.1 s.1 s.2.1 s.2.2.1 s.2.2.2.1 s.2.2.2.2.1 s.2.2.2.2.2.1 s.2.2.2.2.2.2.1 s.2.2.2.2.2.2.2 l)=some (c,l',s',r')∧mQ (n+m) s'∧Rd (k+4000*m) r'
 |0,n,k,r,s,l,hr,hk,hs,hn,hl=>by
  refine⟨l,s,r,?_,hs,by simpa using hr⟩
  refine eL ((ab8 dd afj ..).trans ?_);show (_:Option ((zCf)×List zT4×(zTs)×List Int×Int))=some _
  rw[ay (by omega)]
  refine (congrArg (fun x=>Option.bind x _) (arw hs (by omega))).trans ?_
  rw[abJ]
 |m+1,n,k,r,s,l,hr,hk,hs,hn,hl=>by
  obtain⟨e,r1,h1,g1,q1⟩:=arx hr (by omega) c s hs (by omega)
  obtain⟨s1,h2,g2⟩:=arv hs (by omega) hc g1
  obtain⟨l',s',r',h,g,q⟩:=amj hc z1 z2 z3 z4 z5 z6 y0 y1 y2 y3 m (n+1) (k+4000) r1 s1 (l++[e]) (q1.le (by omega)) (by omega) g2 (by omega) (by simp;omega)
  refine⟨l',s',r',?_,by rwa [show n+(m+1)=n+1+m by omega],by have:=q.le (k':=k+4000*((m+1:Nat):Int)) (by omega);exact this⟩
  refine eL ((ab8 dd afj ..).trans ?_);show (_:Option ((zCf)×List zT4×(zTs)×List Int×Int))=some _
  rw[au (by omega)]
  refine (congrArg (fun x=>Option.bind x _) h1).trans ?_
  rw[abJ,if_pos (by omega)]
  refine (congrArg (fun x=>Option.bind x _) h2).trans ?_
  rw[abJ,show wi (((m+1:Nat):Int)-1)=(m:Int) by rw[aI (by omega) (by omega)];omega]
  exact h
theorem arz{s:RdS}{k:Int}(hs:Rd k s)(hk:k<=10000000):∃ c l t s',akb dd (s,25)=some (c,l,t,s')∧ad1 c∧mQ 25 t∧Rd (k+200000) s':=by
 obtain⟨c,s1,h1,_,g1,r1⟩:=al3 0 (by omega) hs (by omega)
 have g1:=g1 (by omega)
 obtain⟨t0,h2,g2⟩:=ami c
 obtain⟨v,s3,h3,a3,b3,r3⟩:=lg 25 r1 (by omega) (by omega)
 have b3:=b3 (by omega)
 obtain⟨l,t,s4,h4,g4,r4⟩:=amj g1 0 0 0 0 0 0 0 0 0 0 v.toNat 0 _ s3 t0 [] r3 (by omega) g2 (by omega) (by simp;omega)
 rw[show ((v.toNat:Nat):Int)=v by omega] at h4
 obtain⟨a,b⟩:=s
 refine⟨c,l,t,s4,?_,g1,g4.le (by omega),r4.le (by omega)⟩
 refine dL rfl ((aoe dd afj ..).trans ?_)
 rw[h1,abJ]
 refine (congrArg (fun x=>Option.bind x _) h2).trans ?_
 rw[abJ]
 refine (congrArg (fun x=>Option.bind x _) h3).trans ?_
 rw[abJ]
 exact h4
end T
end
section
namespace T
open Go Go.E Go.Proofs
structure TJ (s:Ts):Prop where
 jobs:s.2.2.2.2.1.length<=500
 uO:s.2.2.2.2.2.1.length<=500
 asked:s.2.2.2.2.2.2.1.length<=500
 outs:s.2.2.2.2.2.2.2.length<=500
 ops:∀ j∈s.2.2.2.2.1,j.2.2.1.length<=300
 od:∀ o∈s.2.2.2.2.2.2.2,fB o.2.2∧o.2.2.length<=300
theorem TJ.sh{s:Ts}(h:TJ s):y7 s:=
 ⟨Nat.le_trans h.jobs (by omega),Nat.le_trans h.uO (by omega),Nat.le_trans h.asked (by omega),Nat.le_trans h.outs (by omega),fun j hj=>Nat.le_trans (h.ops j hj) (by omega)⟩
theorem ag5(b:List Int)(p:Int)(z1 z2 z3 z4 z5 z6 y0 y1 y2 y3 c1 c2 c3 c4 c5 c6:Int)(c0:List Int)(t0 t1 t2 t3:Int)(J:List Job)(F:List G8)(O:List Out):∀ (m:Nat) (A:List Str),A.length<=61->61<=A.length+m->
  ∃ A',vN (Ou b p z1 z2 z3 z4 z5 z6 y0 y1 y2 y3 c1 c2 c3 c4 c5 c6 c0 t0 t1 t2 t3 J F A O)=some ((c0,c1,c2,c3,c4,c5,c6),(t0,t1,t2,t3,J,F,A',O),b,p)∧A'.length<=61
 |0,A,h,h'=>⟨A,by refine eL ((Vb dd vN ..).trans ?_);show (_:Option ((zCf)×(zTs)×List Int×Int))=some _;rw[ay (by rw[bF];omega)],h⟩
 |m+1,A,h,h'=>by
  by_cases c:A.length<=60
  ·obtain⟨A',e,g⟩:=ag5 b p z1 z2 z3 z4 z5 z6 y0 y1 y2 y3 c1 c2 c3 c4 c5 c6 c0 t0 t1 t2 t3 J F O m (A++[ByteArray.mk #[97]]) (by simp;omega) (by simp;omega)
   refine⟨A',?_,g⟩
   refine eL ((Vb dd vN ..).trans ?_);show (_:Option ((zCf)×(zTs)×List Int×Int))=some _
   rw[au (by rw[bF];omega),if_pos (by omega)]
   exact e
  ·exact⟨A,by refine eL ((Vb dd vN ..).trans ?_);show (_:Option ((zCf)×(zTs)×List Int×Int))=some _;rw[ay (by rw[bF];omega)],h⟩
theorem ag6(b:List Int)(p:Int)(z1 z2 z3 z4 z5 z6 y0 y1 y2 y3 c1 c2 c3 c4 c5 c6:Int)(c0:List Int)(t0 t1 t2 t3:Int)(J:List Job)(A:List Str)(O:List Out):∀ (m:Nat) (F:List G8),F.length<=400->4<=F.length+m->
  ∃ F',vN (Ov b p z1 z2 z3 z4 z5 z6 y0 y1 y2 y3 c1 c2 c3 c4 c5 c6 c0 t0 t1 t2 t3 J F A O)=some ((c0,c1,c2,c3,c4,c5,c6),(t0,t1,t2,t3,J,F',A,O),b,p)∧F'.length<=400
 |0,F,h,h'=>⟨F,by refine eL ((Vd dd vN ..).trans ?_);show (_:Option ((zCf)×(zTs)×List Int×Int))=some _;rw[ay (by rw[bF];omega)],h⟩
 |m+1,F,h,h'=>by
  by_cases c:F.length<=3
  ·obtain⟨F',e,g⟩:=ag6 b p z1 z2 z3 z4 z5 z6 y0 y1 y2 y3 c1 c2 c3 c4 c5 c6 c0 t0 t1 t2 t3 J A O m (F++[(fO F.length,0,[])]) (by simp;omega) (by simp;omega)
   refine⟨F',?_,g⟩
   have h7:=D73 F.length (by omega)
   refine eL ((Vd dd vN ..).trans ?_);show (_:Option ((zCf)×(zTs)×List Int×Int))=some _
   rw[au (by rw[bF];omega),bF,h7,abJ,if_pos (by omega)]
   exact e
  ·exact⟨F,by refine eL ((Vd dd vN ..).trans ?_);show (_:Option ((zCf)×(zTs)×List Int×Int))=some _;rw[ay (by rw[bF];omega)],h⟩
theorem amk{s:RdS}{k:Int}(hs:Rd k s)(hk:k<=1000000):∃ c t s',ahH dd (s,9)=some (c,t,s')∧TJ t:=by
 obtain⟨c,l,t,s1,h1,g1,g2,r1⟩:=arz hs (by omega)
 obtain⟨v2,s2,h2,r2,_⟩:=SX 9 r1 (by omega) (by omega)
 obtain⟨b,p⟩:=s
 have hj:=g2.jobs
 have hf:=g2.uO
 have ha:=g2.asked
 have ho:=g2.outs
 have hop:=g2.ops
 have hod:=g2.od
 obtain⟨t1,t2,t3,t4,J,F,A,O⟩:=t
 obtain⟨c0,c1,c2,c3,c4,c5,c6⟩:=c
 dsimp only at hj hf ha ho hop hod
 have dr:∀ x y z w:Int,TJ (x,y,z,w,J,F,A,O):=fun x y z w=>⟨by dsimp only;omega,by dsimp only;omega,by dsimp only;omega,by dsimp only;omega,hop,hod⟩
 cases v2 with
 |false=>
  refine⟨(c0,c1,c2,c3,c4,c5,c6),(t1,t2,t3,t4,J,F,A,O),s2,?_,dr _ _ _ _⟩
  refine dL rfl ((GV dd vN ..).trans ?_);show (_:Option ((zCf)×(zTs)×List Int×Int))=some _
  refine (congrArg (fun x=>Option.bind x _) h1).trans ?_
  rw[abJ]
  refine (congrArg (fun x=>Option.bind x _) h2).trans ?_
  rw[abJ]
  rfl
 |true=>
 obtain⟨v,s3,h3,a3,b3,r3⟩:=lg 11 r2 (by omega) (by omega)
 by_cases e0:v=0
 ·obtain⟨c',s4,h4,_,_,r4⟩:=al3 1 (by omega) r3 (by omega)
  refine⟨c',(t1,t2,t3,t4,J,F,A,O),s4,?_,dr _ _ _ _⟩
  refine dL rfl ((GV dd vN ..).trans ?_);show (_:Option ((zCf)×(zTs)×List Int×Int))=some _
  refine (congrArg (fun x=>Option.bind x _) h1).trans ?_
  rw[abJ]
  refine (congrArg (fun x=>Option.bind x _) h2).trans ?_
  rw[abJ]
  refine (cond_true _ _).trans ?_
  refine (congrArg (fun x=>Option.bind x _) h3).trans ?_
  rw[abJ]
  refine (aK e0).trans ?_
  refine (congrArg (fun x=>Option.bind x _) h4).trans ?_
  rw[abJ]
 by_cases e1:v=1
 ·obtain⟨v4,s4,h4,a4,b4,r4⟩:=lg 2 r3 (by omega) (by omega)
  have b4:v4<((2:Nat):Int):=by have:=b4 (by omega);omega
  refine⟨(c0,c1,c2,c3,c4,c5,c6),(gt [-1,10000] v4 0,t2,t3,t4,J,F,A,O),s4,?_,dr _ _ _ _⟩
  refine dL rfl ((GV dd vN ..).trans ?_);show (_:Option ((zCf)×(zTs)×List Int×Int))=some _
  refine (congrArg (fun x=>Option.bind x _) h1).trans ?_
  rw[abJ]
  refine (congrArg (fun x=>Option.bind x _) h2).trans ?_
  rw[abJ]
  refine (cond_true _ _).trans ?_
  refine (congrArg (fun x=>Option.bind x _) h3).trans ?_
  rw[abJ]
  refine (aA e0).trans ?_
  refine (aK e1).trans ?_
  refine (congrArg (fun x=>Option.bind x _) h4).trans ?_
  rw[abJ]
  refine (if_pos a4).trans ?_
  refine (if_pos b4).trans ?_
  rfl
 by_cases e2:v=2
 ·obtain⟨v4,s4,h4,a4,b4,r4⟩:=lg 2 r3 (by omega) (by omega)
  have b4:v4<((2:Nat):Int):=by have:=b4 (by omega);omega
  refine⟨(c0,c1,c2,c3,c4,c5,c6),(t1,gt [-1,wi (c1+1)] v4 0,t3,t4,J,F,A,O),s4,?_,dr _ _ _ _⟩
  refine dL rfl ((GV dd vN ..).trans ?_);show (_:Option ((zCf)×(zTs)×List Int×Int))=some _
  refine (congrArg (fun x=>Option.bind x _) h1).trans ?_
  rw[abJ]
  refine (congrArg (fun x=>Option.bind x _) h2).trans ?_
  rw[abJ]
  refine (cond_true _ _).trans ?_
  refine (congrArg (fun x=>Option.bind x _) h3).trans ?_
  rw[abJ]
  refine (aA e0).trans ?_
  refine (aA e1).trans ?_
  refine (aK e2).trans ?_
  refine (congrArg (fun x=>Option.bind x _) h4).trans ?_
  rw[abJ]
  refine (if_pos a4).trans ?_
  refine (if_pos b4).trans ?_
  rfl
 by_cases e3:v=3
 ·obtain⟨v4,s4,h4,a4,b4,r4⟩:=lg 2 r3 (by omega) (by omega)
  have b4:v4<((2:Nat):Int):=by have:=b4 (by omega);omega
  refine⟨(c0,c1,c2,c3,c4,c5,c6),(t1,t2,gt [-1,wi (t1+1)] v4 0,t4,J,F,A,O),s4,?_,dr _ _ _ _⟩
  refine dL rfl ((GV dd vN ..).trans ?_);show (_:Option ((zCf)×(zTs)×List Int×Int))=some _
  refine (congrArg (fun x=>Option.bind x _) h1).trans ?_
  rw[abJ]
  refine (congrArg (fun x=>Option.bind x _) h2).trans ?_
  rw[abJ]
  refine (cond_true _ _).trans ?_
  refine (congrArg (fun x=>Option.bind x _) h3).trans ?_
  rw[abJ]
  refine (aA e0).trans ?_
  refine (aA e1).trans ?_
  refine (aA e2).trans ?_
  refine (aK e3).trans ?_
  refine (congrArg (fun x=>Option.bind x _) h4).trans ?_
  rw[abJ]
  refine (if_pos a4).trans ?_
  refine (if_pos b4).trans ?_
  rfl
 by_cases e4:v=4
 ·obtain⟨v4,s4,h4,a4,b4,r4⟩:=lg 3 r3 (by omega) (by omega)
  have b4:v4<((3:Nat):Int):=by have:=b4 (by omega);omega
  refine⟨(c0,c1,c2,c3,c4,c5,c6),(t1,t2,t3,gt [-1,10000,0] v4 0,J,F,A,O),s4,?_,dr _ _ _ _⟩
  refine dL rfl ((GV dd vN ..).trans ?_);show (_:Option ((zCf)×(zTs)×List Int×Int))=some _
  refine (congrArg (fun x=>Option.bind x _) h1).trans ?_
  rw[abJ]
  refine (congrArg (fun x=>Option.bind x _) h2).trans ?_
  rw[abJ]
  refine (cond_true _ _).trans ?_
  refine (congrArg (fun x=>Option.bind x _) h3).trans ?_
  rw[abJ]
  refine (aA e0).trans ?_
  refine (aA e1).trans ?_
  refine (aA e2).trans ?_
  refine (aA e3).trans ?_
  refine (aK e4).trans ?_
  refine (congrArg (fun x=>Option.bind x _) h4).trans ?_
  rw[abJ]
  refine (if_pos a4).trans ?_
  refine (if_pos b4).trans ?_
  rfl
 by_cases e5:v=5
 ·obtain⟨v4,s4,h4,a4,b4,r4⟩:=lg 9 r3 (by omega) (by omega)
  obtain⟨v5,s5,h5,a5,b5,r5⟩:=lg 2 r4 (by omega) (by omega)
  have b5:v5<((2:Nat):Int):=by have:=b5 (by omega);omega
  obtain⟨os,s6,h6,_,l6,r6⟩:=alr 3 (by omega) r5 (by omega)
  obtain⟨v7,s7,h7,a7,b7,r7⟩:=lg 3 r6 (by omega) (by omega)
  have hl:(J.length+1)*56<=140737488355328:=by omega
  refine⟨(c0,c1,c2,c3,c4,c5,c6),(t1,t2,t3,t4,J++[(wi (v4-1),gt [ByteArray.mk #[97],ByteArray.mk #[65]] v5 (ByteArray.mk #[]),os,wi (v7-1))],F,A,O),s7,?_,⟨by simp;omega,by dsimp only;omega,by dsimp only;omega,by dsimp only;omega,fun j hx=> ?_,hod⟩⟩
  rotate_left
  ·rcases adh.1 hx with hx|hx
   ·exact hop j hx
   ·rw[List.mem_singleton.1 hx];exact Nat.le_trans l6 (by omega)
  refine dL rfl ((GV dd vN ..).trans ?_);show (_:Option ((zCf)×(zTs)×List Int×Int))=some _
  refine (congrArg (fun x=>Option.bind x _) h1).trans ?_
  rw[abJ]
  refine (congrArg (fun x=>Option.bind x _) h2).trans ?_
  rw[abJ]
  refine (cond_true _ _).trans ?_
  refine (congrArg (fun x=>Option.bind x _) h3).trans ?_
  rw[abJ]
  refine (aA e0).trans ?_
  refine (aA e1).trans ?_
  refine (aA e2).trans ?_
  refine (aA e3).trans ?_
  refine (aA e4).trans ?_
  refine (aK e5).trans ?_
  refine (congrArg (fun x=>Option.bind x _) h4).trans ?_
  rw[abJ]
  refine (congrArg (fun x=>Option.bind x _) h5).trans ?_
  rw[abJ]
  refine (if_pos a5).trans ?_
  refine (if_pos b5).trans ?_
  refine (congrArg (fun x=>Option.bind x _) h6).trans ?_
  rw[abJ]
  refine (congrArg (fun x=>Option.bind x _) h7).trans ?_
  rw[abJ]
  refine (if_pos hl).trans ?_
  rfl
 by_cases e6:v=6
 ·obtain⟨v4,s4,h4,a4,b4,r4⟩:=lg 2 r3 (by omega) (by omega)
  have b4:v4<((2:Nat):Int):=by have:=b4 (by omega);omega
  obtain⟨v5,s5,h5,a5,b5,r5⟩:=lg 3 r4 (by omega) (by omega)
  obtain⟨f,s6,h6,q6,l6,r6⟩:=ag4 3 (by omega) r5 (by omega)
  have hl:(F.length+1)*48<=140737488355328:=by omega
  refine⟨(c0,c1,c2,c3,c4,c5,c6),(t1,t2,t3,t4,J,F++[(gt [ByteArray.mk #[97],ByteArray.mk #[]] v4 (ByteArray.mk #[]),wi (v5-1),f)],A,O),s6,?_,⟨by dsimp only;omega,by simp;omega,by dsimp only;omega,by dsimp only;omega,hop,hod⟩⟩
  refine dL rfl ((GV dd vN ..).trans ?_);show (_:Option ((zCf)×(zTs)×List Int×Int))=some _
  refine (congrArg (fun x=>Option.bind x _) h1).trans ?_
  rw[abJ]
  refine (congrArg (fun x=>Option.bind x _) h2).trans ?_
  rw[abJ]
  refine (cond_true _ _).trans ?_
  refine (congrArg (fun x=>Option.bind x _) h3).trans ?_
  rw[abJ]
  refine (aA e0).trans ?_
  refine (aA e1).trans ?_
  refine (aA e2).trans ?_
  refine (aA e3).trans ?_
  refine (aA e4).trans ?_
  refine (aA e5).trans ?_
  refine (aK e6).trans ?_
  refine (congrArg (fun x=>Option.bind x _) h4).trans ?_
  rw[abJ]
  refine (if_pos a4).trans ?_
  refine (if_pos b4).trans ?_
  refine (congrArg (fun x=>Option.bind x _) h5).trans ?_
  rw[abJ]
  refine (congrArg (fun x=>Option.bind x _) h6).trans ?_
  rw[abJ]
  refine (if_pos hl).trans ?_
  rfl
 by_cases e7:v=7
 ·obtain⟨v4,s4,h4,a4,b4,r4⟩:=lg 9 r3 (by omega) (by omega)
  obtain⟨v5,s5,h5,a5,b5,r5⟩:=lg 4 r4 (by omega) (by omega)
  have b5:v5<((4:Nat):Int):=by have:=b5 (by omega);omega
  obtain⟨d,s6,h6,q6,l6,r6⟩:=D50 3 r5 (by omega) (by omega)
  have h6:r50 dd (s5,3)=some (d,s6):=h6
  have hl:(O.length+1)*40<=140737488355328:=by omega
  refine⟨(c0,c1,c2,c3,c4,c5,c6),(t1,t2,t3,t4,J,F,A,O++[(wi (v4-1),gt [200,404,502,0] v5 0,d)]),s6,?_,⟨by dsimp only;omega,by dsimp only;omega,by dsimp only;omega,by simp;omega,hop,fun o hx=> ?_⟩⟩
  rotate_left
  ·rcases adh.1 hx with hx|hx
   ·exact hod o hx
   ·rw[List.mem_singleton.1 hx];exact⟨q6,Nat.le_trans l6 (by omega)⟩
  refine dL rfl ((GV dd vN ..).trans ?_);show (_:Option ((zCf)×(zTs)×List Int×Int))=some _
  refine (congrArg (fun x=>Option.bind x _) h1).trans ?_
  rw[abJ]
  refine (congrArg (fun x=>Option.bind x _) h2).trans ?_
  rw[abJ]
  refine (cond_true _ _).trans ?_
  refine (congrArg (fun x=>Option.bind x _) h3).trans ?_
  rw[abJ]
  refine (aA e0).trans ?_
  refine (aA e1).trans ?_
  refine (aA e2).trans ?_
  refine (aA e3).trans ?_
  refine (aA e4).trans ?_
  refine (aA e5).trans ?_
  refine (aA e6).trans ?_
  refine (aK e7).trans ?_
  refine (congrArg (fun x=>Option.bind x _) h4).trans ?_
  rw[abJ]
  refine (congrArg (fun x=>Option.bind x _) h5).trans ?_
  rw[abJ]
  refine (if_pos a5).trans ?_
  refine (if_pos b5).trans ?_
  refine (congrArg (fun x=>Option.bind x _) h6).trans ?_
  rw[abJ]
  refine (if_pos hl).trans ?_
  rfl
 by_cases e8:v=8
 ·obtain⟨v4,s4,h4,a4,b4,r4⟩:=lg 3 r3 (by omega) (by omega)
  have b4:v4<((3:Nat):Int):=by have:=b4 (by omega);omega
  have hl:(A.length+1)*16<=140737488355328:=by omega
  refine⟨(c0,c1,c2,c3,c4,c5,c6),(t1,t2,t3,t4,J,F,A++[gt [ByteArray.mk #[],ByteArray.mk #[65],ByteArray.mk #[98]] v4 (ByteArray.mk #[])],O),s4,?_,⟨by dsimp only;omega,by dsimp only;omega,by simp;omega,by dsimp only;omega,hop,hod⟩⟩
  refine dL rfl ((GV dd vN ..).trans ?_);show (_:Option ((zCf)×(zTs)×List Int×Int))=some _
  refine (congrArg (fun x=>Option.bind x _) h1).trans ?_
  rw[abJ]
  refine (congrArg (fun x=>Option.bind x _) h2).trans ?_
  rw[abJ]
  refine (cond_true _ _).trans ?_
  refine (congrArg (fun x=>Option.bind x _) h3).trans ?_
  rw[abJ]
  refine (aA e0).trans ?_
  refine (aA e1).trans ?_
  refine (aA e2).trans ?_
  refine (aA e3).trans ?_
  refine (aA e4).trans ?_
  refine (aA e5).trans ?_
  refine (aA e6).trans ?_
  refine (aA e7).trans ?_
  refine (aK e8).trans ?_
  refine (congrArg (fun x=>Option.bind x _) h4).trans ?_
  rw[abJ]
  refine (if_pos a4).trans ?_
  refine (if_pos b4).trans ?_
  refine (if_pos hl).trans ?_
  rfl
 by_cases e9:v=9
 ·obtain⟨A',h4,l4⟩:=ag5 s3.1 s3.2 0 0 0 0 0 0 0 0 0 0 c1 c2 c3 c4 c5 c6 c0 t1 t2 t3 t4 J F O 61 A (by omega) (by omega)
  refine⟨(c0,c1,c2,c3,c4,c5,c6),(t1,t2,t3,t4,J,F,A',O),s3,?_,⟨by dsimp only;omega,by dsimp only;omega,by dsimp only;omega,by dsimp only;omega,hop,hod⟩⟩
  refine dL rfl ((GV dd vN ..).trans ?_);show (_:Option ((zCf)×(zTs)×List Int×Int))=some _
  refine (congrArg (fun x=>Option.bind x _) h1).trans ?_
  rw[abJ]
  refine (congrArg (fun x=>Option.bind x _) h2).trans ?_
  rw[abJ]
  refine (cond_true _ _).trans ?_
  refine (congrArg (fun x=>Option.bind x _) h3).trans ?_
  rw[abJ]
  refine (aA e0).trans ?_
  refine (aA e1).trans ?_
  refine (aA e2).trans ?_
  refine (aA e3).trans ?_
  refine (aA e4).trans ?_
  refine (aA e5).trans ?_
  refine (aA e6).trans ?_
  refine (aA e7).trans ?_
  refine (aA e8).trans ?_
  refine (aK e9).trans ?_
  exact h4
 obtain⟨F',h4,l4⟩:=ag6 s3.1 s3.2 0 0 0 0 0 0 0 0 0 0 c1 c2 c3 c4 c5 c6 c0 t1 t2 t3 t4 J A O 4 F (by omega) (by omega)
 refine⟨(c0,c1,c2,c3,c4,c5,c6),(t1,t2,t3,t4,J,F',A,O),s3,?_,⟨by dsimp only;omega,by dsimp only;omega,by dsimp only;omega,by dsimp only;omega,hop,hod⟩⟩
 refine dL rfl ((GV dd vN ..).trans ?_);show (_:Option ((zCf)×(zTs)×List Int×Int))=some _
 refine (congrArg (fun x=>Option.bind x _) h1).trans ?_
 rw[abJ]
 refine (congrArg (fun x=>Option.bind x _) h2).trans ?_
 rw[abJ]
 refine (cond_true _ _).trans ?_
 refine (congrArg (fun x=>Option.bind x _) h3).trans ?_
 rw[abJ]
 refine (aA e0).trans ?_
 refine (aA e1).trans ?_
 refine (aA e2).trans ?_
 refine (aA e3).trans ?_
 refine (aA e4).trans ?_
 refine (aA e5).trans ?_
 refine (aA e6).trans ?_
 refine (aA e7).trans ?_
 refine (aA e8).trans ?_
 refine (aA e9).trans ?_
 exact h4
theorem D46{a:List Int}(hb:fB a)(hl:a.length<=1048576):∃ c t,r46 dd a=some (c,t)∧TJ t:=by
 by_cases e:a.length>2000
 ·obtain⟨c,t,s',h,g⟩:=amk (s:=(a.take 2000,0)) (k:=0) ⟨fun x hx=>hb x (List.mem_of_mem_take hx),by show (a.take 2000).length<=2000;rw[List.length_take];omega,Int.le_refl _,Int.le_refl _⟩ (by omega)
  exact⟨c,t,by refine dL rfl ((b46 dd l46 ..).trans ?_);show (_:Option ((zCf)×zTs))=some _;rw[au (by rw[bF];omega),if_pos (by rw[bF];omega),h,abJ],g⟩
 ·obtain⟨c,t,s',h,g⟩:=amk (s:=(a,0)) (k:=0) ⟨hb,by show a.length<=2000;omega,Int.le_refl _,Int.le_refl _⟩ (by omega)
  exact⟨c,t,by refine dL rfl ((b46 dd l46 ..).trans ?_);show (_:Option ((zCf)×zTs))=some _;rw[ay (by rw[bF];omega),h,abJ],g⟩
end T
end
section
namespace T
open Go Go.E Go.Proofs
theorem aiE(y:Int)(h1:0<=y):wb (↑(BitVec.ofInt IntKind.u8.bits y&&&BitVec.ofInt IntKind.u8.bits 15).toNat:Int)=y%16:=by
 have e:(BitVec.ofInt IntKind.u8.bits y&&&BitVec.ofInt IntKind.u8.bits 15).toNat=(y%256).toNat%16:=by
  rw[BitVec.toNat_and]
  show (y%256).toNat&&&15=_
  exact Nat.and_two_pow_sub_one_eq_mod _ 4
 rw[e,jy (by omega) (by omega)]
 omega
theorem Xw:∀ k:Nat,k<16->bU [aW G7 k]=hexS k:=by
 intro k hk
 have:k=0∨k=1∨k=2∨k=3∨k=4∨k=5∨k=6∨k=7∨k=8∨k=9∨k=10∨k=11∨k=12∨k=13∨k=14∨k=15:=by omega
 rcases this with h|h|h|h|h|h|h|h|h|h|h|h|h|h|h|h<;>(subst h;rfl)
theorem L53(l:List Int)(hb:fB l)(hl:l.length<=100000):∀ (k i:Nat) (o:List Int),i+k=l.length->o.length<=2*i->l53 (WS l (ln l) i o)=some (DY (l.drop i) (bU o))
 |0,i,o,h,ho=>by
  refine eL ((agr dd l53 ..).trans ?_)
  rw[ay (by rw[bF];omega),List.drop_eq_nil_of_le (by omega)];rfl
 |k+1,i,o,h,ho=>by
  have hil:i<l.length:=by omega
  have hln:=bF l
  have hx:=iw hb (i:Int)
  have hd:=eG (z:=(0:Int)) hil
  generalize hg:gt l (i:Int) 0=x at hx hd
  have w1:x.fdiv (2^4)=((x.toNat/16:Nat):Int):=by rw[fd (by omega)];omega
  have w2:wb (↑(BitVec.ofInt IntKind.u8.bits x&&&BitVec.ofInt IntKind.u8.bits 15).toNat:Int)=((x.toNat%16:Nat):Int):=by rw[aiE x (by omega)];omega
  have ih:=L53 l hb hl k (i+1) (o.append [aW G7 ((x.toNat/16:Nat):Int),aW G7 ((x.toNat%16:Nat):Int)]) (by omega) (by simp;omega)
  refine eL ((agr dd l53 ..).trans ?_)
  rw[hg,w1,w2,show ByteArray.mk #[48,49,50,51,52,53,54,55,56,57,97,98,99,100,101,102]=G7 from rfl,show (G7.size:Int)=16 from rfl]
  rw[au (by omega),if_pos (by omega),if_pos (by omega),if_pos (by omega),if_pos (by omega),if_pos (by omega),if_pos (by omega),bf (by omega),hd]
  refine ih.trans ?_
  show some (DY (l.drop (i+1)) (bU (o++([aW G7 ((x.toNat/16:Nat):Int)]++[aW G7 ((x.toNat%16:Nat):Int)]))))=some (DY (l.drop (i+1)) (bU o++hexS (x.toNat/16)++hexS (x.toNat%16)))
  rw[<- Xw _ (show x.toNat/16<16 by omega), <- Xw _ (show x.toNat%16<16 by omega),KE,KE,List.append_assoc]
theorem D53{l:List Int}(hb:fB l)(hl:l.length<=100000):r53 dd l=some (KG l):=by
 have hln:=bF l
 have w:wi (2*ln l)=2*l.length:=by rw[hln,aI (by omega) (by omega)]
 refine dL rfl ((b53 dd l53 ..).trans ?_)
 rw[w,if_pos (by omega),if_pos (by omega)]
 exact L53 l hb hl l.length 0 [] (by omega) (by simp)
end T
end
section
namespace T
open Go Go.E Go.Proofs
abbrev sp:Str:=ByteArray.mk #[32]
def KN:List iF->Str->Str
 |[],s=>s
 |p::r,s=>KN r (s++sp++KG (tJ p))
def VX(f:List Int):Str:=if (jk f).2=1 then KN (jk f).1.2.2 (fO (jk f).1.1.toNat++ByteArray.mk #[120]++fO (jk f).1.2.1.toNat) else ByteArray.mk #[45]
theorem eH(n:Nat):(fO n).size<=4:=by
 unfold fO
 rw[rE]
 have:=(yY 3 n []).2
 simpa using this
theorem zk{p:iF}(h:fZ p=true):fB (tJ p):=by
 obtain⟨h1,h2,h3,h4⟩:=jC.1 h
 exact bV.2 ⟨by omega,bV.2 ⟨by omega,bV.2 ⟨by omega,bV.2 ⟨by omega,iC⟩⟩⟩⟩
theorem KO:∀ (l:List iF) (s:Str),l.all fZ=true->(KN l s).size<=s.size+9*l.length
 |[],s,_=>by simp[KN]
 |p::r,s,h=>by
  have h:(fZ p&&r.all fZ)=true:=h
  rw[Bool.and_eq_true] at h
  unfold KN
  have:=KO r (s++sp++KG (tJ p)) h.2
  rw[aN,aN,zY (zk h.1),show sp.size=1 from rfl,show (tJ p).length=4 from rfl] at this
  simp only[List.length_cons];omega
theorem Xx{l:List iF}(h:l.all fZ=true){i:Nat}(hi:i<l.length):fZ (gt l (i:Int) (0,0,0,0))=true:=by
 rw[gB hi]
 exact List.all_eq_true.1 h _ (List.getElem_mem hi)
theorem L74(w h:Int)(l:List iF)(hp:l.all fZ=true)(hl:l.length<=1000):∀ (k i:Nat) (s:Str),i+k=l.length->s.size<=100+9*i->l74 (WV s i w h l)=some (KN (l.drop i) s)
 |0,i,s,e,hs=>by
  refine eL ((agw dd l74 ..).trans ?_)
  rw[ay (by rw[bF];omega),List.drop_eq_nil_of_le (by omega)];rfl
 |k+1,i,s,e,hs=>by
  have hi:i<l.length:=by omega
  have hd:=eG (z:=((0,0,0,0):iF)) hi
  have hg:=Xx hp hi
  generalize hq:gt l (i:Int) (0,0,0,0)=p at hd hg
  obtain⟨p1,p2,p3,p4⟩:=p
  obtain⟨h1,h2,h3,h4⟩:=jC.1 hg
  dsimp only at h1 h2 h3 h4
  have hx:=al1 (zk hg) (by show 4<=_;omega)
  have hz:=zY (zk hg)
  have hz:(KG (tJ (p1,p2,p3,p4))).size=8:=hz
  have ih:=L74 w h l hp hl k (i+1) (s++sp++KG (tJ (p1,p2,p3,p4))) (by omega) (by rw[aN,aN,hz,show sp.size=1 from rfl];omega)
  refine eL ((agw dd l74 ..).trans ?_)
  rw[au (by rw[bF];omega),if_pos (by omega),if_pos (by rw[bF];omega),hq,if_pos (by rw[show (ByteArray.mk #[32]).size=1 from rfl];omega)]
  dsimp only
  rw[jy (by omega) (by omega),jy (by omega) (by omega),jy (by omega) (by omega),jy (by omega) (by omega)]
  refine (congrArg (fun x=>Option.bind x _) hx).trans ?_
  rw[abJ,if_pos (by rw[aN,hz,show (ByteArray.mk #[32]).size=1 from rfl];omega),bf (by omega),hd]
  exact ih
theorem L81(l:List iF)(hp:l.all fZ=true)(hl:l.length<=1000):∀ (k i:Nat) (s:Str),i+k=l.length->s.size<=100+9*i->l81 (WW s (ln l) i l)=some (KN (l.drop i) s)
 |0,i,s,e,hs=>by
  refine eL ((agy dd l81 ..).trans ?_)
  rw[ay (by rw[bF];omega),List.drop_eq_nil_of_le (by omega)];rfl
 |k+1,i,s,e,hs=>by
  have hi:i<l.length:=by omega
  have hd:=eG (z:=((0,0,0,0):iF)) hi
  have hg:=Xx hp hi
  generalize hq:gt l (i:Int) (0,0,0,0)=p at hd hg
  have h3:=aqj [] p (by simp) hg
  have hx:=D53 (zk hg) (by show 4<=_;omega)
  have hz:(KG (tJ p)).size=8:=zY (zk hg)
  have ih:=L81 l hp hl k (i+1) (s++sp++KG (tJ p)) (by omega) (by rw[aN,aN,hz,show sp.size=1 from rfl];omega)
  refine eL ((agy dd l81 ..).trans ?_)
  rw[au (by rw[bF];omega),if_pos (by omega),if_pos (by rw[bF];omega),hq,h3,abJ]
  refine (congrArg (fun x=>Option.bind x _) hx).trans ?_
  rw[abJ,if_pos (by rw[hz,show (ByteArray.mk #[32]).size=1 from rfl];omega),if_pos (by rw[aN,hz,show (ByteArray.mk #[32]).size=1 from rfl];omega),bf (by omega),hd]
  rw[<- ByteArray.append_assoc]
  exact ih
theorem Cj{f:List Int}(hb:fB f)(h1:(jk f).2=1):((0<=(jk f).1.1∧(jk f).1.1<=9999)∧(0<=(jk f).1.2.1∧(jk f).1.2.1<=9999))∧(jk f).1.2.2.all fZ=true∧(jk f).1.2.2.length<=36:=by
 obtain⟨W,H,hn⟩:=VQ hb h1
 have hm:=qo hn.h6 hn.w6
 have:=hn.w;have:=hn.h;have:=hn.w6;have:=hn.h6;have:=hn.len
 exact⟨by omega,hn.pix,by omega⟩
theorem D74{f:List Int}(hb:fB f)(hl:f.length<=300):r74 dd f=some (VX f):=by
 have h0:=alR f hb hl
 refine dL rfl ((b74 dd l74 ..).trans ?_);show (_:Option (ByteArray))=some _;unfold VX
 rw[h0,abJ]
 by_cases c:(jk f).2=1
 ·obtain⟨⟨hw,hh⟩,hp,hz⟩:=Cj hb c
  have z1:=eH (jk f).1.1.toNat
  have z2:=eH (jk f).1.2.1.toNat
  rw[iM c,if_pos c,TA hw,abJ,if_pos (by rw[show (ByteArray.mk #[120]).size=1 from rfl];omega),TA hh,abJ,if_pos (by rw[aN,show (ByteArray.mk #[120]).size=1 from rfl];omega)]
  exact L74 _ _ _ hp (by omega) (jk f).1.2.2.length 0 _ (by omega) (by rw[aN,aN,show (ByteArray.mk #[120]).size=1 from rfl];omega)
 ·rw[mD c,if_neg c]
def Ito:Prop:=∀ n:Int,0<=n->n<=9999->r80 dd n=some (fO n.toNat)
theorem D81(it:Ito){f:List Int}(hb:fB f)(hl:f.length<=300):r81 dd f=some (VX f):=by
 have h0:=aqG f hb hl
 refine dL rfl ((b81 dd l81 ..).trans ?_);show (_:Option (ByteArray))=some _;unfold VX
 rw[h0,abJ]
 by_cases c:(jk f).2=1
 ·obtain⟨⟨hw,hh⟩,hp,hz⟩:=Cj hb c
  have z1:=eH (jk f).1.1.toNat
  have z2:=eH (jk f).1.2.1.toNat
  rw[iM c,if_pos c,it _ hw.1 hw.2,abJ,if_pos (by rw[show (ByteArray.mk #[120]).size=1 from rfl];omega),it _ hh.1 hh.2,abJ,if_pos (by rw[aN,show (ByteArray.mk #[120]).size=1 from rfl];omega)]
  exact L81 _ hp (by omega) (jk f).1.2.2.length 0 _ (by omega) (by rw[aN,aN,show (ByteArray.mk #[120]).size=1 from rfl];omega)
 ·rw[mD c,if_neg c]
theorem Ny{f:List Int}(hb:fB f):(VX f).size<=1000:=by
 unfold VX
 by_cases c:(jk f).2=1
 ·obtain⟨_,hp,hz⟩:=Cj hb c
  have z1:=eH (jk f).1.1.toNat
  have z2:=eH (jk f).1.2.1.toNat
  rw[if_pos c]
  have:=KO (jk f).1.2.2 (fO (jk f).1.1.toNat++ByteArray.mk #[120]++fO (jk f).1.2.1.toNat) hp
  rw[aN,aN,show (ByteArray.mk #[120]).size=1 from rfl] at this
  omega
 ·rw[if_neg c];decide
end T
end
section
namespace T
open Go Go.E Go.Proofs
abbrev ag7:Str:=ByteArray.mk #[116,105,109,101,32]
abbrev amm:Str:=ByteArray.mk #[32,116,111,107,101,110,115,32]
abbrev amn:Str:=ByteArray.mk #[32,117,110,100,101,114,32,119,97,121,32]
abbrev ag8:Str:=ByteArray.mk #[32,107,101,112,116,32]
abbrev amo:Str:=ByteArray.mk #[102,101,116,99,104,101,100,32]
abbrev aiF:Str:=ByteArray.mk #[97,110,115,119,101,114,32]
def aiG(s:Ts):Str:=ag7++fO s.1.toNat++amm++fO s.2.1.toNat++amn++fO s.2.2.2.2.1.length++ag8++fO s.2.2.2.2.2.1.length
def Fq(a:Str):Str:=amo++a
def wZ(o:Out):Str:=if o.2.1=200 then aiF++fO o.1.toNat++sp++fO o.2.1.toNat++sp++VX o.2.2 else aiF++fO o.1.toNat++sp++fO o.2.1.toNat
def afX(s:Ts):List Str:=([aiG s]++s.2.2.2.2.2.2.1.map Fq)++s.2.2.2.2.2.2.2.map wZ
theorem VY{n:Int}(h:D5 n=true):0<=n∧n<=9999:=by
 unfold D5 at h
 obtain⟨m,hm,e⟩:=List.any_eq_true.1 h
 have e:m=n:=by simpa using e
 subst e
 have:∀ m∈wY,0<=m∧m<=9999:=by decide
 exact this m hm
theorem out_range{next:Int}:∀ {l:List Out},D6 next l=true->∀ o∈l,(0<=o.1∧o.1<=next-1)∧(0<=o.2.1∧o.2.1<=9999)
 |[],_,o,ho=>(List.not_mem_nil ho).elim
 |x::r,h,o,ho=>by
  rw[Ci] at h
  simp only[Bool.and_eq_true] at h
  rcases List.mem_cons.1 ho with e|e
  ·subst e
   exact⟨by have:=h.1;unfold iO at this;simpa using this,VY h.2.1⟩
  ·exact out_range h.2.2.2.2 o e
theorem Y5{s:Str}(h:nameP s=true):s.size<=6:=by
 unfold nameP at h
 simp only[Bool.and_eq_true,decide_eq_true_eq] at h
 exact h.2.1
structure ad9 (s:Ts):Prop where
 at_:0<=s.1∧s.1<=9999
 tok:0<=s.2.1∧s.2.1<=9999
 jobs:s.2.2.2.2.1.length<=500
 uO:s.2.2.2.2.2.1.length<=500
 asked:s.2.2.2.2.2.2.1.length<=60
 names:∀ a∈s.2.2.2.2.2.2.1,a.size<=6
 outs:s.2.2.2.2.2.2.2.length<=60
 amq:∀ o∈s.2.2.2.2.2.2.2,(0<=o.1∧o.1<=9999)∧(0<=o.2.1∧o.2.1<=9999)
 od:∀ o∈s.2.2.2.2.2.2.2,fB o.2.2∧o.2.2.length<=300
theorem VZ{c:Cf}{s:Ts}(hs:TJ s)(h:y9 c s=true):ad9 s:=by
 unfold y9 at h
 simp only[Bool.and_eq_true,decide_eq_true_eq] at h
 obtain⟨h1,h2,h3,h4,h5,h6,h7,⟨h8,h9⟩,h10,h11⟩:=h
 unfold DZ at h1
 simp only[Bool.and_eq_true,decide_eq_true_eq] at h1
 have c2:=h1.2.1
 unfold iO at h2 h3 h5 c2
 simp only[decide_eq_true_eq] at h2 h3 h5 c2
 exact⟨h2,by omega,hs.jobs,hs.uO,h8,fun a ha=>Y5 (List.all_eq_true.1 h9 a ha),h10,fun o ho=>by have:=out_range h11 o ho;omega,hs.od⟩
theorem Aa:ag7.size=5∧amm.size=8∧amn.size=11∧ag8.size=6∧amo.size=8∧aiF.size=7∧sp.size=1:=⟨rfl,rfl,rfl,rfl,rfl,rfl,rfl⟩
theorem amr(t0 t1 t2 t3:Int)(J:List Job)(F:List G8)(A:List Str)(O:List Out)(hl:O.length<=60)(hr:∀ o∈O,(0<=o.1∧o.1<=9999)∧(0<=o.2.1∧o.2.1<=9999))(hd:∀ o∈O,fB o.2.2∧o.2.2.length<=300):
  ∀ (k i:Nat) (l:List Str),i+k=O.length->l.length<=100+i->l26 (Sv i t0 t1 t2 t3 J F A O l)=some (l++(O.drop i).map wZ)
 |0,i,l,h,hz=>by
  refine eL ((agl dd l26 ..).trans ?_);show (_:Option (List ByteArray))=some _
  rw[ay (by rw[bF];omega),List.drop_eq_nil_of_le (by omega)]
  simp
 |k+1,i,l,h,hz=>by
  have hi:i<O.length:=by omega
  have hdr:=eG (z:=((0,0,[]):Out)) hi
  have hm:gt O (i:Int) (0,0,[])∈O:=by rw[gB hi];exact List.getElem_mem hi
  have r1:=hr _ hm
  have d1:=hd _ hm
  generalize hq:gt O (i:Int) (0,0,[])=o at hdr r1 d1
  obtain⟨s1,s2,s3,s4,s5,s6,s7⟩:=Aa
  have z1:=eH o.1.toNat
  have z2:=eH o.2.1.toNat
  have z3:=Ny d1.1
  have ih:=amr t0 t1 t2 t3 J F A O hl hr hd k (i+1) (l++[wZ o]) (by omega) (by simp;omega)
  rw[hdr,List.map_cons,show l++wZ o::(O.drop (i+1)).map wZ=l++[wZ o]++(O.drop (i+1)).map wZ by simp]
  refine eL ((agl dd l26 ..).trans ?_);show (_:Option (List ByteArray))=some _
  rw[au (by rw[bF];omega),if_pos (by omega),if_pos (by rw[bF];omega),hq,TA r1.1,abJ,if_pos (by rw[s6];omega),if_pos (by rw[aN,s6,s7];omega),TA r1.2,abJ,if_pos (by rw[aN,aN,s6,s7];omega)]
  by_cases c:o.2.1=200
  ·rw[aK c,if_pos (by rw[aN,aN,aN,s6,s7];omega),D74 d1.1 d1.2,abJ,if_pos (by rw[aN,aN,aN,aN,s6,s7];omega),if_pos (by omega),bf (by omega)]
   unfold wZ at ih⊢
   rw[if_pos c] at ih⊢
   exact ih
  ·rw[aA c,if_pos (by omega),bf (by omega)]
   unfold wZ at ih⊢
   rw[if_neg c] at ih⊢
   exact ih
end T
end
section
namespace T
open Go Go.E Go.Proofs
theorem ams{t0 t1 t2 t3:Int}{J:List Job}{F:List G8}{A:List Str}{O:List Out}(hb:ad9 (t0,t1,t2,t3,J,F,A,O)):
  ∀ (k i:Nat) (l:List Str),i+k=A.length->l.length<=10+i->l26 (WM i t0 t1 t2 t3 J F A O l)=some (l++(A.drop i).map Fq++O.map wZ)
 |0,i,l,h,hz=>by
  have ha:=hb.asked
  dsimp only at ha
  refine eL ((agk dd l26 ..).trans ?_)
  rw[ay (by rw[bF];omega),List.drop_eq_nil_of_le (by omega),List.map_nil,List.append_nil]
  exact amr t0 t1 t2 t3 J F A O hb.outs hb.amq hb.od O.length 0 l (by omega) (by omega)
 |k+1,i,l,h,hz=>by
  have ha:=hb.asked
  dsimp only at ha
  have hi:i<A.length:=by omega
  have hdr:=eG (z:=ByteArray.mk #[]) hi
  have hm:gt A (i:Int) (ByteArray.mk #[])∈A:=by rw[gB hi];exact List.getElem_mem hi
  have r1:=hb.names _ hm
  generalize hq:gt A (i:Int) (ByteArray.mk #[])=a at hdr r1
  obtain⟨s1,s2,s3,s4,s5,s6,s7⟩:=Aa
  have ih:=ams hb k (i+1) (l++[Fq a]) (by omega) (by simp;omega)
  rw[hdr,List.map_cons,show l++Fq a::(A.drop (i+1)).map Fq=l++[Fq a]++(A.drop (i+1)).map Fq by simp]
  refine eL ((agk dd l26 ..).trans ?_)
  rw[au (by rw[bF];omega),if_pos (by omega),if_pos (by rw[bF];omega),hq,if_pos (by rw[s5];omega),if_pos (by omega),bf (by omega)]
  exact ih
theorem D26{s:Ts}(hs:TJ s)(c:Cf):r26 dd (c,s)=some (if y9 c s then afX s else []):=by
 have h0:=D48 hs.sh c
 have hb:=fun h=>VZ (c:=c) hs h
 obtain⟨t0,t1,t2,t3,J,F,A,O⟩:=s
 obtain⟨c0,c1,c2,c3,c4,c5,c6⟩:=c
 refine dL rfl ((b26 dd l26 ..).trans ?_)
 rw[h0,abJ]
 cases e:y9 (c0,c1,c2,c3,c4,c5,c6) (t0,t1,t2,t3,J,F,A,O) with
 |false=>rfl
 |true=>
  have hb:=hb e
  have h1:=hb.at_;have h2:=hb.tok;have h3:=hb.jobs;have h4:=hb.uO
  dsimp only at h1 h2 h3 h4
  obtain⟨s1,s2,s3,s4,s5,s6,s7⟩:=Aa
  have z1:=eH t0.toNat
  have z2:=eH t1.toNat
  have z3:=eH J.length
  have z4:=eH F.length
  have ih:=ams hb A.length 0 [aiG (t0,t1,t2,t3,J,F,A,O)] (by omega) (by simp)
  rw[Bool.not_true,cond_false,TA h1,abJ,if_pos (by rw[s1];omega),if_pos (by rw[aN,s1,s2];omega),TA h2,abJ,if_pos (by rw[aN,aN,s1,s2];omega),if_pos (by rw[aN,aN,aN,s1,s2,s3];omega)]
  rw[bF,D73 _ (by omega),abJ,if_pos (by simp only[aN];rw[s1,s2,s3];omega),if_pos (by simp only[aN];rw[s1,s2,s3,s4];omega),bF,D73 _ (by omega),abJ,if_pos (by simp only[aN];rw[s1,s2,s3,s4];omega)]
  exact ih
theorem amu(it:Ito)(O:List Out)(hl:O.length<=60)(hr:∀ o∈O,(0<=o.1∧o.1<=9999)∧(0<=o.2.1∧o.2.1<=9999))(hd:∀ o∈O,fB o.2.2∧o.2.2.length<=300):
  ∀ (k i:Nat) (l:List Str),i+k=O.length->l.length<=100+i->l29 (Sz O (ln O) i l)=some (l++(O.drop i).map wZ)
 |0,i,l,h,hz=>by
  refine eL ((agn dd l29 ..).trans ?_);show (_:Option (List ByteArray))=some _
  rw[ay (by rw[bF];omega),List.drop_eq_nil_of_le (by omega)]
  simp
 |k+1,i,l,h,hz=>by
  have hi:i<O.length:=by omega
  have hdr:=eG (z:=((0,0,[]):Out)) hi
  have hm:gt O (i:Int) (0,0,[])∈O:=by rw[gB hi];exact List.getElem_mem hi
  have r1:=hr _ hm
  have d1:=hd _ hm
  generalize hq:gt O (i:Int) (0,0,[])=o at hdr r1 d1
  obtain⟨s1,s2,s3,s4,s5,s6,s7⟩:=Aa
  have z1:=eH o.1.toNat
  have z2:=eH o.2.1.toNat
  have z3:=Ny d1.1
  have ih:=amu it O hl hr hd k (i+1) (l++[wZ o]) (by omega) (by simp;omega)
  rw[hdr,List.map_cons,show l++wZ o::(O.drop (i+1)).map wZ=l++[wZ o]++(O.drop (i+1)).map wZ by simp]
  refine eL ((agn dd l29 ..).trans ?_);show (_:Option (List ByteArray))=some _
  rw[au (by rw[bF];omega),if_pos (by omega),if_pos (by rw[bF];omega),hq,it _ r1.1.1 r1.1.2,abJ,if_pos (by rw[s6];omega),if_pos (by rw[aN,s6,s7];omega),it _ r1.2.1 r1.2.2,abJ,if_pos (by rw[aN,aN,s6,s7];omega)]
  by_cases c:o.2.1=200
  ·rw[aK c,D81 it d1.1 d1.2,abJ,if_pos (by rw[s7];omega),if_pos (by simp only[aN];rw[s6,s7];omega),if_pos (by omega),bf (by omega)]
   unfold wZ at ih⊢
   rw[if_pos c] at ih⊢
   rw[<- ByteArray.append_assoc]
   exact ih
  ·rw[aA c,if_pos (by omega),bf (by omega)]
   unfold wZ at ih⊢
   rw[if_neg c] at ih⊢
   exact ih
theorem amv(it:Ito){t0 t1 t2 t3:Int}{J:List Job}{F:List G8}{A:List Str}{O:List Out}(hb:ad9 (t0,t1,t2,t3,J,F,A,O)):
  ∀ (k i:Nat) (l:List Str),i+k=A.length->l.length<=10+i->l29 (WO A (ln A) i t0 t1 t2 t3 J F A O l)=some (l++(A.drop i).map Fq++O.map wZ)
 |0,i,l,h,hz=>by
  have ha:=hb.asked
  dsimp only at ha
  refine eL ((agm dd l29 ..).trans ?_)
  rw[ay (by rw[bF];omega),List.drop_eq_nil_of_le (by omega),List.map_nil,List.append_nil]
  exact amu it O hb.outs hb.amq hb.od O.length 0 l (by omega) (by omega)
 |k+1,i,l,h,hz=>by
  have ha:=hb.asked
  dsimp only at ha
  have hi:i<A.length:=by omega
  have hdr:=eG (z:=ByteArray.mk #[]) hi
  have hm:gt A (i:Int) (ByteArray.mk #[])∈A:=by rw[gB hi];exact List.getElem_mem hi
  have r1:=hb.names _ hm
  generalize hq:gt A (i:Int) (ByteArray.mk #[])=a at hdr r1
  obtain⟨s1,s2,s3,s4,s5,s6,s7⟩:=Aa
  have ih:=amv it hb k (i+1) (l++[Fq a]) (by omega) (by simp;omega)
  rw[hdr,List.map_cons,show l++Fq a::(A.drop (i+1)).map Fq=l++[Fq a]++(A.drop (i+1)).map Fq by simp]
  refine eL ((agm dd l29 ..).trans ?_)
  rw[au (by rw[bF];omega),if_pos (by omega),if_pos (by rw[bF];omega),hq,if_pos (by rw[s5];omega),if_pos (by omega),bf (by omega)]
  exact ih
theorem D29(it:Ito){s:Ts}(hs:TJ s)(c:Cf):r29 dd (c,s)=some (if y9 c s then afX s else []):=by
 have h0:=D79 hs.sh c
 have hb:=fun h=>VZ (c:=c) hs h
 obtain⟨t0,t1,t2,t3,J,F,A,O⟩:=s
 obtain⟨c0,c1,c2,c3,c4,c5,c6⟩:=c
 refine dL rfl ((b29 dd l29 ..).trans ?_)
 rw[h0,abJ]
 cases e:y9 (c0,c1,c2,c3,c4,c5,c6) (t0,t1,t2,t3,J,F,A,O) with
 |false=>rfl
 |true=>
  have hb:=hb e
  have h1:=hb.at_;have h2:=hb.tok;have h3:=hb.jobs;have h4:=hb.uO
  dsimp only at h1 h2 h3 h4
  obtain⟨s1,s2,s3,s4,s5,s6,s7⟩:=Aa
  have z1:=eH t0.toNat
  have z2:=eH t1.toNat
  have z3:=eH J.length
  have z4:=eH F.length
  have j3:=it (ln J) (by rw[bF];omega) (by rw[bF];omega)
  have j4:=it (ln F) (by rw[bF];omega) (by rw[bF];omega)
  have ih:=amv it hb A.length 0 [aiG (t0,t1,t2,t3,J,F,A,O)] (by omega) (by simp)
  rw[bF,aeg] at j3 j4
  rw[Bool.not_true,cond_false,it _ h1.1 h1.2,abJ,if_pos (by rw[s1];omega),if_pos (by rw[aN,s1,s2];omega),it _ h2.1 h2.2,abJ,if_pos (by rw[aN,aN,s1,s2];omega),if_pos (by rw[aN,aN,aN,s1,s2,s3];omega)]
  rw[bF J,j3,abJ,if_pos (by simp only[aN];rw[s1,s2,s3];omega),if_pos (by simp only[aN];rw[s1,s2,s3,s4];omega),bF F,j4,abJ,if_pos (by simp only[aN];rw[s1,s2,s3,s4];omega)]
  exact ih
end T
end
section
namespace T
open Go Go.E Go.Proofs
theorem L47(l:List Str)(hl:l.length<=1000):∀ (k i:Nat),i+k=l.length->l47 (WQ l l i)=some true
 |0,i,h=>by
  refine eL ((agp dd l47 ..).trans ?_);show (_:Option Bool)=some _
  rw[ay (by rw[bF];omega)]
 |k+1,i,h=>by
  have ih:=L47 l hl k (i+1) (by omega)
  refine eL ((agp dd l47 ..).trans ?_);show (_:Option Bool)=some _
  rw[au (by rw[bF];omega),if_pos (by omega),if_pos (by rw[bF];omega),if_pos (by omega),if_pos (by rw[bF];omega),beq_self_eq_true,Bool.not_true,cond_false,bf (by omega)]
  exact ih
theorem D47{l:List Str}(hl:l.length<=1000):r47 dd (l,l)=some true:=by
 refine dL rfl ((b47 dd l47 ..).trans ?_)
 rw[iM rfl]
 exact L47 l hl l.length 0 (by omega)
theorem afY(s:Ts):(afX s).length=1+s.2.2.2.2.2.2.1.length+s.2.2.2.2.2.2.2.length:=by
 unfold afX
 simp only[List.length_append,List.length_map,List.length_cons,List.length_nil]
theorem D9(it:Ito){a:List Int}(hb:fB a):r9 dd a=some true:=by
 refine dL rfl ((b9 dd l9 ..).trans ?_);show (_:Option Bool)=some _
 by_cases c0:a.length>1048576
 ·rw[au (by rw[bF];omega)]
 rw[ay (by rw[bF];omega)]
 obtain⟨c,t,h,ht⟩:=D46 hb (by omega)
 have h1:=D29 it ht c
 have h2:=D26 ht c
 have h3:=D48 ht.sh c
 have hz:=afY t
 rw[h,abJ,h1,abJ,h2,abJ]
 cases e:y9 c t with
 |false=>
  rw[e] at h3
  rw[if_neg Bool.false_ne_true,D47 (by simp),abJ,Bool.not_true,cond_false,h3,abJ,Bool.not_false,cond_true,show (ln ([]:List Str))=0 from rfl,aK rfl,D14,abJ]
 |true=>
  rw[e] at h3
  have hk:=VZ ht e
  have h5:=hk.asked
  have h6:=hk.outs
  rw[if_pos rfl,D47 (by omega),abJ,Bool.not_true,cond_false,h3,abJ,Bool.not_true,cond_false]
  dsimp only
  rw[bF,hz,bF,bF,aI (x:=1+(t.2.2.2.2.2.2.1.length:Int)) (by omega) (by omega),aI (by omega) (by omega)]
  refine congrArg some (beq_iff_eq.2 ?_)
  omega
end T
end
section
namespace T
open Go Go.E Go.Proofs
theorem afZ(b:Bool):akB dd b=some (bif b then 1 else 0):=by
 refine dL rfl ((ape dd apf ..).trans ?_)
 cases b<;>rfl
theorem arA{n:Int}(h:0<=n∧n<=64):akA dd n=some (n*78913/262144):=by
 refine dL rfl ((apb dd apc ..).trans ?_)
 rw[aI (by omega) (by omega),fd (by omega)];rfl
theorem aea:∀ k:Fin 256,aW ni ((k.val:Nat):Int)=if k.val<64 then aW ni ((k.val:Nat):Int) else if k.val<128 then 7 else 8:=by decide +kernel
theorem aeb:∀ k:Fin 64,0<k.val->1<=aW ni ((k.val:Nat):Int)∧aW ni ((k.val:Nat):Int)<=6∧(k.val<2->aW ni ((k.val:Nat):Int)=1)∧(2<=k.val->2<=aW ni ((k.val:Nat):Int))∧(4<=k.val->3<=aW ni ((k.val:Nat):Int))∧(k.val<4->aW ni ((k.val:Nat):Int)<=2)∧(k.val<32->aW ni ((k.val:Nat):Int)<=5)∧(32<=k.val->aW ni ((k.val:Nat):Int)=6):=by decide +kernel
theorem arB{n:Int}(h0:100<=n)(h1:n<=9999):∃ b,ahT dd n=some b∧7<=b∧b<=14∧(n<512->b<=9)∧(512<=n->10<=b)∧(n<8192->b<=13)∧(8192<=n->b=14):=by
 have start:∀ {b},afy (PD n 0)=some b->ahT dd n=some b:=fun h=>by
  refine dL rfl ((apd dd afy ..).trans ?_);show (_:Option Int)=some _
  rw[ay (by omega)]
  exact h
 have hs:(ni.size:Int)=256:=by kernel_rfl
 by_cases c:n≥256
 ·have w:wb (n.fdiv (2^8))=((n/256).toNat:Int):=by rw[fd (by omega),jy (by omega) (by omega)];omega
  have t:=aeb ⟨(n/256).toNat,by omega⟩ (by show 0<(n/256).toNat;omega)
  dsimp only at t
  generalize hb:aW ni (((n/256).toNat:Nat):Int)=b at t
  refine⟨8+b,start ?_,by omega⟩
  refine eL ((acQ dd afy ..).trans ?_);show (_:Option Int)=some _
  rw[ay (by omega),au c,w,hs,if_pos (by omega),if_pos (by omega),hb,aI (x:=0+8) (by omega) (by omega),aI (x:=b) (by omega) (by omega),aI (by omega) (by omega)]
  rfl
 ·have w:wb n=((n.toNat:Nat):Int):=by rw[jy (by omega) (by omega)];omega
  have t:=aea ⟨n.toNat,by omega⟩
  dsimp only at t
  rw[if_neg (by omega)] at t
  generalize hb:aW ni ((n.toNat:Nat):Int)=b at t
  have hbb:7<=b∧b<=8:=by split at t<;>omega
  refine⟨b,start ?_,by omega⟩
  refine eL ((acQ dd afy ..).trans ?_);show (_:Option Int)=some _
  rw[ay (by omega),ay c,w,hs,if_pos (by omega),if_pos (by omega),hb,aI (x:=b) (by omega) (by omega),aI (by omega) (by omega)]
  rw[Int.zero_add]
theorem aec:gt pow10 2 0=100∧gt pow10 3 0=1000∧gt pow10 4 0=10000:=⟨rfl,rfl,rfl⟩
theorem arC{n:Int}(h0:100<=n)(h1:n<=9999):aks dd n=some (if n<1000 then 3 else 4):=by
 obtain⟨b,hb,b0,b1,b2,b3,b4,b5⟩:=arB h0 h1
 have hr:=arA (n:=b) (by omega)
 obtain⟨p2,p3,p4⟩:=aec
 refine dL rfl ((aoW dd aoX ..).trans ?_)
 rw[hb,abJ,hr,abJ]
 have key:b*78913/262144=2∨b*78913/262144=3∨b*78913/262144=4:=by omega
 rcases key with k|k|k
 ·rw[k,if_pos (by omega),if_pos (by omega),p2,decide_eq_true (by omega),afZ,abJ,if_pos (by omega)];rfl
 ·rw[k,if_pos (by omega),if_pos (by omega),p3]
  by_cases c:n<1000
  ·rw[decide_eq_false (by omega),afZ,abJ,if_pos c];rfl
  ·rw[decide_eq_true (by omega),afZ,abJ,if_neg c];rfl
 ·rw[k,if_pos (by omega),if_pos (by omega),p4,decide_eq_false (by omega),afZ,abJ,if_neg (by omega)];rfl
end T
end
section
namespace T
open Go Go.E Go.Proofs
abbrev aed:Str:=ByteArray.mk #[48,49,50,51,52,53,54,55,56,57,97,98,99,100,101,102,103,104,105,106,107,108,109,110,111,112,113,114,115,116,117,118,119,120,121,122]
theorem Eu:∀ k:Fin 10,aed.extract k.val (k.val+1)=fO k.val:=by decide +kernel
theorem Y6:∀ k:Fin 100,10<=k.val->je.extract (k.val*2) (k.val*2+2)=fO k.val:=by decide +kernel
theorem arD{n:Int}(h0:0<=n)(h1:n<100):akr dd n=some (fO n.toNat):=by
 have s1:(aed.size:Int)=36:=by kernel_rfl
 have s2:(je.size:Int)=200:=by kernel_rfl
 refine dL rfl ((aoU dd aoV ..).trans ?_)
 by_cases c:n<10
 ·have t:=Eu ⟨n.toNat,by omega⟩
  dsimp only at t
  rw[au c,aI (by omega) (by omega),show (n+1).toNat=n.toNat+1 by omega,if_pos h0,if_pos (by omega),if_pos (by show n+1<=(aed.size:Int);omega)]
  exact congrArg some t
 ·have t:=Y6 ⟨n.toNat,by omega⟩ (by show 10<=n.toNat;omega)
  dsimp only at t
  rw[ay c,aI (x:=n*2) (by omega) (by omega),aI (by omega) (by omega),show (n*2).toNat=n.toNat*2 by omega,show (n*2+2).toNat=n.toNat*2+2 by omega,if_pos (by omega),if_pos (by omega),if_pos (by omega)]
  exact congrArg some t
end T
end
section
namespace T
open Go Go.E Go.Proofs
theorem G9{x:Int}(h0:0<=x)(h1:x<4294967296):IntKind.u32.wrap x=x:=by
 unfold IntKind.wrap
 simp only[IntKind.bits,IntKind.signed,Bool.false_and,Bool.false_eq_true,if_false]
 omega
theorem Qm:∀ k:Fin 100,aW je ((k.val*2:Nat):Int)=((48+k.val/10:Nat):Int)∧aW je ((k.val*2+1:Nat):Int)=((48+k.val%10:Nat):Int):=by decide +kernel
theorem plain_three{n:Nat}(h0:100<=n)(h1:n<=999):fO n=bU [((48+n/100:Nat):Int),((48+n/10%10:Nat):Int),((48+n%10:Nat):Int)]:=by
 unfold fO kP
 rw[if_pos (by omega)]
 unfold kP
 rw[if_pos (by omega)]
 unfold kP
 rw[if_neg (by omega),show n/10/10=n/100 by omega]
 simp
theorem plain_four{n:Nat}(h0:1000<=n)(h1:n<=9999):fO n=bU [((48+n/1000:Nat):Int),((48+n/100%10:Nat):Int),((48+n/10%10:Nat):Int),((48+n%10:Nat):Int)]:=by
 unfold fO kP
 rw[if_pos (by omega)]
 unfold kP
 rw[if_pos (by omega)]
 unfold kP
 rw[if_pos (by omega)]
 unfold kP
 rw[show n/10/10=n/100 by omega,show n/100/10=n/1000 by omega]
 simp
theorem Nz:(je.size:Int)=200:=by kernel_rfl
theorem aiH{n:Int}(h0:100<=n)(h1:n<=999):SE (O5 1 4 3 n n 0 3 (List.replicate 24 0))=some (fO n.toNat):=by
 have e0:n.tmod 100=((n.toNat%100:Nat):Int):=by rw[tm (by omega)];omega
 have e1:n.tdiv 100=((n.toNat/100:Nat):Int):=by rw[td (by omega)];omega
 obtain⟨t1,t2⟩:=Qm ⟨n.toNat%100,by omega⟩
 dsimp only at t1 t2
 have w1:IntKind.u32.wrap (((n.toNat%100:Nat):Int)*2)=((n.toNat%100*2:Nat):Int):=by rw[G9 (by omega) (by omega)];omega
 have w2:IntKind.u32.wrap (((n.toNat%100*2:Nat):Int)+1)=((n.toNat%100*2+1:Nat):Int):=by rw[G9 (by omega) (by omega)];omega
 have w3:IntKind.u32.wrap ((n.toNat/100:Nat):Int)=((n.toNat/100:Nat):Int):=G9 (by omega) (by omega)
 have w4:IntKind.u32.wrap (48+((n.toNat/100:Nat):Int))=((48+n.toNat/100:Nat):Int):=by rw[G9 (by omega) (by omega)];omega
 have w5:wb ((48+n.toNat/100:Nat):Int)=((48+n.toNat/100:Nat):Int):=jy (by omega) (by omega)
 have k1:wi ((3:Int)-1)=2:=by decide
 have k2:wi ((3:Int)-2)=1:=by decide
 have k3:wi ((1:Int)+3)=4:=by decide
 refine eL ((acr dd SE ..).trans ?_)
 rw[e0,e1,w1,w2,w3,w4,w5,Nz,t1,t2,k1,k2,k3]
 rw[au (by omega),if_pos (by omega),if_pos (by omega),if_pos (by omega),if_pos (by omega),if_pos (by omega),if_pos (by omega),if_pos (by omega),if_pos (by omega),au (by omega),if_pos (by omega),ay (by omega),if_pos rfl,if_pos (by simp),if_pos (by omega),if_pos (by omega)]
 rw[plain_three (by omega) (by omega),show n.toNat%100/10=n.toNat/10%10 by omega,show n.toNat%100%10=n.toNat%10 by omega]
 rfl
theorem aiI{n:Int}(h0:1000<=n)(h1:n<=9999):SE (O4 1 5 n 4 n 0 4 (List.replicate 24 0))=some (fO n.toNat):=by
 have e:IntKind.u32.wrap n=n:=G9 (by omega) (by omega)
 have e2:n.tmod 10000=n:=by rw[tm (by omega)];omega
 have e3:IntKind.u32.wrap (n.tdiv 10000)=0:=by rw[td (by omega),G9 (by omega) (by omega)];omega
 have e0:n.tmod 100=((n.toNat%100:Nat):Int):=by rw[tm (by omega)];omega
 have e1:n.tdiv 100=((n.toNat/100:Nat):Int):=by rw[td (by omega)];omega
 obtain⟨t1,t2⟩:=Qm ⟨n.toNat%100,by omega⟩
 obtain⟨t3,t4⟩:=Qm ⟨n.toNat/100,by omega⟩
 dsimp only at t1 t2 t3 t4
 have w1:IntKind.u32.wrap (((n.toNat%100:Nat):Int)*2)=((n.toNat%100*2:Nat):Int):=by rw[G9 (by omega) (by omega)];omega
 have w2:IntKind.u32.wrap (((n.toNat%100*2:Nat):Int)+1)=((n.toNat%100*2+1:Nat):Int):=by rw[G9 (by omega) (by omega)];omega
 have w3:IntKind.u32.wrap ((n.toNat/100:Nat):Int)=((n.toNat/100:Nat):Int):=G9 (by omega) (by omega)
 have w4:IntKind.u32.wrap (((n.toNat/100:Nat):Int)*2)=((n.toNat/100*2:Nat):Int):=by rw[G9 (by omega) (by omega)];omega
 have w5:IntKind.u32.wrap (((n.toNat/100*2:Nat):Int)+1)=((n.toNat/100*2+1:Nat):Int):=by rw[G9 (by omega) (by omega)];omega
 have k1:wi ((4:Int)-1)=3:=by decide
 have k2:wi ((4:Int)-2)=2:=by decide
 have k3:wi ((4:Int)-3)=1:=by decide
 have k4:wi ((4:Int)-4)=0:=by decide
 have k5:wi ((1:Int)+4)=5:=by decide
 refine eL ((acp dd SE ..).trans ?_)
 rw[ay (by omega),au (by omega),e,e2,e3,e0,e1,w1,w2,w3,w4,w5,Nz,t1,t2,t3,t4,k1,k2,k3,k4]
 rw[if_pos (by omega),if_pos (by omega),if_pos (by omega),if_pos (by omega),if_pos (by omega),if_pos (by omega),if_pos (by omega),if_pos (by omega),if_pos (by omega),if_pos (by omega),if_pos (by omega),if_pos (by omega),if_pos (by omega),if_pos (by omega),if_pos (by omega),if_pos (by omega)]
 refine eL ((acr dd SE ..).trans ?_)
 rw[ay (by omega),ay (by omega),ay (by omega),if_pos rfl,if_pos (by simp),k5,if_pos (by omega),if_pos (by omega)]
 rw[plain_four (by omega) (by omega),show n.toNat%100/10=n.toNat/10%10 by omega,show n.toNat%100%10=n.toNat%10 by omega,show n.toNat/100/10=n.toNat/1000 by omega]
 rfl
theorem arE{n:Int}(h0:0<=n)(h1:n<=9999):akf dd (n,10)=some (fO n.toNat):=by
 refine dL rfl ((aou dd SE ..).trans ?_);show (_:Option (ByteArray))=some _
 rw[aK rfl,au h0]
 by_cases c:n<100
 ·rw[au c,arD h0 c,abJ]
 ·have e:IntKind.u64.wrap n=n:=by
   unfold IntKind.wrap
   simp only[IntKind.bits,IntKind.signed,Bool.false_and,Bool.false_eq_true,if_false]
   omega
  rw[ay c,ay (by omega),e]
  refine eL ((ah3 dd SE ..).trans ?_);show (_:Option (ByteArray))=some _
  rw[arC (by omega) h1,abJ,if_pos rfl,if_pos (by simp)]
  by_cases d:n<1000
  ·rw[if_pos d,show wi ((1:Int)+3)=4 by decide,if_pos (by omega),if_pos (by omega)]
   refine eL ((acp dd SE ..).trans ?_);show (_:Option (ByteArray))=some _
   have e5:IntKind.u32.wrap n=n:=G9 (by omega) (by omega)
   rw[show ln (List.drop 1 (List.take (4:Int).toNat (List.replicate 24 (0:Int))))=3 from rfl,ay (by omega),ay (by omega),e5]
   exact aiH (by omega) (by omega)
  ·rw[if_neg d,show wi ((1:Int)+4)=5 by decide,if_pos (by omega),if_pos (by omega)]
   exact aiI (by omega) h1
theorem D80{n:Int}(h0:0<=n)(h1:n<=9999):r80 dd n=some (fO n.toNat):=by
 have h:aj3 dd n=some (fO n.toNat):=by
  refine dL rfl ((an6 dd an7 ..).trans ?_);show (_:Option (ByteArray))=some _
  rw[arE h0 h1,abJ]
 refine dL rfl ((b80 dd l80 ..).trans ?_);show (_:Option (ByteArray))=some _
 rw[h,abJ]
end T
end
section
namespace T
open Go Go.E Go.Proofs
theorem D9t{a:List Int}(hb:fB a):r9 dd a=some true:=D9 (fun _ h0 h1=>D80 h0 h1) hb
end T
end
