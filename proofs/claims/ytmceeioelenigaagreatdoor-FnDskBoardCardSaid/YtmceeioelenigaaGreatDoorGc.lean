/- Plain laws: numbers, sums, signs, steps of the reference. -/
import Derived.Test.YtmceeioelenigaaGreatDoorGb
section
namespace T
open Go Go.E Go.Proofs
def kP:Nat->Nat->List Int->List Int
 |0,n,acc=>(48+(n:Int))::acc
 |f+1,n,acc=>if n>9 then kP f (n/10) ((48+((n%10:Nat):Int))::acc) else (48+(n:Int))::acc
def fO(n:Nat):Str:=bU (kP 3 n [])
theorem yY:∀ (f n:Nat) (acc:List Int),acc.length+1<=(kP f n acc).length∧(kP f n acc).length<=acc.length+f+1
 |0,n,acc=>by simp[kP]
 |f+1,n,acc=>by
  unfold kP
  split
  ·have:=yY f (n/10) ((48+((n%10:Nat):Int))::acc)
   simp only[List.length_cons] at this
   omega
  ·simp
theorem wW(n:Nat):1<=(fO n).size∧(fO n).size<=4:=by
 unfold fO
 rw[rE]
 have:=yY 3 n []
 simp only[List.length_nil] at this
 omega
theorem KE(a b:List Int):bU a++bU b=bU (a++b):=by
 apply ByteArray.ext
 rw[ByteArray.data_append]
 show (a.map fun n=>UInt8.ofNat n.toNat).toArray++(b.map fun n=>UInt8.ofNat n.toNat).toArray=((a++b).map fun n=>UInt8.ofNat n.toNat).toArray
 simp
theorem L73:∀ (f n:Nat) (acc:List Int),n<10^(f+1)->f<=3->acc.length+f<=100->l73 (WU n (bU acc))=some (bU (kP f n acc))
 |0,n,acc,h,hf,ha=>by
  have h:n<10:=h
  refine eL ((agv dd l73 ..).trans ?_)
  have w1:wi (48+(n:Int))=48+(n:Int):=aI (by omega) (by omega)
  have w2:wb (48+(n:Int))=48+(n:Int):=jy (by omega) (by omega)
  rw[ay (by omega),if_pos (by rw[rE,rE];simp;omega),w1,w2,KE]
  rfl
 |f+1,n,acc,h,hf,ha=>by
  have h:n<10^(f+1)*10:=h
  refine eL ((agv dd l73 ..).trans ?_)
  have hlt:n<10000:=Nat.lt_of_lt_of_le h (by match f,hf with|0,_=>decide|1,_=>decide|2,_=>decide)
  unfold kP
  by_cases c:n>9
  ·have w1:wi (48+(n:Int).tmod 10)=48+((n%10:Nat):Int):=by rw[tm (by omega),aI (by omega) (by omega)];omega
   have w2:wb (48+((n%10:Nat):Int))=48+((n%10:Nat):Int):=jy (by omega) (by omega)
   have w3:wi ((n:Int).tdiv 10)=((n/10:Nat):Int):=by rw[td (by omega),aI (by omega) (by omega)];omega
   rw[au (by omega),if_pos (by rw[rE,rE];simp;omega),if_pos c,w1,w2,w3,KE]
   exact L73 f (n/10) _ (Nat.div_lt_of_lt_mul (by rw[Nat.mul_comm];exact h)) (by omega) (by simp;omega)
  ·have w1:wi (48+(n:Int))=48+(n:Int):=aI (by omega) (by omega)
   have w2:wb (48+(n:Int))=48+(n:Int):=jy (by omega) (by omega)
   rw[ay (by omega),if_pos (by rw[rE,rE];simp;omega),if_neg c,w1,w2,KE]
   rfl
theorem D73(n:Nat)(h:n<=9999):WL dd (n:Int)=some (fO n):=by
 refine dL rfl ((b73 dd l73 ..).trans ?_)
 exact L73 3 n [] (by omega) (Nat.le_refl _) (by simp)
theorem TA{n:Int}(h:0<=n∧n<=9999):WL dd n=some (fO n.toNat):=by
 have:=D73 n.toNat (by omega)
 rwa [show ((n.toNat:Nat):Int)=n by omega] at this
theorem L98(s:Str)(c:Int)(hs:s.size<=100000):∀ (k i:Nat) (w:Str) (o:List Str),i+k=s.size->w.size<=i->o.length<=i->(∀ x∈o,x.size<=s.size)->
  ∃ l,l98 (SA s c w i o)=some l∧l.length<=s.size+1∧∀ x∈l,x.size<=s.size
 |0,i,w,o,h,hw,ho,hx=>by
  refine⟨o.append [w],?_,by simp;omega,fun x hm=> ?_⟩
  ·refine eL ((abP dd l98 ..).trans ?_);show (_:Option (List ByteArray))=some _
   rw[ay (by omega),if_pos (by omega)]
  ·rcases adh.1 hm with hm|hm
   ·exact hx x hm
   ·rw[List.mem_singleton.1 hm];omega
 |k+1,i,w,o,h,hw,ho,hx=>by
  by_cases c1:aW s i=c
  ·obtain⟨l,e,h1,h2⟩:=L98 s c hs k (i+1) (ByteArray.mk #[]) (o.append [w]) (by omega) (by show 0<=_;omega) (by simp;omega) (fun x hm=>by
    rcases adh.1 hm with hm|hm
    ·exact hx x hm
    ·rw[List.mem_singleton.1 hm];omega)
   refine⟨l,?_,h1,h2⟩
   refine eL ((abP dd l98 ..).trans ?_);show (_:Option (List ByteArray))=some _
   rw[au (by omega),if_pos (by omega),if_pos (by omega),aK c1,if_pos (by omega),bf (by omega)]
   exact e
  ·have hz:(s.extract i (i+1)).size<=1:=by rw[zX];omega
   obtain⟨l,e,h1,h2⟩:=L98 s c hs k (i+1) (w++s.extract i (i+1)) o (by omega) (by rw[aN];omega) (by omega) hx
   refine⟨l,?_,h1,h2⟩
   refine eL ((abP dd l98 ..).trans ?_);show (_:Option (List ByteArray))=some _
   rw[au (by omega),if_pos (by omega),if_pos (by omega),aA c1,bf (by omega),if_pos (by omega),if_pos (by omega),if_pos (by omega),aeg,aeg,if_pos (by omega)]
   exact e
theorem D98(s:Str)(c:Int)(hs:s.size<=100000):∃ l,r98 dd (s,c)=some l∧l.length<=s.size+1∧∀ x∈l,x.size<=s.size:=by
 obtain⟨l,e,h1,h2⟩:=L98 s c hs s.size 0 (ByteArray.mk #[]) [] (by omega) (by show 0<=0;omega) (by simp) (fun _ h=>by cases h)
 exact⟨l,by refine dL rfl ((b98 dd l98 ..).trans ?_);exact e,h1,h2⟩
theorem L99(s:Str)(hs:s.size<=4):∀ (k i:Nat) (n:Nat),i+k=s.size->n<10^i->∃ v:Int,l99 (WY s n i)=some v∧ -1<=v∧v<=9999
 |0,i,n,h,hn=>by
  have hn4:n<10000:=Nat.lt_of_lt_of_le hn (Nat.pow_le_pow_right (n:=10) (by omega) (by omega:i<=4))
  cases c:((fO n).toList==s.toList) with
  |true=>
   refine⟨n,?_,by omega,by omega⟩
   refine eL ((SB dd l99 ..).trans ?_);show (_:Option Int)=some _
   rw[ay (by omega),D73 n (by omega),abJ,c];rfl
  |false=>
   refine⟨-1,?_,by omega,by omega⟩
   refine eL ((SB dd l99 ..).trans ?_);show (_:Option Int)=some _
   rw[ay (by omega),D73 n (by omega),abJ,c];rfl
 |k+1,i,n,h,hn=>by
  have hn4:n<10000:=Nat.lt_of_lt_of_le hn (Nat.pow_le_pow_right (n:=10) (by omega) (by omega:i<=4))
  have r:=yX s i
  by_cases c1:aW s i<48
  ·refine⟨-1,?_,by omega,by omega⟩
   refine eL ((SB dd l99 ..).trans ?_);show (_:Option Int)=some _
   rw[au (by omega),if_pos (by omega),if_pos (by omega),au c1]
  by_cases c2:aW s i>57
  ·refine⟨-1,?_,by omega,by omega⟩
   refine eL ((SB dd l99 ..).trans ?_);show (_:Option Int)=some _
   rw[au (by omega),if_pos (by omega),if_pos (by omega),ay c1,if_pos (by omega),if_pos (by omega),au c2]
  have hp:10^(i+1)=10^i*10:=rfl
  obtain⟨v,e,h1,h2⟩:=L99 s hs k (i+1) (n*10+(aW s i-48).toNat) (by omega) (by rw[hp];omega)
  refine⟨v,?_,h1,h2⟩
  refine eL ((SB dd l99 ..).trans ?_);show (_:Option Int)=some _
  have w1:wb (aW s i-48)=aW s i-48:=jy (by omega) (by omega)
  have w2:wi (aW s i-48)=aW s i-48:=aI (by omega) (by omega)
  have w3:wi ((n:Int)*10)=(n:Int)*10:=aI (by omega) (by omega)
  have w4:wi ((n:Int)*10+(aW s i-48))=((n*10+(aW s i-48).toNat:Nat):Int):=by rw[aI (by omega) (by omega)];omega
  rw[au (by omega),if_pos (by omega),if_pos (by omega),ay c1,if_pos (by omega),if_pos (by omega),ay c2,if_pos (by omega),if_pos (by omega),w1,w2,w3,w4,bf (by omega)]
  exact e
theorem D99(s:Str):∃ v:Int,r99 dd s=some v∧ -1<=v∧v<=9999:=by
 by_cases c0:s.size=0
 ·exact⟨-1,by refine dL rfl ((b99 dd l99 ..).trans ?_);show (_:Option Int)=some _;rw[aK (by omega)],by omega,by omega⟩
 by_cases c1:s.size>4
 ·exact⟨-1,by refine dL rfl ((b99 dd l99 ..).trans ?_);show (_:Option Int)=some _;rw[aA (by omega),au (by omega)],by omega,by omega⟩
 obtain⟨v,e,h⟩:=L99 s (by omega) s.size 0 0 (by omega) (by decide)
 exact⟨v,by refine dL rfl ((b99 dd l99 ..).trans ?_);show (_:Option Int)=some _;rw[aA (by omega),ay (by omega)];exact e,h⟩
def Nu(k:Int):Str:=gt [ByteArray.mk #[],ByteArray.mk #[99,114,111,112],ByteArray.mk #[102,108,105,112,120],ByteArray.mk #[102,108,105,112,121],ByteArray.mk #[116,117,114,110],ByteArray.mk #[103,114,97,121],ByteArray.mk #[98,108,117,114],ByteArray.mk #[115,105,122,101],ByteArray.mk #[102,108,97,116]] k (ByteArray.mk #[])
def yZ(k:Int):Int:=gt [0,4,0,0,0,0,0,2,3] k 0
theorem aqU{k:Int}(h:0<=k∧k<9):akk dd k=some (Nu k,yZ k):=by
 refine dL rfl ((aoD dd aoE ..).trans ?_)
 rw[if_pos (by omega),if_pos (by omega),if_pos (by omega),if_pos (by omega)]
 rfl
def Cc:List Int->Str->Str
 |[],s=>s
 |n::r,s=>Cc r (s++ByteArray.mk #[46]++fO n.toNat)
theorem Gx:∀ (l:List Int) (s:Str),s.size<=(Cc l s).size∧(Cc l s).size<=s.size+5*l.length
 |[],s=>by simp[Cc]
 |n::r,s=>by
  unfold Cc
  have:=Gx r (s++ByteArray.mk #[46]++fO n.toNat)
  have h1:=wW n.toNat
  rw[aN,aN,show (ByteArray.mk #[46]).size=1 from rfl] at this
  simp only[List.length_cons]
  omega
theorem alW(m:Nat)(l:List Int)(hl:l.length=4)(hm:m<=4)(hr:∀ n∈l,0<=n∧n<=9999):∀ (k i:Nat) (s:Str),i+k=m->s.size<=5+5*i->afm (OQ s m i l)=some (Cc ((l.take m).drop i) s)
 |0,i,s,h,hs=>by
  refine eL ((ace dd afm ..).trans ?_)
  rw[ay (by omega),List.drop_eq_nil_of_le (by rw[List.length_take];omega)];rfl
 |k+1,i,s,h,hs=>by
  have hil:i<l.length:=by omega
  have hg:gt l (i:Int) 0=l[i]:=gB hil
  have hv:=hr l[i] (List.getElem_mem hil)
  have hz:=wW l[i].toNat
  refine eL ((ace dd afm ..).trans ?_)
  rw[au (by omega),show (ByteArray.mk #[46]).size=1 from rfl,if_pos (by omega),if_pos (by omega),if_pos (by show (i:Int)<(l.length:Int);omega),hg,TA hv,abJ,if_pos (by rw[aN,show (ByteArray.mk #[46]).size=1 from rfl];omega),bf (by omega),
   alW m l hl hm hr k (i+1) _ (by omega) (by rw[aN,aN,show (ByteArray.mk #[46]).size=1 from rfl];omega)]
  have hd:(l.take m).drop i=l[i]::(l.take m).drop (i+1):=by
   rw[List.drop_eq_getElem_cons (by rw[List.length_take];omega),List.getElem_take]
  rw[hd];rfl
def oP(o:Op):Str:=if qA o=true then Cc ([o.2.1,o.2.2.1,o.2.2.2.1,o.2.2.2.2].take (yZ o.1).toNat) (Nu o.1) else ByteArray.mk #[]
theorem afT(k:Int):0<=yZ k∧yZ k<=4:=by
 unfold yZ gt
 match k.toNat with
 |0=>decide
 |1=>decide
 |2=>decide
 |3=>decide
 |4=>decide
 |5=>decide
 |6=>decide
 |7=>decide
 |8=>decide
 |n+9=>exact⟨by show (0:Int)<=0;decide,by show (0:Int)<=4;decide⟩
theorem Xq(k:Int):(Nu k).size<=5:=by
 unfold Nu gt
 match k.toNat with
 |0=>decide
 |1=>decide
 |2=>decide
 |3=>decide
 |4=>decide
 |5=>decide
 |6=>decide
 |7=>decide
 |8=>decide
 |n+9=>show 0<=5;decide
theorem Gy(o:Op):(oP o).size<=25:=by
 unfold oP
 split
 ·have h1:=Gx ([o.2.1,o.2.2.1,o.2.2.2.1,o.2.2.2.2].take (yZ o.1).toNat) (Nu o.1)
  have h2:=Xq o.1
  have h3:([o.2.1,o.2.2.1,o.2.2.2.1,o.2.2.2.2].take (yZ o.1).toNat).length<=4:=by rw[List.length_take];simp;omega
  omega
 ·show 0<=25;decide
theorem aiu{o:Op}(h:qA o=true):(1<=o.1∧o.1<=8)∧∀ n∈[o.2.1,o.2.2.1,o.2.2.2.1,o.2.2.2.2],0<=n∧n<=9999:=by
 have:=ais h
 cases this<;>refine⟨by dsimp only;omega,fun n hn=> ?_⟩<;>(simp only[List.mem_cons,List.not_mem_nil,or_false] at hn;rcases hn with rfl|rfl|rfl|rfl<;>omega)
theorem adJ(o:Op):ae0 dd o=some (oP o):=by
 obtain⟨k,a,b,c,e⟩:=o
 refine dL rfl ((aoj dd afm ..).trans ?_)
 rw[alk,abJ]
 unfold oP
 cases ho:qA (k,a,b,c,e) with
 |false=>rfl
 |true=>
  obtain⟨hk,hr⟩:=aiu ho
  have hm:=afT k
  rw[if_pos rfl,Bool.not_true,cond_false,aqU (by dsimp only at hk;omega),abJ]
  have:=alW (yZ k).toNat [a,b,c,e] rfl (by omega) hr (yZ k).toNat 0 (Nu k) (by omega) (by have:=Xq k;omega)
  rw[show (((yZ k).toNat:Nat):Int)=yZ k by omega,List.drop_zero] at this
  exact this
def Gz:List Op->Bool->Str->Str
 |[],_,s=>s
 |o::r,true,s=>Gz r false (s++oP o)
 |o::r,false,s=>Gz r false (s++ByteArray.mk #[44]++oP o)
theorem Ce:∀ (l:List Op) (b:Bool) (s:Str),(Gz l b s).size<=s.size+26*l.length
 |[],b,s=>by simp[Gz]
 |o::r,b,s=>by
  have h1:=Gy o
  cases b with
  |true=>
   have:=Ce r false (s++oP o)
   rw[aN] at this
   show (Gz r false (s++oP o)).size<=_
   simp only[List.length_cons];omega
  |false=>
   have:=Ce r false (s++ByteArray.mk #[44]++oP o)
   rw[aN,aN,show (ByteArray.mk #[44]).size=1 from rfl] at this
   show (Gz r false (s++ByteArray.mk #[44]++oP o)).size<=_
   simp only[List.length_cons];omega
theorem aiv(l:List Op)(hl:l.length<=1000):∀ (k i:Nat) (s:Str),i+k=l.length->s.size<=26*i->aff (JL l s i)=some (Gz (l.drop i) (decide (i=0)) s)
 |0,i,s,h,hs=>by
  refine eL ((abX dd aff ..).trans ?_)
  rw[ay (by show ¬ (i:Int)<(l.length:Int);omega),List.drop_eq_nil_of_le (by omega)];rfl
 |k+1,i,s,h,hs=>by
  have hil:i<l.length:=by omega
  have hz:=Gy (gt l (i:Int) zo)
  refine eL ((abX dd aff ..).trans ?_)
  rw[au (by show (i:Int)<(l.length:Int);omega),eG (z:=zo) hil]
  by_cases c:i=0
  ·subst c
   rw[ay (by omega),if_pos (by omega),if_pos (by show ((0:Nat):Int)<(l.length:Int);omega),adJ,abJ,if_pos (by omega),bf (by omega),aiv l hl k (0+1) _ (by omega) (by rw[aN];omega)]
   rfl
  ·rw[au (by omega),show (ByteArray.mk #[44]).size=1 from rfl,if_pos (by omega),if_pos (by omega),if_pos (by show (i:Int)<(l.length:Int);omega),adJ,abJ,if_pos (by rw[aN,show (ByteArray.mk #[44]).size=1 from rfl];omega),bf (by omega),
    aiv l hl k (i+1) _ (by omega) (by rw[aN,aN,show (ByteArray.mk #[44]).size=1 from rfl];omega),decide_eq_false c,decide_eq_false (show ¬ i+1=0 by omega)]
   rfl
def y5(l:List Op):Str:=if l.length=0 then ByteArray.mk #[45] else Gz l true (ByteArray.mk #[])
theorem DX{l:List Op}(h:l.length<=5):(y5 l).size<=130:=by
 unfold y5
 split
 ·show 1<=130;decide
 ·have:=Ce l true (ByteArray.mk #[])
  rw[show (ByteArray.mk #[]).size=0 from rfl] at this
  omega
theorem aqV(l:List Op)(hl:l.length<=1000):ajV dd l=some (y5 l):=by
 refine dL rfl ((anT dd aff ..).trans ?_);show (_:Option (ByteArray))=some _;unfold y5
 by_cases c:l.length=0
 ·rw[aK (by show (l.length:Int)=0;omega),if_pos c]
 ·rw[aA (by show ¬ (l.length:Int)=0;omega),if_neg c]
  exact aiv l hl l.length 0 _ (by omega) (by show 0<=_;omega)
abbrev Ask:=List Op×Str×Int
def KF(a:Ask):Bool:=nT a.1&&(nameP a.2.1&&iO a.2.2 0 9999)
theorem D13(a:Ask)(h:Sh a.1):r13 dd a=some (KF a):=by
 obtain⟨l,p,t⟩:=a
 refine dL rfl ((b13 dd l13 ..).trans ?_);show (_:Option Bool)=some _;unfold KF
 rw[D57 l h,abJ]
 cases nT l with
 |false=>rfl
 |true=>
  rw[cond_true,D58,abJ,Bool.true_and]
  dsimp only
  cases nameP p with
  |false=>rfl
  |true=>rw[cond_true,VE,abJ,Bool.true_and]
theorem Nv{a:Ask}(h:KF a=true):a.1.length<=5∧a.2.1.size<=6∧0<=a.2.2∧a.2.2<=9999:=by
 unfold KF at h
 rw[Bool.and_eq_true,Bool.and_eq_true] at h
 obtain⟨h1,h2,h3⟩:=h
 unfold nT at h1
 unfold nameP at h2
 rw[Bool.and_eq_true] at h1
 rw[Bool.and_eq_true,Bool.and_eq_true] at h2
 exact⟨of_decide_eq_true h1.1,of_decide_eq_true h2.2.1,gQ.1 h3⟩
def tu(a:Ask):Str:=if KF a=true then ByteArray.mk #[47]++y5 a.1++ByteArray.mk #[47]++a.2.1++ByteArray.mk #[63,101,61]++fO a.2.2.toNat else ByteArray.mk #[]
theorem Qk(a:Ask):(tu a).size<=150:=by
 unfold tu
 split
 ·rename_i h
  obtain⟨h1,h2,_⟩:=Nv h
  have h3:=DX h1
  have h4:=wW a.2.2.toNat
  rw[aN,aN,aN,aN,aN,show (ByteArray.mk #[47]).size=1 from rfl,show (ByteArray.mk #[63,101,61]).size=3 from rfl]
  omega
 ·show 0<=150;decide
theorem D55(a:Ask)(h:Sh a.1):r55 dd a=some (tu a):=by
 have hd:=D13 a h
 obtain⟨l,p,t⟩:=a
 refine dL rfl ((b55 dd l55 ..).trans ?_);show (_:Option (ByteArray))=some _;unfold tu
 rw[hd,abJ]
 cases ho:KF (l,p,t) with
 |false=>rfl
 |true=>
  obtain⟨h1,h2,h3⟩:=Nv ho
  have h4:=DX h1
  have h5:=wW t.toNat
  dsimp only at h1 h2 h3 h4 h5⊢
  rw[if_pos rfl,Bool.not_true,cond_false,aqV l (by omega),abJ,if_pos (by rw[show (ByteArray.mk #[47]).size=1 from rfl];omega),if_pos (by rw[aN,show (ByteArray.mk #[47]).size=1 from rfl];omega),
   if_pos (by rw[aN,aN,show (ByteArray.mk #[47]).size=1 from rfl];omega),if_pos (by rw[aN,aN,aN,show (ByteArray.mk #[47]).size=1 from rfl,show (ByteArray.mk #[63,101,61]).size=3 from rfl];omega),TA h3,abJ,
   if_pos (by rw[aN,aN,aN,aN,show (ByteArray.mk #[47]).size=1 from rfl,show (ByteArray.mk #[63,101,61]).size=3 from rfl];omega)]
end T
end
section
namespace T
open Go Go.E Go.Proofs
theorem adK{x:Int}(h0:0<=x)(h1:x<18446744073709551616):IntKind.u64.wrap x=x:=by
 unfold IntKind.wrap
 simp only[IntKind.bits,IntKind.signed,Bool.false_and,Bool.false_eq_true,if_false]
 omega
theorem adL(x:Int):0<=IntKind.u64.wrap x∧IntKind.u64.wrap x<18446744073709551616:=by
 unfold IntKind.wrap
 simp only[IntKind.bits,IntKind.signed,Bool.false_and,Bool.false_eq_true,if_false]
 omega
theorem adM(a:Int):Oq dd a=some (a.tmod 4294967296):=by refine dL rfl ((aoL dd aoM ..).trans ?_);rfl
theorem Ls(a n:Int)(h:0<=n):∃ v,JI dd (a,n)=some v:=by
 exact⟨_,by
  apply asw;unfold ajQ
  rw[if_pos h,if_pos (adL _).1,adM,abJ]⟩
def pW:Nat->Nat->Nat->Bool
 |0,_,_=>false
 |f+1,p,k=>bif Nat.ble (k*k) p then (bif Nat.beq (p%k) 0 then false else pW f p (k+1)) else Nat.blt 1 p
theorem alX:∀ (f p k:Nat),2<=k->p<=1000->40<=k+f->k<=41->ah7 (Px p k)=some (pW (f+1) p k)
 |f,p,k,h2,hp,hf,hk=>by
  have w1:IntKind.u64.wrap ((k:Int)*k)=((k*k:Nat):Int):=by
   have:k*k<=41*41:=Nat.mul_le_mul hk hk
   rw[adK (by omega) (by omega)];omega
  have w2:IntKind.u64.wrap ((k:Int)+1)=((k+1:Nat):Int):=by rw[adK (by omega) (by omega)];omega
  refine eL ((ah6 dd ah7 ..).trans ?_)
  rw[w1,w2]
  unfold pW
  by_cases c:k*k<=p
  ·have atZ:k<=31:=by
    rcases Nat.lt_or_ge 31 k with q|q
    ·have:32*32<=k*k:=Nat.mul_le_mul q q
     omega
    ·exact q
   rw[au (by omega),if_pos (by omega),Nat.ble_eq_true_of_le c,cond_true]
   have ht:(p:Int).tmod k=((p%k:Nat):Int):=rfl
   by_cases c2:p%k=0
   ·rw[aK (by rw[ht];omega),c2];rfl
   ·rw[aA (by rw[ht];omega),cZ c2,cond_false]
    match f,hf with
    |0,hf=>omega
    |f+1,hf=>exact alX f p (k+1) (by omega) hp (by omega) (by omega)
  ·have hb:Nat.ble (k*k) p=false:=by
    cases hb:Nat.ble (k*k) p with
    |false=>rfl
    |true=>exact absurd (Nat.le_of_ble_eq_true hb) c
   rw[ay (by omega),hb,cond_false]
   congr 1
   by_cases c3:1<p
   ·rw[decide_eq_true (by omega)];exact (Nat.ble_eq_true_of_le c3).symm
   ·rw[decide_eq_false (by omega)]
    cases hb:Nat.blt 1 p with
    |false=>rfl
    |true=>exact absurd (Nat.le_of_ble_eq_true hb) c3
theorem aqW(p:Nat)(h:p<=1000):akw dd (p:Int)=some (pW 40 p 2):=by
 refine dL rfl ((ao6 dd ah7 ..).trans ?_)
 exact alX 39 p 2 (Nat.le_refl _) h (by omega) (by omega)
def tC:Nat->Nat->List Int->List Int
 |0,_,o=>o
 |f+1,n,o=>tC f (n+1) (bif pW 40 n 2 then o++[(n:Int)] else o)
def VU(o:List Int)(n f:Nat):Prop:=∀ j,j<f->(tC j n o).length<64
theorem aiw:∀ (f n:Nat) (o:List Int),n+f<=400->o.length+f<=1000->VU o n f->(tC f n o).length=64->afq (JW 64 n o)=some (tC f n o)
 |0,n,o,h,hl,hu,he=>by
  have he:o.length=64:=he
  refine eL ((acC dd afq ..).trans ?_)
  rw[ay (by show ¬ (o.length:Int)<64;omega)];rfl
 |f+1,n,o,h,hl,hu,he=>by
  have h0:o.length<64:=hu 0 (by omega)
  have w2:IntKind.u64.wrap ((n:Int)+1)=((n+1:Nat):Int):=by rw[adK (by omega) (by omega)];omega
  have hu':VU (bif pW 40 n 2 then o++[(n:Int)] else o) (n+1) f:=fun j hj=>hu (j+1) (by omega)
  refine eL ((acC dd afq ..).trans ?_)
  rw[au (by show (o.length:Int)<64;omega),aqW n (by omega),abJ,w2]
  have he:(tC f (n+1) (bif pW 40 n 2 then o++[(n:Int)] else o)).length=64:=he
  show _=some (tC f (n+1) (bif pW 40 n 2 then o++[(n:Int)] else o))
  cases c:pW 40 n 2 with
  |true=>
   rw[c] at hu' he
   rw[cond_true,if_pos (by omega)]
   exact aiw f (n+1) (o++[(n:Int)]) (by omega) (by simp;omega) hu' he
  |false=>
   rw[c] at hu' he
   rw[cond_false]
   exact aiw f (n+1) o (by omega) (by omega) hu' he
def qx:List Int:=tC 310 2 []
def Xr:Nat->Nat->List Int->Bool
 |0,_,_=>true
 |f+1,n,o=>Nat.blt o.length 64&&Xr f (n+1) (bif pW 40 n 2 then o++[(n:Int)] else o)
theorem TB:∀ (f n:Nat) (o:List Int),Xr f n o=true->VU o n f
 |0,n,o,_,j,hj=>absurd hj (by omega)
 |f+1,n,o,h,j,hj=>by
  unfold Xr at h
  rw[Bool.and_eq_true] at h
  match j,hj with
  |0,_=>exact Nat.le_of_ble_eq_true h.1
  |j+1,hj=>exact TB f (n+1) _ h.2 j (by omega)
theorem wX:qx.length=64:=by kernel_rfl
theorem Y3:Xr 310 2 []=true:=by kernel_rfl
theorem aqX:akl dd 64=some qx:=by
 refine dL rfl ((aoF dd afq ..).trans ?_)
 exact aiw 310 2 [] (by omega) (by simp) (TB _ _ _ Y3) wX
theorem alY(a:Int):∃ v,ahV dd a=some v:=⟨_,by apply asy;rfl⟩
theorem aqY(a:Int):∃ v,akH dd a=some v:=by
 obtain⟨v,h⟩:=alY a
 exact⟨_,by apply asx;unfold ak0;rw[h,abJ]⟩
theorem aqZ(a b c:Int):∃ v,akx dd (a,b,c)=some v:=by
 by_cases h:b=3
 ·obtain⟨v,e⟩:=aqY a
  exact⟨_,by apply aqC;unfold aiZ;rw[aK h,e,abJ]⟩
 ·obtain⟨v,e⟩:=alY a
  exact⟨_,by apply aqC;unfold aiZ;rw[aA h,e,abJ]⟩
theorem aix(p w:Int):∀ (k:Nat) (x:Int),k<=100->∃ v,YP (ET p w x ((k:Int)-1))=some v
 |0,x,_=>by
  exact⟨_,by
   apply ahF;unfold agu
   rw[ay (by omega),adM,abJ]⟩
 |k+1,x,hk=>by
  have w1:wi (((k+1:Nat):Int)-1-1)=(k:Int)-1:=by rw[aI (by omega) (by omega)];omega
  obtain⟨b,hb⟩:=aqZ (IntKind.u64.wrap (x+IntKind.u64.wrap (1*2^min (((k+1:Nat):Int)-1).toNat IntKind.u64.bits))) w p
  obtain⟨v1,e1⟩:=aix p w k (IntKind.u64.wrap (x+IntKind.u64.wrap (1*2^min (((k+1:Nat):Int)-1).toNat IntKind.u64.bits))) (by omega)
  obtain⟨v2,e2⟩:=aix p w k x (by omega)
  by_cases c:(IntKind.u64.wrap (x+IntKind.u64.wrap (1*2^min (((k+1:Nat):Int)-1).toNat IntKind.u64.bits))).fdiv (2^32)<=20
  ·cases b with
   |false=>
    refine⟨v1,?_⟩
    apply ahF;unfold agu
    rw[au (by omega),if_pos (by omega),au c,hb,abJ,Bool.not_false,cond_true,w1]
    exact e1
   |true=>
    refine⟨v2,?_⟩
    apply ahF;unfold agu
    rw[au (by omega),if_pos (by omega),au c,hb,abJ,Bool.not_true,cond_false,w1]
    exact e2
  ·refine⟨v2,?_⟩
   apply ahF;unfold agu
   rw[au (by omega),if_pos (by omega),ay c,w1]
   exact e2
theorem alZ(p w:Int):∃ v,ahP dd (p,w)=some v:=by
 obtain⟨v,e⟩:=aix p w 38 0 (by omega)
 exact⟨v,by apply asv;unfold ajP;exact e⟩
theorem aq0{h:List Int}(hl:h.length=8)(a b:Int):∃ r,ahQ dd (h,a,b)=some r∧r.length=8:=by
 have e:ln h=8:=by rw[bF];omega
 obtain⟨v1,h1⟩:=Ls (h.getD 4 0) 6 (by omega)
 obtain⟨v2,h2⟩:=Ls (h.getD 4 0) 11 (by omega)
 obtain⟨v3,h3⟩:=Ls (h.getD 4 0) 25 (by omega)
 obtain⟨v4,h4⟩:=Ls (h.getD 0 0) 2 (by omega)
 obtain⟨v5,h5⟩:=Ls (h.getD 0 0) 13 (by omega)
 obtain⟨v6,h6⟩:=Ls (h.getD 0 0) 22 (by omega)
 have:∃ x y,ahQ dd (h,a,b)=some [x,h.getD 0 0,h.getD 1 0,h.getD 2 0,y,h.getD 4 0,h.getD 5 0,h.getD 6 0]:=⟨_,_,by
  refine dL rfl ((aoJ dd aoK ..).trans ?_)
  have k0:(0:Int)<ln h:=by omega
  have k1:(1:Int)<ln h:=by omega
  have k2:(2:Int)<ln h:=by omega
  have k3:(3:Int)<ln h:=by omega
  have k4:(4:Int)<ln h:=by omega
  have k5:(5:Int)<ln h:=by omega
  have k6:(6:Int)<ln h:=by omega
  have k7:(7:Int)<ln h:=by omega
  simp only[if_pos k0,if_pos k1,if_pos k2,if_pos k3,if_pos k4,if_pos k5,if_pos k6,if_pos k7,h1,h2,h3,h4,h5,h6,adM,abJ]
  rfl⟩
 obtain⟨x,y,hxy⟩:=this
 exact⟨_,hxy,rfl⟩
end T
end
section
namespace T
open Go Go.E Go.Proofs
theorem adN:∀ (k i:Nat) (o:List Int),i+k=64->16<=i->o.length=i->∃ w,EW (yO i o)=some w∧w.length=64
 |0,i,o,h,h1,hl=>by
  refine⟨o,?_,by omega⟩
  refine eL ((acG dd EW ..).trans ?_);show (_:Option (List Int))=some _
  rw[ay (by omega)]
 |k+1,i,o,h,h1,hl=>by
  have hln:ln o=(i:Int):=by rw[bF,hl]
  have w1:wi ((i:Int)-15)=(i:Int)-15:=aI (by omega) (by omega)
  have w2:wi ((i:Int)-2)=(i:Int)-2:=aI (by omega) (by omega)
  have w3:wi ((i:Int)-16)=(i:Int)-16:=aI (by omega) (by omega)
  have w4:wi ((i:Int)-7)=(i:Int)-7:=aI (by omega) (by omega)
  obtain⟨v1,h1'⟩:=Ls (gt o ((i:Int)-15) 0) 7 (by omega)
  obtain⟨v2,h2⟩:=Ls (gt o ((i:Int)-15) 0) 18 (by omega)
  obtain⟨v3,h3⟩:=Ls (gt o ((i:Int)-2) 0) 17 (by omega)
  obtain⟨v4,h4⟩:=Ls (gt o ((i:Int)-2) 0) 19 (by omega)
  have k1:0<=(i:Int)-15:=by omega
  have k2:(i:Int)-15<ln o:=by omega
  have k3:0<=(i:Int)-2:=by omega
  have k4:(i:Int)-2<ln o:=by omega
  have k5:0<=(i:Int)-16:=by omega
  have k6:(i:Int)-16<ln o:=by omega
  have k7:0<=(i:Int)-7:=by omega
  have k8:(i:Int)-7<ln o:=by omega
  have ih:∀ x:Int,∃ w,EW (yO ((i+1:Nat):Int) (o.append [x]))=some w∧w.length=64:=fun x=>adN k (i+1) _ (by omega) (by omega) (by simp[hl])
  have:∃ x w,EW (yO i o)=EW (yO ((i+1:Nat):Int) (o.append [x]))∧EW (yO ((i+1:Nat):Int) (o.append [x]))=some w∧w.length=64:=by
   obtain⟨w,hw,hwl⟩:=ih _
   refine⟨_,w,?_,hw,hwl⟩
   rw[hw]
   refine eL ((acG dd EW ..).trans ?_);show (_:Option (List Int))=some _
   rw[au (by omega),w1,w2,w3,w4,bf (by omega)]
   simp only[if_pos k1,if_pos k2,if_pos k3,if_pos k4,if_pos k5,if_pos k6,if_pos k7,if_pos k8,h1',h2,h3,h4,adM,abJ]
   rw[if_pos (by omega)]
   exact hw
  obtain⟨x,w,e1,e2,e3⟩:=this
  exact⟨w,e1.trans e2,e3⟩
theorem adO{a:List Int}(ha:a.length=64):∀ (k i:Nat) (o:List Int),i+k=16->o.length=i->∃ w,EW (EU a i o)=some w∧w.length=64
 |0,i,o,h,hl=>by
  obtain⟨w,e,hw⟩:=adN 48 16 o (by omega) (by omega) (by omega)
  refine⟨w,?_,hw⟩
  refine eL ((acF dd EW ..).trans ?_)
  rw[ay (by omega)]
  exact e
 |k+1,i,o,h,hl=>by
  have hln:ln a=64:=by rw[bF,ha];rfl
  have w1:wi (4*(i:Int))=4*(i:Int):=aI (by omega) (by omega)
  have w2:wi (4*(i:Int)+1)=4*(i:Int)+1:=aI (by omega) (by omega)
  have w3:wi (4*(i:Int)+2)=4*(i:Int)+2:=aI (by omega) (by omega)
  have w4:wi (4*(i:Int)+3)=4*(i:Int)+3:=aI (by omega) (by omega)
  have:∃ x,∀ w,EW (EU a ((i+1:Nat):Int) (o.append [x]))=some w->EW (EU a i o)=some w:=⟨_,fun w hw=>by
   refine eL ((acF dd EW ..).trans ?_)
   rw[au (by omega),w1,w2,w3,w4,if_pos (by omega),if_pos (by omega),if_pos (by omega),if_pos (by omega),if_pos (by omega),if_pos (by omega),if_pos (by omega),if_pos (by omega),if_pos (by omega),bf (by omega)]
   exact hw⟩
  obtain⟨x,hx⟩:=this
  obtain⟨w,hw,hwl⟩:=adO ha k (i+1) (o.append [x]) (by omega) (by simp[hl])
  exact⟨w,hx w hw,hwl⟩
theorem aq1{a:List Int}(ha:a.length=64):∃ w,akn dd a=some w∧w.length=64:=by
 obtain⟨w,e,h⟩:=adO ha 16 0 [] (by omega) rfl
 exact⟨w,by refine dL rfl ((aoI dd EW ..).trans ?_);exact e,h⟩
theorem adP(n:Int):∀ (k:Nat) (o:List Int),k<=8->o.length+k<=1000000->∃ l,Vr (Pe n ((k:Int)-1) o)=some l∧l.length=o.length+k
 |0,o,_,_=>⟨o,by refine eL ((acE dd Vr ..).trans ?_);show (_:Option (List Int))=some _;rw[ay (by omega)],rfl⟩
 |k+1,o,hk,ho=>by
  have w1:wi (((k+1:Nat):Int)-1-1)=(k:Int)-1:=by rw[aI (by omega) (by omega)];omega
  have w2:wi (8*(((k+1:Nat):Int)-1))=8*(((k+1:Nat):Int)-1):=aI (by omega) (by omega)
  obtain⟨l,e,hl⟩:=adP n k (o.append [wb (n.fdiv (2^min (8*(((k+1:Nat):Int)-1)).toNat IntKind.u64.bits))]) (by omega) (by simp;omega)
  refine⟨l,?_,by rw[hl];simp;omega⟩
  refine eL ((acE dd Vr ..).trans ?_);show (_:Option (List Int))=some _
  rw[au (by omega),w2,if_pos (by omega),if_pos (by omega),w1]
  exact e
theorem adQ(a:List Int):∀ (k:Nat) (o:List Int),(o.length+k)%64=56->k<64->o.length+k<=900000->∃ l,Vr (O9 a o)=some l∧l.length%64=0∧l.length<=o.length+k+8
 |0,o,hk,hk2,ho=>by
  have hm:(ln o).tmod 64=((o.length%64:Nat):Int):=rfl
  obtain⟨l,e,hl⟩:=adP (IntKind.u64.wrap (wi (8*ln a))) 8 o (by omega) (by omega)
  refine⟨l,?_,by omega,by omega⟩
  refine eL ((acD dd Vr ..).trans ?_)
  rw[iM (by rw[hm];omega)]
  exact e
 |k+1,o,hk,hk2,ho=>by
  have hm:(ln o).tmod 64=((o.length%64:Nat):Int):=rfl
  obtain⟨l,e,h1,h2⟩:=adQ a k (o.append [0]) (by simp;omega) (by omega) (by simp;omega)
  refine⟨l,?_,h1,by simp at h2;omega⟩
  refine eL ((acD dd Vr ..).trans ?_)
  rw[mD (by rw[hm];omega),if_pos (by omega)]
  exact e
theorem aq2{a:List Int}(ha:a.length<=100000):∃ l,akm dd a=some l∧l.length%64=0∧l.length<=200000:=by
 have h1:(a.append [128]).length=a.length+1:=by simp
 obtain⟨l,e,h2,h3⟩:=adQ a ((120-(a.length+1)%64)%64) (a.append [128]) (by rw[h1];omega) (by omega) (by rw[h1];omega)
 refine⟨l,?_,h2,by rw[h1] at h3;omega⟩
 refine dL rfl ((aoH dd Vr ..).trans ?_)
 rw[if_pos (by omega),if_pos (by omega)]
 exact e
theorem adR{h:List Int}(hh:h.length=8):∀ (k i:Nat) (o:List Int),i+k=8->o.length=4*i->fB o->∃ l,tq (ER i h o)=some l∧l.length=32∧fB l
 |0,i,o,e,hl,hb=>⟨o,by refine eL ((acj dd tq ..).trans ?_);show (_:Option (List Int))=some _;rw[ay (by omega)],by omega,hb⟩
 |k+1,i,o,e,hl,hb=>by
  have hln:ln h=8:=by rw[bF,hh];rfl
  have:∃ x,x.length=4∧fB x∧∀ w,tq (ER ((i+1:Nat):Int) h (o.append x))=some w->tq (ER i h o)=some w:=
   ⟨_,rfl,bV.2 ⟨oM ((gt h (i:Int) 0).fdiv (2^24)),bV.2 ⟨oM ((gt h (i:Int) 0).fdiv (2^16)),bV.2 ⟨oM ((gt h (i:Int) 0).fdiv (2^8)),bV.2 ⟨oM (gt h (i:Int) 0),iC⟩⟩⟩⟩,fun w hw=>by
    refine eL ((acj dd tq ..).trans ?_);show (_:Option (List Int))=some _
    rw[au (by omega),if_pos (by omega),if_pos (by omega),if_pos (by omega),if_pos (by omega),if_pos (by omega),if_pos (by omega),if_pos (by omega),if_pos (by omega),if_pos (by omega),bf (by omega)]
    exact hw⟩
  obtain⟨x,hx,hxb,hk⟩:=this
  obtain⟨l,e1,h1,h2⟩:=adR hh k (i+1) (o.append x) (by omega) (by simp[hx];omega) (mg.2 ⟨hb,hxb⟩)
  exact⟨l,hk l e1,h1,h2⟩
theorem adS(at_:Int)(o2 o3 x:List Int)(hx:x.length=8)(nx:∀ h:List Int,h.length=8->∃ l,tq (EP (wi (at_+64)) h o2 o3)=some l∧l.length=32∧fB l):
  ∀ (k i:Nat) (h:List Int),i+k=8->h.length=8->∃ l,tq (OW at_ i h o2 o3 x)=some l∧l.length=32∧fB l
 |0,i,h,e,hh=>by
  obtain⟨l,e1,h1⟩:=nx h hh
  refine⟨l,?_,h1⟩
  refine eL ((acn dd tq ..).trans ?_)
  rw[ay (by omega)]
  exact e1
 |k+1,i,h,e,hh=>by
  have hln:ln h=8:=by rw[bF,hh];rfl
  have hlx:ln x=8:=by rw[bF,hx];rfl
  obtain⟨l,e1,h1⟩:=adS at_ o2 o3 x hx nx k (i+1) (h.set i ((IntKind.u64.wrap (gt h (i:Int) 0+gt x (i:Int) 0)).tmod 4294967296)) (by omega) (by simp[hh])
  refine⟨l,?_,h1⟩
  refine eL ((acn dd tq ..).trans ?_)
  rw[au (by omega),if_pos (by omega),if_pos (by omega),if_pos (by omega),if_pos (by omega),adM,abJ,if_pos (by omega),if_pos (by omega),bf (by omega),aeg]
  exact e1
theorem adT(at_:Int)(h o2 o3 w:List Int)(hh:h.length=8)(h3:o3.length=64)(hw:w.length=64)(nx:∀ h:List Int,h.length=8->∃ l,tq (EP (wi (at_+64)) h o2 o3)=some l∧l.length=32∧fB l):
  ∀ (k i:Nat) (x:List Int),i+k=64->x.length=8->∃ l,tq (OV at_ i h o2 o3 w x)=some l∧l.length=32∧fB l
 |0,i,x,e,hx=>by
  obtain⟨l,e1,h1⟩:=adS at_ o2 o3 x hx nx 8 0 h (by omega) hh
  refine⟨l,?_,h1⟩
  refine eL ((aci dd tq ..).trans ?_)
  rw[ay (by omega)]
  exact e1
 |k+1,i,x,e,hx=>by
  have hl3:ln o3=64:=by rw[bF,h3];rfl
  have hlw:ln w=64:=by rw[bF,hw];rfl
  obtain⟨y,hy,hyl⟩:=aq0 hx (gt o3 (i:Int) 0) (gt w (i:Int) 0)
  obtain⟨l,e1,h1⟩:=adT at_ h o2 o3 w hh h3 hw nx k (i+1) y (by omega) hyl
  refine⟨l,?_,h1⟩
  refine eL ((aci dd tq ..).trans ?_)
  rw[au (by omega),if_pos (by omega),if_pos (by omega),if_pos (by omega),if_pos (by omega),hy,abJ,bf (by omega)]
  exact e1
theorem adU(o2 o3:List Int)(h3:o3.length=64)(h2:o2.length<=200000):∀ (k i:Nat) (h:List Int),i+64*k=o2.length->h.length=8->∃ l,tq (EP i h o2 o3)=some l∧l.length=32∧fB l
 |0,i,h,e,hh=>by
  obtain⟨l,e1,h1⟩:=adR hh 8 0 [] (by omega) rfl iC
  refine⟨l,?_,h1⟩
  refine eL ((ach dd tq ..).trans ?_)
  rw[ay (by rw[bF];omega)]
  exact e1
 |k+1,i,h,e,hh=>by
  have hl2:ln o2=(o2.length:Int):=rfl
  have w1:wi ((i:Int)+64)=((i+64:Nat):Int):=by rw[aI (by omega) (by omega)];omega
  have hblk:(List.drop i (List.take (i+64) o2)).length=64:=by rw[List.length_drop,List.length_take];omega
  obtain⟨w,hw,hwl⟩:=aq1 hblk
  obtain⟨l,e1,h1⟩:=adT i h o2 o3 w hh h3 hwl (fun h' hh'=>by rw[w1];exact adU o2 o3 h3 h2 k (i+64) h' (by omega) hh') 64 0 h (by omega) hh
  refine⟨l,?_,h1⟩
  refine eL ((ach dd tq ..).trans ?_)
  rw[au (by omega),if_pos (by omega),w1,if_pos (by omega),if_pos (by omega),aeg,aeg,hw,abJ,if_pos (by omega)]
  exact e1
theorem adV(o2 o3:List Int)(h2:o2.length=8)(h3:o3.length%64=0)(h3':o3.length<=200000):∀ (k i:Nat) (o:List Int),i+k=64->o.length=i->∃ l,tq (OU i qx o2 o3 o)=some l∧l.length=32∧fB l
 |0,i,o,e,ho=>by
  obtain⟨l,e1,h1⟩:=adU o3 o (by omega) h3' (o3.length/64) 0 o2 (by omega) h2
  refine⟨l,?_,h1⟩
  refine eL ((acg dd tq ..).trans ?_)
  rw[ay (by omega)]
  exact e1
 |k+1,i,o,e,ho=>by
  have hp:ln qx=64:=by rw[bF,wX];rfl
  obtain⟨v,hv⟩:=alZ (gt qx (i:Int) 0) 3
  obtain⟨l,e1,h1⟩:=adV o2 o3 h2 h3 h3' k (i+1) (o.append [v]) (by omega) (by simp[ho])
  refine⟨l,?_,h1⟩
  refine eL ((acg dd tq ..).trans ?_)
  rw[au (by omega),if_pos (by omega),if_pos (by omega),hv,abJ,if_pos (by omega),bf (by omega)]
  exact e1
theorem adW{a:List Int}(ha:a.length<=100000):∀ (k i:Nat) (o:List Int),i+k=8->o.length=i->∃ l,tq (OT a i qx o)=some l∧l.length=32∧fB l
 |0,i,o,e,ho=>by
  obtain⟨w,hw,w1,w2⟩:=aq2 ha
  obtain⟨l,e1,h1⟩:=adV o w (by omega) w1 w2 64 0 [] (by omega) rfl
  refine⟨l,?_,h1⟩
  refine eL ((acf dd tq ..).trans ?_)
  rw[ay (by omega),hw,abJ]
  exact e1
 |k+1,i,o,e,ho=>by
  have hp:ln qx=64:=by rw[bF,wX];rfl
  obtain⟨v,hv⟩:=alZ (gt qx (i:Int) 0) 2
  obtain⟨l,e1,h1⟩:=adW ha k (i+1) (o.append [v]) (by omega) (by simp[ho])
  refine⟨l,?_,h1⟩
  refine eL ((acf dd tq ..).trans ?_)
  rw[au (by omega),if_pos (by omega),if_pos (by omega),hv,abJ,if_pos (by omega),bf (by omega)]
  exact e1
theorem aiy{a:List Int}(ha:a.length<=100000):∃ l,ae1 dd a=some l∧l.length=32∧fB l:=by
 obtain⟨l,e,h⟩:=adW ha 8 0 [] (by omega) rfl
 refine⟨l,?_,h⟩
 refine dL rfl ((aok dd tq ..).trans ?_)
 rw[aqX,abJ]
 exact e
theorem adX{a o1:List Int}(ha:a.length<=500)(h1:o1.length=64):∀ (k i:Nat) (o2 o3:List Int),i+k=64->o2.length=i->o3.length=i->∃ l,Le (EO a i o1 o2 o3)=some l∧l.length=32∧fB l
 |0,i,o2,o3,e,h2,h3=>by
  obtain⟨x,hx,hx1,_⟩:=aiy (a:=o2.append a) (by simp;omega)
  obtain⟨y,hy,hy1⟩:=aiy (a:=o3.append x) (by simp;omega)
  refine⟨y,?_,hy1⟩
  refine eL ((abZ dd Le ..).trans ?_);show (_:Option (List Int))=some _
  rw[ay (by omega),if_pos (by omega),hx,abJ,if_pos (by omega),hy,abJ]
 |k+1,i,o2,o3,e,h2,h3=>by
  have hl1:ln o1=64:=by rw[bF,h1];rfl
  have:∃ x y,∀ w,Le (EO a ((i+1:Nat):Int) o1 (o2.append [x]) (o3.append [y]))=some w->Le (EO a i o1 o2 o3)=some w:=⟨_,_,fun w hw=>by
   refine eL ((abZ dd Le ..).trans ?_);show (_:Option (List Int))=some _
   rw[au (by omega),if_pos (by omega),if_pos (by omega),if_pos (by omega),if_pos (by omega),if_pos (by omega),if_pos (by omega),bf (by omega)]
   exact hw⟩
  obtain⟨x,y,hk⟩:=this
  obtain⟨l,e1,h⟩:=adX ha h1 k (i+1) (o2.append [x]) (o3.append [y]) (by omega) (by simp[h2]) (by simp[h3])
  exact⟨l,hk l e1,h⟩
theorem VW{a:List Int}(ha:a.length<=500):∀ (k:Nat) (o:List Int),o.length+k=64->∃ l,Le (JM a o)=some l∧l.length=32∧fB l
 |0,o,e=>by
  obtain⟨l,e1,h⟩:=adX ha (o1:=o) (by omega) 64 0 [] [] (by omega) rfl rfl
  refine⟨l,?_,h⟩
  refine eL ((abY dd Le ..).trans ?_)
  rw[ay (by rw[bF];omega)]
  exact e1
 |k+1,o,e=>by
  obtain⟨l,e1,h⟩:=VW ha k (o.append [0]) (by simp;omega)
  refine⟨l,?_,h⟩
  refine eL ((abY dd Le ..).trans ?_)
  rw[au (by rw[bF];omega),if_pos (by omega)]
  exact e1
theorem aq3{key a:List Int}(hk:key.length<=500)(ha:a.length<=500):∃ l,ajW dd (key,a)=some l∧l.length=32∧fB l:=by
 by_cases c:key.length>64
 ·obtain⟨x,hx,hx1,_⟩:=aiy (a:=key) (by omega)
  obtain⟨l,e,h⟩:=VW ha 32 x (by omega)
  refine⟨l,?_,h⟩
  refine dL rfl ((ak5 dd Le ..).trans ?_)
  rw[ay (by rw[bF];omega),ay (by rw[bF];omega),if_pos (by omega),au (by rw[bF];omega),hx,abJ]
  exact e
 ·obtain⟨l,e,h⟩:=VW ha (64-key.length) key (by omega)
  refine⟨l,?_,h⟩
  refine dL rfl ((ak5 dd Le ..).trans ?_)
  rw[ay (by rw[bF];omega),ay (by rw[bF];omega),if_pos (by omega),ay (by rw[bF];omega)]
  exact e
end T
end
section
namespace T
open Go Go.E Go.Proofs
def G7:Str:=ByteArray.mk #[48,49,50,51,52,53,54,55,56,57,97,98,99,100,101,102]
def hexS(k:Nat):Str:=G7.extract k (k+1)
theorem vT{k:Nat}(h:k<16):(hexS k).size=1:=by
 unfold hexS
 rw[zX,show G7.size=16 from rfl];omega
def DY:List Int->Str->Str
 |[],s=>s
 |x::r,s=>DY r (s++hexS (x.toNat/16)++hexS (x.toNat%16))
def KG(l:List Int):Str:=DY l (ByteArray.mk #[])
theorem KH:∀ (l:List Int) (s:Str),fB l->(DY l s).size=s.size+2*l.length
 |[],s,_=>by simp[DY]
 |x::r,s,h=>by
  obtain⟨h1,h2⟩:=bV.1 h
  unfold DY
  rw[KH r _ h2,aN,aN,vT (by omega),vT (by omega)]
  simp only[List.length_cons];omega
theorem zY{l:List Int}(h:fB l):(KG l).size=2*l.length:=by
 unfold KG
 rw[KH l _ h,show (ByteArray.mk #[]).size=0 from rfl];omega
theorem al0(l:List Int)(hb:fB l)(hl:l.length<=100000):∀ (k i:Nat) (s:Str),i+k=l.length->s.size<=2*i->afc (Ot l s i)=some (DY (l.drop i) s)
 |0,i,s,h,hs=>by
  refine eL ((abQ dd afc ..).trans ?_)
  rw[ay (by rw[bF];omega),List.drop_eq_nil_of_le (by omega)];rfl
 |k+1,i,s,h,hs=>by
  have hil:i<l.length:=by omega
  have hln:=bF l
  have hx:=iw hb (i:Int)
  have hd:=eG (z:=(0:Int)) hil
  generalize hg:gt l (i:Int) 0=x at hx hd
  have w1:wb (x.tdiv 16)=((x.toNat/16:Nat):Int):=by rw[td (by omega),jy (by omega) (by omega)];omega
  have w2:wb (((x.toNat/16:Nat):Int)+1)=((x.toNat/16+1:Nat):Int):=by rw[jy (by omega) (by omega)];omega
  have w3:x.tmod 16=((x.toNat%16:Nat):Int):=by rw[tm (by omega)];omega
  have w4:wb (((x.toNat%16:Nat):Int)+1)=((x.toNat%16+1:Nat):Int):=by rw[jy (by omega) (by omega)];omega
  have hz:∀ k,k<16->(G7.extract k (k+1)).size=1:=fun k hk=>vT hk
  have ih:=al0 l hb hl k (i+1) (s++hexS (x.toNat/16)++hexS (x.toNat%16)) (by omega) (by rw[aN,aN,vT (by omega),vT (by omega)];omega)
  refine eL ((abQ dd afc ..).trans ?_)
  rw[hg,w1,w2,w3,w4,show ByteArray.mk #[48,49,50,51,52,53,54,55,56,57,97,98,99,100,101,102]=G7 from rfl,show (G7.size:Int)=16 from rfl]
  rw[au (by omega),if_pos (by omega),if_pos (by omega),if_pos (by omega),if_pos (by omega),if_pos (by omega),if_pos (by omega),if_pos (by omega),aeg,aeg,aeg,aeg,
   if_pos (by rw[hz _ (by omega)];omega),if_pos (by omega),if_pos (by omega),if_pos (by omega),if_pos (by omega),if_pos (by omega),if_pos (by omega),if_pos (by omega),if_pos (by rw[aN,hz _ (by omega),hz _ (by omega)];omega),bf (by omega)]
  rw[hd]
  exact ih
theorem al1{l:List Int}(hb:fB l)(hl:l.length<=100000):ahG dd l=some (KG l):=by
 refine dL rfl ((anL dd afc ..).trans ?_)
 exact al0 l hb hl l.length 0 _ (by omega) (by show 0<=_;omega)
theorem D56{key:List Int}{s:Str}(hk:key.length<=500)(hs:s.size<=500):∃ t,r56 dd (key,s)=some t∧t.size=16:=by
 have hl:(List.map (fun (b:UInt8)=>(b.toNat:Int)) s.data.toList).length=s.size:=by simp
 obtain⟨l,h,h1,h2⟩:=aq3 hk (a:=List.map (fun (b:UInt8)=>(b.toNat:Int)) s.data.toList) (by omega)
 have ht:(l.take 8).length=8:=by rw[List.length_take];omega
 refine⟨KG (l.take 8),?_,by rw[zY (jY h2 _),ht]⟩
 refine dL rfl ((b56 dd l56 ..).trans ?_);show (_:Option (ByteArray))=some _
 rw[h,abJ,if_pos (by rw[bF];omega),al1 (jY h2 _) (by omega),abJ]
theorem D12{key:List Int}{a:Ask}(h:Sh a.1):∃ t,r12 dd (key,a)=some t∧t.size<=200:=by
 have h1:=D13 a h
 have h2:=D55 a h
 have h3:=Qk a
 obtain⟨l,p,t⟩:=a
 cases ho:KF (l,p,t) with
 |false=>
  refine⟨ByteArray.mk #[],?_,by show 0<=200;decide⟩
  refine dL rfl ((b12 dd l12 ..).trans ?_);show (_:Option (ByteArray))=some _
  rw[h1,abJ,ho];rfl
 |true=>
  by_cases c:key.length>500
  ·refine⟨ByteArray.mk #[],?_,by show 0<=200;decide⟩
   refine dL rfl ((b12 dd l12 ..).trans ?_);show (_:Option (ByteArray))=some _
   rw[h1,abJ,ho,Bool.not_true,cond_false,au (by rw[bF];omega)]
  ·obtain⟨u,hu,hz⟩:=D56 (key:=key) (s:=tu (l,p,t)) (by omega) (by omega)
   refine⟨tu (l,p,t)++ByteArray.mk #[38,115,61]++u,?_,by rw[aN,aN,show (ByteArray.mk #[38,115,61]).size=3 from rfl];omega⟩
   refine dL rfl ((b12 dd l12 ..).trans ?_);show (_:Option (ByteArray))=some _
   rw[h1,abJ,ho,Bool.not_true,cond_false,ay (by rw[bF];omega),h2,abJ,show (ByteArray.mk #[38,115,61]).size=3 from rfl,if_pos (by omega),hu,abJ,if_pos (by rw[aN,show (ByteArray.mk #[38,115,61]).size=3 from rfl];omega)]
theorem adY(s:Str)(x:Op)(l:List Int)(hl:l.length=4):∀ (k i:Nat),i+k=9->1<=i->∃ o b,Lh (ES s i x.1 x.2.1 x.2.2.1 x.2.2.2.1 x.2.2.2.2 l)=some (o,b)
 |0,i,h,h1=>⟨_,_,by refine eL ((OY dd Lh ..).trans ?_);show (_:Option ((I5)×Bool))=some _;rw[ay (by omega)]⟩
 |k+1,i,h,h1=>by
  have hln:ln l=4:=by rw[bF,hl];rfl
  obtain⟨o,b,e⟩:=adY s x l hl k (i+1) (by omega) (by omega)
  cases c1:((oP ((i:Int),l.getD 0 0,l.getD 1 0,l.getD 2 0,l.getD 3 0)).toList==s.toList) with
  |false=>
   refine⟨o,b,?_⟩
   refine eL ((OY dd Lh ..).trans ?_);show (_:Option ((I5)×Bool))=some _
   rw[au (by omega),if_pos (by omega),if_pos (by omega),if_pos (by omega),if_pos (by omega),adJ,abJ,c1,cond_false,bf (by omega)]
   exact e
  |true=>
   cases c2:(s.toList==(ByteArray.mk #[]).toList) with
   |true=>
    refine⟨o,b,?_⟩
    refine eL ((OY dd Lh ..).trans ?_);show (_:Option ((I5)×Bool))=some _
    rw[au (by omega),if_pos (by omega),if_pos (by omega),if_pos (by omega),if_pos (by omega),adJ,abJ,c1,cond_true,c2,Bool.not_true,cond_false,bf (by omega)]
    exact e
   |false=>
    refine⟨((i:Int),l.getD 0 0,l.getD 1 0,l.getD 2 0,l.getD 3 0),true,?_⟩
    refine eL ((OY dd Lh ..).trans ?_);show (_:Option ((I5)×Bool))=some _
    rw[au (by omega),if_pos (by omega),if_pos (by omega),if_pos (by omega),if_pos (by omega),adJ,abJ,c1,cond_true,c2];rfl
theorem adZ(s:Str)(x:Op)(p:List Str)(hp:p.length<=200000):∀ (k i:Nat) (l:List Int),i+k=5->1<=i->l.length=4->∃ o b,Lh (OX s i x.1 x.2.1 x.2.2.1 x.2.2.2.1 x.2.2.2.2 p l)=some (o,b)
 |k,i,l,h,h1,hl=>by
  have hln:ln l=4:=by rw[bF,hl];rfl
  obtain⟨o,b,e⟩:=adY s x l hl 8 1 (by omega) (by omega)
  by_cases c1:i<p.length
  ·by_cases c2:i<5
   ·match k,h with
    |0,h=>omega
    |k+1,h=>
     obtain⟨v,hv,_⟩:=D99 (gt p (i:Int) (ByteArray.mk #[]))
     have w1:wi ((i:Int)-1)=((i-1:Nat):Int):=by rw[aI (by omega) (by omega)];omega
     obtain⟨o,b,e⟩:=adZ s x p hp k (i+1) (l.set (i-1) v) (by omega) (by omega) (by simp[hl])
     refine⟨o,b,?_⟩
     refine eL ((Vp dd Lh ..).trans ?_)
     rw[au (by rw[bF];omega),au (by omega),if_pos (by omega),if_pos (by rw[bF];omega),hv,abJ,w1,if_pos (by omega),if_pos (by omega),bf (by omega),aeg]
     exact e
   ·refine⟨o,b,?_⟩
    refine eL ((Vp dd Lh ..).trans ?_)
    rw[au (by rw[bF];omega),ay (by omega)]
    exact e
  ·refine⟨o,b,?_⟩
   refine eL ((Vp dd Lh ..).trans ?_)
   rw[ay (by rw[bF];omega)]
   exact e
theorem aq4{s:Str}(hs:s.size<=100000):∃ o b,akd dd s=some (o,b):=by
 obtain⟨p,hp,h1,_⟩:=D98 s 46 hs
 obtain⟨o,b,e⟩:=adZ s (0,0,0,0,0) p (by omega) 4 1 [0,0,0,0] (by omega) (by omega) rfl
 refine⟨o,b,?_⟩
 refine dL rfl ((aol dd Lh ..).trans ?_)
 rw[hp,abJ]
 exact e
theorem al2(p:List Str)(hp:p.length<=200000)(hx:∀ x∈p,x.size<=100000):∀ (k i:Nat) (o:List Op),i+k=p.length->o.length<=i->∃ l b,YK (OD i o p)=some (l,b)∧l.length<=p.length
 |0,i,o,h,ho=>⟨o,true,by refine eL ((Vj dd YK ..).trans ?_);show (_:Option (List I5×Bool))=some _;rw[ay (by rw[bF];omega)],by omega⟩
 |k+1,i,o,h,ho=>by
  have hil:i<p.length:=by omega
  have hg:=gB (z:=ByteArray.mk #[]) hil
  obtain⟨v,b,hv⟩:=aq4 (hx p[i] (List.getElem_mem hil))
  cases b with
  |false=>
   refine⟨[],false,?_,by simp⟩
   refine eL ((Vj dd YK ..).trans ?_);show (_:Option (List I5×Bool))=some _
   rw[au (by rw[bF];omega),if_pos (by omega),if_pos (by rw[bF];omega),hg,hv,abJ];rfl
  |true=>
   obtain⟨l,b,e,hl⟩:=al2 p hp hx k (i+1) (o.append [v]) (by omega) (by simp;omega)
   refine⟨l,b,?_,hl⟩
   refine eL ((Vj dd YK ..).trans ?_);show (_:Option (List I5×Bool))=some _
   rw[au (by rw[bF];omega),if_pos (by omega),if_pos (by rw[bF];omega),hg,hv,abJ,Bool.not_true,cond_false,if_pos (by omega),bf (by omega)]
   exact e
theorem aq5{s:Str}(hs:s.size<=100000):∃ l b,ajX dd s=some (l,b)∧l.length<=s.size+1:=by
 cases c:(s.toList==(ByteArray.mk #[45]).toList) with
 |true=>exact⟨[],true,by refine dL rfl ((ak6 dd YK ..).trans ?_);rw[c];rfl,by simp⟩
 |false=>
  obtain⟨p,hp,h1,h2⟩:=D98 s 44 hs
  obtain⟨l,b,e,hl⟩:=al2 p (by omega) (fun x hx=>by have:=h2 x hx;omega) p.length 0 [] (by omega) (by simp)
  refine⟨l,b,?_,by omega⟩
  refine dL rfl ((ak6 dd YK ..).trans ?_)
  rw[c,cond_false,hp,abJ]
  exact e
theorem zZ{p:List Str}{n:Nat}(h:∀ x∈p,x.size<=n)(i:Nat):(p.getD i (ByteArray.mk #[])).size<=n:=by
 rw[List.getD_eq_getElem?_getD]
 cases hc:p[i]? with
 |none=>show 0<=n;omega
 |some x=>exact h x (List.mem_of_getElem? hc)
theorem D64{s:Str}(hs:s.size<=100000):∃ (a:Ask) (b:Bool),r64 dd s=some (a,b)∧a.1.length<=300∧(b=true->s.size<=200):=by
 obtain⟨p,hp,h1,h2⟩:=D98 s 47 hs
 have no:(∀ (X:Option (Ask×Bool)),X=some (([],ByteArray.mk #[],0),false)->r64 dd s=X)->∃ (a:Ask) (b:Bool),r64 dd s=some (a,b)∧a.1.length<=300∧(b=true->s.size<=200):=fun h=>
  ⟨([],ByteArray.mk #[],0),false,h _ rfl,by simp,fun x=>by cases x⟩
 by_cases c0:s.size>200
 ·exact no fun X hX=>by subst hX;refine dL rfl ((b64 dd l64 ..).trans ?_);show (_:Option (agb×Bool))=some _;rw[hp,abJ,au (by omega)]
 by_cases c1:p.length=3
 rotate_left
 ·exact no fun X hX=>by subst hX;refine dL rfl ((b64 dd l64 ..).trans ?_);show (_:Option (agb×Bool))=some _;rw[hp,abJ,ay (by omega),mD (by rw[bF];omega)]
 obtain⟨o,b,ho,hol⟩:=aq5 (s:=p.getD 1 (ByteArray.mk #[])) (by have:=zZ h2 1;omega)
 have hol:o.length<=201:=by have:=zZ h2 1;omega
 obtain⟨q,hq,hq1,hq2⟩:=D98 (p.getD 2 (ByteArray.mk #[])) 63 (by have:=zZ h2 2;omega)
 cases b with
 |false=>exact no fun X hX=>(by subst hX;refine dL rfl ((b64 dd l64 ..).trans ?_);show (_:Option (agb×Bool))=some _;rw[hp,abJ,ay (by omega),iM (by rw[bF];omega),if_pos (by rw[bF];omega),ho,abJ,if_pos (by rw[bF];omega),hq,abJ];rfl)
 |true=>
 by_cases c2:q.length=2
 rotate_left
 ·exact no fun X hX=>by subst hX;refine dL rfl ((b64 dd l64 ..).trans ?_);show (_:Option (agb×Bool))=some _;rw[hp,abJ,ay (by omega),iM (by rw[bF];omega),if_pos (by rw[bF];omega),ho,abJ,if_pos (by rw[bF];omega),hq,abJ,Bool.not_true,cond_false,mD (by rw[bF];omega)]
 by_cases c3:(q.getD 1 (ByteArray.mk #[])).size<3
 ·exact no fun X hX=>by subst hX;refine dL rfl ((b64 dd l64 ..).trans ?_);show (_:Option (agb×Bool))=some _;rw[hp,abJ,ay (by omega),iM (by rw[bF];omega),if_pos (by rw[bF];omega),ho,abJ,if_pos (by rw[bF];omega),hq,abJ,Bool.not_true,cond_false,iM (by rw[bF];omega),if_pos (by rw[bF];omega),au (by omega)]
 obtain⟨v,hv,_⟩:=D99 ((q.getD 1 (ByteArray.mk #[])).extract 2 (q.getD 1 (ByteArray.mk #[])).size)
 have ht:=D55 (o,q.getD 0 (ByteArray.mk #[]),v) (by show o.length<_;omega)
 cases c4:((tu (o,q.getD 0 (ByteArray.mk #[]),v)).toList==s.toList) with
 |false=>exact no fun X hX=>(by
   subst hX;refine dL rfl ((b64 dd l64 ..).trans ?_);show (_:Option (agb×Bool))=some _
   rw[hp,abJ,ay (by omega),iM (by rw[bF];omega),if_pos (by rw[bF];omega),ho,abJ,if_pos (by rw[bF];omega),hq,abJ,Bool.not_true,cond_false,iM (by rw[bF];omega),if_pos (by rw[bF];omega),ay (by omega),if_pos (by rw[bF];omega),if_pos (by rw[bF];omega),if_pos (by omega),hv,abJ]
   show ((r55 dd (o,q.getD 0 (ByteArray.mk #[]),v)).bind _)=_
   rw[ht,abJ,c4];rfl)
 |true=>
 cases c5:(s.toList==(ByteArray.mk #[]).toList) with
 |true=>exact no fun X hX=>(by
   subst hX;refine dL rfl ((b64 dd l64 ..).trans ?_);show (_:Option (agb×Bool))=some _
   rw[hp,abJ,ay (by omega),iM (by rw[bF];omega),if_pos (by rw[bF];omega),ho,abJ,if_pos (by rw[bF];omega),hq,abJ,Bool.not_true,cond_false,iM (by rw[bF];omega),if_pos (by rw[bF];omega),ay (by omega),if_pos (by rw[bF];omega),if_pos (by rw[bF];omega),if_pos (by omega),hv,abJ]
   show ((r55 dd (o,q.getD 0 (ByteArray.mk #[]),v)).bind _)=_
   rw[ht,abJ,c4,Bool.not_true,cond_false,c5];rfl)
 |false=>
  refine⟨(o,q.getD 0 (ByteArray.mk #[]),v),true,?_,by show o.length<=300;omega,fun _=>by omega⟩
  refine dL rfl ((b64 dd l64 ..).trans ?_);show (_:Option (agb×Bool))=some _
  rw[hp,abJ,ay (by omega),iM (by rw[bF];omega),if_pos (by rw[bF];omega),ho,abJ,if_pos (by rw[bF];omega),hq,abJ,Bool.not_true,cond_false,iM (by rw[bF];omega),if_pos (by rw[bF];omega),ay (by omega),if_pos (by rw[bF];omega),if_pos (by rw[bF];omega),if_pos (by omega),hv,abJ]
  show ((r55 dd (o,q.getD 0 (ByteArray.mk #[]),v)).bind _)=_
  rw[ht,abJ,c4,Bool.not_true,cond_false,c5];rfl
theorem D17{key:List Int}{s:Str}(hs:s.size<=100000)(now:Int):∃ (a:Ask) (c:Int),r17 dd (key,s,now)=some (a,c)∧a.1.length<=300:=by
 have no:∀ c:Int,r17 dd (key,s,now)=some (([],ByteArray.mk #[],0),c)->∃ (a:Ask) (c:Int),r17 dd (key,s,now)=some (a,c)∧a.1.length<=300:=fun c h=>⟨_,_,h,by simp⟩
 by_cases c0:key.length>500
 ·exact no 400 (by refine dL rfl ((b17 dd l17 ..).trans ?_);show (_:Option (agb×Int))=some _;rw[au (by rw[bF];omega)])
 by_cases c1:s.size<19
 ·have w:wi (wi ((s.size:Int)-16)-3)=(s.size:Int)-19:=by rw[aI (x:=(s.size:Int)-16) (by omega) (by omega),aI (by omega) (by omega)];omega
  exact no 400 (by refine dL rfl ((b17 dd l17 ..).trans ?_);show (_:Option (agb×Int))=some _;rw[ay (by rw[bF];omega),w,au (by omega)])
 have w:wi (wi ((s.size:Int)-16)-3)=((s.size-19:Nat):Int):=by rw[aI (x:=(s.size:Int)-16) (by omega) (by omega),aI (by omega) (by omega)];omega
 have w2:wi (((s.size-19:Nat):Int)+3)=((s.size-16:Nat):Int):=by rw[aI (by omega) (by omega)];omega
 cases c2:((s.extract (s.size-19) (s.size-16)).toList==(ByteArray.mk #[38,115,61]).toList) with
 |false=>
  exact no 400 (by
   refine dL rfl ((b17 dd l17 ..).trans ?_);show (_:Option (agb×Int))=some _
   rw[ay (by rw[bF];omega),w,w2,ay (by omega),if_pos (by omega),if_pos (by omega),if_pos (by omega),aeg,aeg,c2];rfl)
 |true=>
 obtain⟨a,b,ha,hal,hb⟩:=D64 (s:=s.extract 0 (s.size-19)) (by rw[zX];omega)
 cases b with
 |false=>
  exact no 400 (by
   refine dL rfl ((b17 dd l17 ..).trans ?_);show (_:Option (agb×Int))=some _
   rw[ay (by rw[bF];omega),w,w2,ay (by omega),if_pos (by omega),if_pos (by omega),if_pos (by omega),aeg,aeg,c2,Bool.not_true,cond_false,if_pos (by omega),if_pos (by omega),ha,abJ];rfl)
 |true=>
 obtain⟨u,hu,_⟩:=D56 (key:=key) (s:=s.extract 0 (s.size-19)) (by omega) (by have:=hb rfl;omega)
 have fin:∃ (a':Ask) (c:Int),r17 dd (key,s,now)=some (a',c)∧(a'=a∨a'=([],ByteArray.mk #[],0)):=by
  obtain⟨o,p,t⟩:=a
  cases c3:(u.toList==(s.extract (s.size-16) s.size).toList) with
  |false=>
   refine⟨([],ByteArray.mk #[],0),403,?_,.inr rfl⟩
   refine dL rfl ((b17 dd l17 ..).trans ?_);show (_:Option (agb×Int))=some _
   rw[ay (by rw[bF];omega),w,w2,ay (by omega),if_pos (by omega),if_pos (by omega),if_pos (by omega),aeg,aeg,c2,Bool.not_true,cond_false,if_pos (by omega),if_pos (by omega),ha,abJ,Bool.not_true,cond_false,if_pos (by omega),if_pos (by omega),if_pos (by omega),if_pos (by omega),hu,abJ,c3];rfl
  |true=>
   by_cases c4:now≥t
   ·refine⟨([],ByteArray.mk #[],0),403,?_,.inr rfl⟩
    refine dL rfl ((b17 dd l17 ..).trans ?_);show (_:Option (agb×Int))=some _
    rw[ay (by rw[bF];omega),w,w2,ay (by omega),if_pos (by omega),if_pos (by omega),if_pos (by omega),aeg,aeg,c2,Bool.not_true,cond_false,if_pos (by omega),if_pos (by omega),ha,abJ,Bool.not_true,cond_false,if_pos (by omega),if_pos (by omega),if_pos (by omega),if_pos (by omega),hu,abJ,c3,Bool.not_true,cond_false]
    exact au c4
   ·refine⟨(o,p,t),200,?_,.inl rfl⟩
    refine dL rfl ((b17 dd l17 ..).trans ?_);show (_:Option (agb×Int))=some _
    rw[ay (by rw[bF];omega),w,w2,ay (by omega),if_pos (by omega),if_pos (by omega),if_pos (by omega),aeg,aeg,c2,Bool.not_true,cond_false,if_pos (by omega),if_pos (by omega),ha,abJ,Bool.not_true,cond_false,if_pos (by omega),if_pos (by omega),if_pos (by omega),if_pos (by omega),hu,abJ,c3,Bool.not_true,cond_false]
    exact ay c4
 obtain⟨a',c,h,e⟩:=fin
 refine⟨a',c,h,?_⟩
 rcases e with rfl|rfl
 ·exact hal
 ·simp
end T
end
section
namespace T
open Go Go.E Go.Proofs
abbrev RdS:=List Int×Int
theorem D90{k:Int}{s:RdS}{t:Str}(hs:Rd k s)(hk:k<=700000000)(ht:t.size<=100000):∃ u s',r90 dd (s,t)=some (u,s')∧u.size<=t.size+1∧Rd (k+4) s':=by
 obtain⟨v1,s1,h1,a1,b1,r1⟩:=lg ((t.size:Int)+1) hs (by omega) (by omega)
 obtain⟨v2,s2,h2,a2,b2,r2⟩:=lg 256 r1 (by omega) (by omega)
 obtain⟨v3,s3,h3,a3,b3,r3⟩:=lg 8 r2 (by omega) (by omega)
 obtain⟨v4,s4,h4,a4,b4,r4⟩:=lg 3 r3 (by omega) (by omega)
 have b1:=b1 (by omega)
 have b3:=b3 (by omega)
 have w0:wi ((t.size:Int)+1)=(t.size:Int)+1:=aI (by omega) (by omega)
 have w1:wi (v1+1)=v1+1:=aI (by omega) (by omega)
 have z0:(t.extract 0 v1.toNat).size=v1.toNat:=by rw[zX];omega
 have z1:(t.extract v1.toNat t.size).size=t.size-v1.toNat:=by rw[zX];omega
 have z2:(t.extract (v1+1).toNat t.size).size=t.size-(v1+1).toNat:=by rw[zX];omega
 have z3:∀ x:Int,(bU [x]).size=1:=fun x=>by rw[rE];rfl
 obtain⟨b,p⟩:=s
 by_cases c0:v4=0
 ·refine⟨t.extract 0 v1.toNat++bU [wb (gt [32,48,49,57,47,46,97,v2] v3 0)]++t.extract v1.toNat t.size,s4,?_,by rw[aN,aN,z0,z1,z3];omega,r4.le (by omega)⟩
  refine dL rfl ((b90 dd l90 ..).trans ?_);show (_:Option agW)=some _
  rw[w0]
  simp only[h1,h2,h3,h4,abJ]
  rw[if_pos a3,if_pos b3,aK c0,if_pos a1,if_pos (by omega),if_pos (by rw[z0,z3];omega),if_pos a1,if_pos (by omega),if_pos (by rw[aN,z0,z1,z3];omega)]
 by_cases c1:v4=1
 ·by_cases c2:v1<(t.size:Int)
  ·refine⟨t.extract 0 v1.toNat++t.extract (v1+1).toNat t.size,s4,?_,by rw[aN,z0,z2];omega,r4.le (by omega)⟩
   refine dL rfl ((b90 dd l90 ..).trans ?_);show (_:Option agW)=some _
   rw[w0]
   simp only[h1,h2,h3,h4,abJ]
   rw[if_pos a3,if_pos b3,aA c0,aK c1,au c2,if_pos a1,if_pos (by omega),w1,if_pos (by omega),if_pos (by omega),if_pos (by rw[z0,z2];omega)]
  ·refine⟨t,s4,?_,by omega,r4.le (by omega)⟩
   refine dL rfl ((b90 dd l90 ..).trans ?_);show (_:Option agW)=some _
   rw[w0]
   simp only[h1,h2,h3,h4,abJ]
   rw[if_pos a3,if_pos b3,aA c0,aK c1,ay c2]
 ·by_cases c2:v1<(t.size:Int)
  ·refine⟨t.extract 0 v1.toNat++bU [wb (gt [32,48,49,57,47,46,97,v2] v3 0)]++t.extract (v1+1).toNat t.size,s4,?_,by rw[aN,aN,z0,z2,z3];omega,r4.le (by omega)⟩
   refine dL rfl ((b90 dd l90 ..).trans ?_);show (_:Option agW)=some _
   rw[w0]
   simp only[h1,h2,h3,h4,abJ]
   rw[if_pos a3,if_pos b3,aA c0,aA c1,au c2,if_pos a1,if_pos (by omega),if_pos (by rw[z0,z3];omega),w1,if_pos (by omega),if_pos (by omega),if_pos (by rw[aN,z0,z2,z3];omega)]
  ·refine⟨t,s4,?_,by omega,r4.le (by omega)⟩
   refine dL rfl ((b90 dd l90 ..).trans ?_);show (_:Option agW)=some _
   rw[w0]
   simp only[h1,h2,h3,h4,abJ]
   rw[if_pos a3,if_pos b3,aA c0,aA c1,ay c2]
theorem Xt{l:List Str}{v:Int}{n:Nat}(h:∀ x∈l,x.size<=n):(gt l v (ByteArray.mk #[])).size<=n:=zZ h v.toNat
theorem aq6{k:Int}{s:RdS}(hs:Rd k s)(hk:k<=700000000):∃ u s',ajU dd s=some (u,s')∧u.size<=6∧Rd (k+1) s':=by
 obtain⟨v1,s1,h1,a1,b1,r1⟩:=lg 5 hs (by omega) (by omega)
 have b1:=b1 (by omega)
 obtain⟨b,p⟩:=s
 refine⟨gt [ByteArray.mk #[97],ByteArray.mk #[98],ByteArray.mk #[99,97,116],ByteArray.mk #[100,48,103],ByteArray.mk #[97,98,99,100,101,102]] v1 (ByteArray.mk #[]),s1,?_,Xt (fun x hx=> ?_),r1⟩
 ·refine dL rfl ((anR dd anS ..).trans ?_);show (_:Option agW)=some _
  simp only[h1,abJ]
  rw[if_pos a1,if_pos b1]
 ·simp only[List.mem_cons,List.not_mem_nil,or_false] at hx
  rcases hx with rfl|rfl|rfl|rfl|rfl<;>decide
theorem D51{k:Int}{s:RdS}(hs:Rd k s)(hk:k<=300000000):∃ a s',r51 dd (s,0)=some (a,s')∧a.1.length<=20∧Rd (k+200) s':=by
 obtain⟨o,s1,h1,g1,l1,r1⟩:=alr 0 (by omega) hs (by omega)
 obtain⟨u,s2,h2,_,r2⟩:=aq6 r1 (by omega)
 obtain⟨v3,s3,h3,a3,b3,r3⟩:=lg 80 r2 (by omega) (by omega)
 obtain⟨v4,s4,h4,a4,b4,r4⟩:=lg 2 r3 (by omega) (by omega)
 obtain⟨v5,s5,h5,r5,n5⟩:=SX 0 r4 (by omega) (by omega)
 have b4:=b4 (by omega)
 have n5:=n5 (by omega)
 subst n5
 obtain⟨b,p⟩:=s
 refine⟨(o,u,gt [9999,v3] v4 0),s5,?_,l1,r5.le (by omega)⟩
 refine dL rfl ((b51 dd l51 ..).trans ?_);show (_:Option (agb×List Int×Int))=some _
 simp only[h1,h2,h3,h4,h5,abJ]
 rw[if_pos a4,if_pos b4,cond_false]
abbrev Cf:=List Int×Int×Int×Int×Int×Int×Int
def afU(c:Cf):Prop:=fB c.1∧c.1.length<=33
def ad1(c:Cf):Prop:=afU c∧(1<=c.2.1∧c.2.1<=9)∧(1<=c.2.2.1∧c.2.2.1<=99)∧(1<=c.2.2.2.1∧c.2.2.2.1<=4)∧(1<=c.2.2.2.2.1∧c.2.2.2.2.1<=999)∧(1<=c.2.2.2.2.2.1∧c.2.2.2.2.2.1<=3)∧(1<=c.2.2.2.2.2.2∧c.2.2.2.2.2.2<=999)
theorem afV(n:Nat):fB (List.replicate n 0):=fun b hb=>by rw[List.eq_of_mem_replicate hb];omega
theorem al3{k:Int}{s:RdS}(n:Int)(hn:n<=1000)(hs:Rd k s)(hk:k<=300000000):∃ c s',abK dd (s,n)=some (c,s')∧afU c∧(n<=0->ad1 c)∧Rd (k+400) s':=by
 obtain⟨key,s0,h0,g0,l0,r0⟩:=D50 16 hs (by omega) (by omega)
 have h0:r50 dd (s,16)=some (key,s0):=h0
 obtain⟨v1,s1,h1,a1,b1,r1⟩:=lg 6 r0 (by omega) (by omega)
 obtain⟨v2,s2,h2,a2,b2,r2⟩:=lg 6 r1 (by omega) (by omega)
 obtain⟨v3,s3,h3,a3,b3,r3⟩:=lg 4 r2 (by omega) (by omega)
 obtain⟨v4,s4,h4,a4,b4,r4⟩:=lg 30 r3 (by omega) (by omega)
 obtain⟨v5,s5,h5,a5,b5,r5⟩:=lg 3 r4 (by omega) (by omega)
 obtain⟨v6,s6,h6,a6,b6,r6⟩:=lg 25 r5 (by omega) (by omega)
 obtain⟨v7,s7,h7,r7,n7⟩:=SX n r6 (by omega) (by omega)
 have b1:=b1 (by omega)
 have b2:=b2 (by omega)
 have b3:=b3 (by omega)
 have b4:=b4 (by omega)
 have b5:=b5 (by omega)
 have b6:=b6 (by omega)
 have e1:wi (1+v1)=1+v1:=aI (by omega) (by omega)
 have e2:wi (1+v2)=1+v2:=aI (by omega) (by omega)
 have e3:wi (1+v3)=1+v3:=aI (by omega) (by omega)
 have e4:wi (1+v4)=1+v4:=aI (by omega) (by omega)
 have e5:wi (1+v5)=1+v5:=aI (by omega) (by omega)
 have e6:wi (1+v6)=1+v6:=aI (by omega) (by omega)
 obtain⟨b,p⟩:=s
 cases v7 with
 |false=>
  refine⟨(key,1+v1,1+v2,1+v3,1+v4,1+v5,1+v6),s7,?_,⟨g0,by show key.length<=33;omega⟩,fun _=>⟨⟨g0,by show key.length<=33;omega⟩,?_⟩,r7.le (by omega)⟩
  ·refine dL rfl ((Vk dd Vl ..).trans ?_);show (_:Option ((zCf)×List Int×Int))=some _
   simp only[h0,h1,h2,h3,h4,h5,h6,h7,e1,e2,e3,e4,e5,e6,abJ,cond_false]
  ·dsimp only;omega
 |true=>
  have hn0:¬ n<=0:=fun h=>by have:=n7 h;cases this
  obtain⟨v8,s8,h8,a8,b8,r8⟩:=lg 6 r7 (by omega) (by omega)
  obtain⟨v9,s9,h9,a9,b9,r9⟩:=lg 2 r8 (by omega) (by omega)
  have b9:=b9 (by omega)
  have go:∀ c:Cf,afU c->abK dd ((b,p),n)=some (c,s9)->∃ c s',abK dd ((b,p),n)=some (c,s')∧afU c∧(n<=0->ad1 c)∧Rd (k+400) s':=fun c hc h=>⟨c,s9,h,hc,fun x=>absurd x hn0,r9.le (by omega)⟩
  by_cases c0:v8=0
  ·refine⟨(0::List.replicate 32 0,1+v1,1+v2,1+v3,1+v4,1+v5,1+v6),s8,?_,⟨bV.2 ⟨by omega,afV 32⟩,by show 33<=33;omega⟩,fun x=>absurd x hn0,r8.le (by omega)⟩
   refine dL rfl ((Vk dd Vl ..).trans ?_);show (_:Option ((zCf)×List Int×Int))=some _
   simp only[h0,h1,h2,h3,h4,h5,h6,h7,h8,e1,e2,e3,e4,e5,e6,abJ,cond_true]
   rw[aK c0]
  by_cases c1:v8=1
  ·exact go (key,gt [0,10] v9 0,1+v2,1+v3,1+v4,1+v5,1+v6) ⟨g0,by show key.length<=33;omega⟩ (by
    refine dL rfl ((Vk dd Vl ..).trans ?_);show (_:Option ((zCf)×List Int×Int))=some _
    simp only[h0,h1,h2,h3,h4,h5,h6,h7,h8,h9,e2,e3,e4,e5,e6,abJ,cond_true]
    rw[aA c0,aK c1,if_pos a9,if_pos b9])
  by_cases c2:v8=2
  ·exact go (key,1+v1,gt [0,100] v9 0,1+v3,1+v4,1+v5,1+v6) ⟨g0,by show key.length<=33;omega⟩ (by
    refine dL rfl ((Vk dd Vl ..).trans ?_);show (_:Option ((zCf)×List Int×Int))=some _
    simp only[h0,h1,h2,h3,h4,h5,h6,h7,h8,h9,e1,e3,e4,e5,e6,abJ,cond_true]
    rw[aA c0,aA c1,aK c2,if_pos a9,if_pos b9])
  by_cases c3:v8=3
  ·exact go (key,1+v1,1+v2,gt [0,5] v9 0,1+v4,1+v5,1+v6) ⟨g0,by show key.length<=33;omega⟩ (by
    refine dL rfl ((Vk dd Vl ..).trans ?_);show (_:Option ((zCf)×List Int×Int))=some _
    simp only[h0,h1,h2,h3,h4,h5,h6,h7,h8,h9,e1,e2,e4,e5,e6,abJ,cond_true]
    rw[aA c0,aA c1,aA c2,aK c3,if_pos a9,if_pos b9])
  by_cases c4:v8=4
  ·exact go (key,1+v1,1+v2,1+v3,1+v4,gt [0,4] v9 0,1+v6) ⟨g0,by show key.length<=33;omega⟩ (by
    refine dL rfl ((Vk dd Vl ..).trans ?_);show (_:Option ((zCf)×List Int×Int))=some _
    simp only[h0,h1,h2,h3,h4,h5,h6,h7,h8,h9,e1,e2,e3,e4,e6,abJ,cond_true]
    rw[aA c0,aA c1,aA c2,aA c3,aK c4,if_pos a9,if_pos b9])
  ·exact go (key,1+v1,1+v2,1+v3,1+v4,1+v5,gt [0,1000] v9 0) ⟨g0,by show key.length<=33;omega⟩ (by
    refine dL rfl ((Vk dd Vl ..).trans ?_);show (_:Option ((zCf)×List Int×Int))=some _
    simp only[h0,h1,h2,h3,h4,h5,h6,h7,h8,h9,e1,e2,e3,e4,e5,abJ,cond_true]
    rw[aA c0,aA c1,aA c2,aA c3,aA c4,if_pos a9,if_pos b9])
theorem aq7{k:Int}{s:RdS}(key:List Int)(hs:Rd k s)(hk:k<=300000000):∃ t s',YI dd (s,key)=some (t,s')∧t.size<=300∧Rd (k+300) s':=by
 obtain⟨a,s1,h1,l1,r1⟩:=D51 hs hk
 obtain⟨t,ht,hz⟩:=D12 (key:=key) (a:=a) (by show a.1.length<_;omega)
 obtain⟨v2,s2,h2,a2,b2,r2⟩:=lg 9 r1 (by omega) (by omega)
 obtain⟨b,p⟩:=s
 by_cases c0:v2=0
 ·obtain⟨u,s3,h3,z3,r3⟩:=D90 (t:=t) r2 (by omega) (by omega)
  refine⟨u,s3,?_,by omega,r3.le (by omega)⟩
  refine dL rfl ((ah4 dd ah5 ..).trans ?_);show (_:Option agW)=some _
  simp only[h1,ht,h2,h3,abJ]
  rw[aK c0]
 by_cases c1:v2=1
 ·obtain⟨v3,s3,h3,a3,b3,r3⟩:=lg 4 r2 (by omega) (by omega)
  have b3:=b3 (by omega)
  refine⟨gt [ByteArray.mk #[],ByteArray.mk #[47],ByteArray.mk #[47,45,47,97,63,101,61,53],t++ByteArray.mk #[120]] v3 (ByteArray.mk #[]),s3,?_,Xt (fun x hx=> ?_),r3.le (by omega)⟩
  ·refine dL rfl ((ah4 dd ah5 ..).trans ?_);show (_:Option agW)=some _
   simp only[h1,ht,h2,h3,abJ]
   rw[aA c0,aK c1,show (ByteArray.mk #[120]).size=1 from rfl,if_pos (by omega),if_pos a3,if_pos b3]
  ·simp only[List.mem_cons,List.not_mem_nil,or_false] at hx
   rcases hx with rfl|rfl|rfl|rfl
   ·decide
   ·decide
   ·decide
   ·rw[aN,show (ByteArray.mk #[120]).size=1 from rfl];omega
 ·refine⟨t,s2,?_,by omega,r2.le (by omega)⟩
  refine dL rfl ((ah4 dd ah5 ..).trans ?_);show (_:Option agW)=some _
  simp only[h1,ht,h2,abJ]
  rw[aA c0,aA c1]
end T
end
section
namespace T
open Go Go.E Go.Proofs
abbrev Job:=Int×Str×List Op×Int
abbrev G8:=Str×Int×List Int
abbrev Out:=Int×Int×List Int
abbrev Ts:=Int×Int×Int×Int×List Job×List G8×List Str×List Out
def DZ(c:Cf):Bool:=decide (c.1.length<=32)&&(iO c.2.1 1 9&&(iO c.2.2.1 1 99&&(iO c.2.2.2.1 1 4&&(iO c.2.2.2.2.1 1 999&&(iO c.2.2.2.2.2.1 1 3&&iO c.2.2.2.2.2.2 1 999)))))
theorem ad2(l:List Int)(n:Nat):decide (ln l<=(n:Int))=decide (l.length<=n):=by
 rw[bF]
 by_cases h:l.length<=n
 ·rw[decide_eq_true h,decide_eq_true (by omega)]
 ·rw[decide_eq_false h,decide_eq_false (by omega)]
theorem al4(c:Cf):ahI dd c=some (DZ c):=by
 obtain⟨a,b,c,d,e,f,g⟩:=c
 refine dL rfl ((anM dd anN ..).trans ?_);unfold DZ
 simp only[VE,abJ,show decide (ln a<=32)=decide (a.length<=32) from ad2 a 32]
 cases decide (a.length<=32)<;>cases iO b 1 9<;>cases iO c 1 99<;>cases iO d 1 4<;>cases iO e 1 999<;>cases iO f 1 3<;>cases iO g 1 999<;>rfl
theorem aq8(c:Cf):ajY dd c=some (DZ c):=by
 obtain⟨a,b,c,d,e,f,g⟩:=c
 refine dL rfl ((an0 dd an1 ..).trans ?_);unfold DZ
 simp only[D93,abJ,show decide (ln a<=32)=decide (a.length<=32) from ad2 a 32]
 cases decide (a.length<=32)<;>cases iO b 1 9<;>cases iO c 1 99<;>cases iO d 1 4<;>cases iO e 1 999<;>cases iO f 1 3<;>cases iO g 1 999<;>rfl
def wY:List Int:=[200,400,403,413,415,422,429,502,503,504]
def D5(n:Int):Bool:=wY.any fun m=>m==n
theorem al5(n:Int):∀ (k i:Nat),i+k=10->afl (OO n i wY)=some ((wY.drop i).any fun m=>m==n)
 |0,i,h=>by
  obtain rfl:i=10:=by omega
  refine eL ((acd dd afl ..).trans ?_)
  rw[ay (by decide)];rfl
 |k+1,i,h=>by
  have hi:i<wY.length:=by show i<10;omega
  refine eL ((acd dd afl ..).trans ?_)
  rw[au (by show (i:Int)<10;omega),if_pos (by omega),if_pos (by show (i:Int)<10;omega),eG (z:=(0:Int)) hi,bf (by omega),al5 n k (i+1) (by omega),List.any_cons]
  cases (gt wY (i:Int) 0==n)<;>rfl
theorem aq9(n:Int):akc dd n=some (D5 n):=by
 refine dL rfl ((aoi dd afl ..).trans ?_)
 exact al5 n 10 0 rfl
theorem ara(n:Int):ake dd n=some (D5 n):=by
 refine dL rfl ((aos dd aot ..).trans ?_);unfold D5 wY
 have e:∀ a b:Int,(a==b)=(b==a):=fun a b=>by
  by_cases h:a=b
  ·rw[h]
  ·rw[beq_eq_false_iff_ne.2 h,beq_eq_false_iff_ne.2 (fun x=>h x.symm)]
 simp only[List.any_cons,List.any_nil,e _ n]
 cases (n==200)<;>cases (n==400)<;>cases (n==403)<;>cases (n==413)<;>cases (n==415)<;>cases (n==422)<;>cases (n==429)<;>cases (n==502)<;>cases (n==503)<;>cases (n==504)<;>rfl
def KI(clock next:Int):Int->List Job->Bool
 | _,[]=>true
 |last,j::r=>iO j.1 (last+1) (next-1)&&(nameP j.2.1&&(nT j.2.2.1&&(iO j.2.2.2 0 clock&&KI clock next j.1 r)))
abbrev zj:Job:=(0,ByteArray.mk #[],[],0)
abbrev zf:G8:=(ByteArray.mk #[],0,[])
abbrev zt:Out:=(0,0,[])
structure y7 (s:Ts):Prop where
 jobs:s.2.2.2.2.1.length<=1000
 uO:s.2.2.2.2.2.1.length<=1000
 asked:s.2.2.2.2.2.2.1.length<=1000
 outs:s.2.2.2.2.2.2.2.length<=1000
 ops:∀ j∈s.2.2.2.2.1,j.2.2.1.length<=1000
theorem al6{s:Ts}(hs:y7 s)(hn:0<=s.2.2.2.1∧s.2.2.2.1<=9999):∀ (k i:Nat) (last:Int),i+k=s.2.2.2.2.1.length-> -1<=last->last<=9998->
  afg (OE last s.2.2.2.2.1 (ln s.2.2.2.2.1) i s.1 s.2.1 s.2.2.1 s.2.2.2.1 s.2.2.2.2.1 s.2.2.2.2.2.1 s.2.2.2.2.2.2.1 s.2.2.2.2.2.2.2)=some (KI s.1 s.2.2.2.1 last (s.2.2.2.2.1.drop i))
 |0,i,last,h,h1,h2=>by
  refine eL ((ab1 dd afg ..).trans ?_)
  rw[ay (by rw[bF];omega),List.drop_eq_nil_of_le (by omega)];rfl
 |k+1,i,last,h,h1,h2=>by
  have hj:=hs.jobs
  have hi:i<s.2.2.2.2.1.length:=by omega
  have w1:wi (last+1)=last+1:=aI (by omega) (by omega)
  have w2:wi (s.2.2.2.1-1)=s.2.2.2.1-1:=aI (by omega) (by omega)
  have hm:=hs.ops (gt s.2.2.2.2.1 (i:Int) zj) (by rw[gB hi];exact List.getElem_mem hi)
  refine eL ((ab1 dd afg ..).trans ?_)
  rw[au (by rw[bF];omega),if_pos (by omega),if_pos (by rw[bF];omega),w1,w2,D93,abJ,eG (z:=zj) hi,bf (by omega)]
  unfold KI
  cases c1:iO (gt s.2.2.2.2.1 (i:Int) zj).1 (last+1) (s.2.2.2.1-1) with
  |false=>rfl
  |true=>
   have hr:=gQ.1 c1
   have ih:=al6 hs hn k (i+1) (gt s.2.2.2.2.1 (i:Int) zj).1 (by omega) (by omega) (by omega)
   rw[Bool.not_true,cond_false,D92,abJ,Bool.true_and]
   cases nameP (gt s.2.2.2.2.1 (i:Int) zj).2.1 with
   |false=>rfl
   |true=>
    rw[Bool.not_true,cond_false,D91 _ (Nat.lt_of_le_of_lt hm (by decide)),abJ,Bool.true_and]
    cases nT (gt s.2.2.2.2.1 (i:Int) zj).2.2.1 with
    |false=>rfl
    |true=>
     rw[Bool.not_true,cond_false,D93,abJ,Bool.true_and]
     cases iO (gt s.2.2.2.2.1 (i:Int) zj).2.2.2 0 s.1 with
     |false=>rfl
     |true=>
      rw[Bool.not_true,cond_false,Bool.true_and]
      exact ih
def KJ(c:Cf)(s:Ts):Bool:=decide (ln s.2.2.2.2.1<=c.2.2.2.1)&&KI s.1 s.2.2.2.1 (-1) s.2.2.2.2.1
theorem arb{s:Ts}(hs:y7 s)(hn:0<=s.2.2.2.1∧s.2.2.2.1<=9999)(c:Cf):ajZ dd (c,s)=some (KJ c s):=by
 have h:=al6 hs hn s.2.2.2.2.1.length 0 (-1) (by omega) (by omega) (by omega)
 obtain⟨a1,a2,a3,a4,a5,a6,a7,a8⟩:=s
 obtain⟨c1,c2,c3,c4,c5,c6,c7⟩:=c
 refine dL rfl ((an2 dd afg ..).trans ?_);unfold KJ
 by_cases c:ln a5>c4
 ·rw[au c,decide_eq_false (by dsimp only;omega)];rfl
 ·rw[ay c,decide_eq_true (by dsimp only;omega),Bool.true_and]
  exact h
theorem al7{s:Ts}(hs:y7 s)(hn:0<=s.2.2.2.1∧s.2.2.2.1<=9999)(c:Cf):∀ (k i:Nat) (last:Int),i+k=s.2.2.2.2.1.length->(i=0∧last= -1∨0<i∧last=(gt s.2.2.2.2.1 ((i-1:Nat):Int) zj).1∧0<=last∧last<=9998)->
  abS (EM i c.1 c.2.1 c.2.2.1 c.2.2.2.1 c.2.2.2.2.1 c.2.2.2.2.2.1 c.2.2.2.2.2.2 s.1 s.2.1 s.2.2.1 s.2.2.2.1 s.2.2.2.2.1 s.2.2.2.2.2.1 s.2.2.2.2.2.2.1 s.2.2.2.2.2.2.2)=some (KI s.1 s.2.2.2.1 last (s.2.2.2.2.1.drop i)&&decide (ln s.2.2.2.2.1<=c.2.2.2.1))
 |0,i,last,h,h1=>by
  refine eL ((abR dd abS ..).trans ?_)
  rw[ay (by rw[bF];omega),List.drop_eq_nil_of_le (by omega)];rfl
 |k+1,i,last,h,h1=>by
  have hj:=hs.jobs
  have hi:i<s.2.2.2.2.1.length:=by omega
  have w2:wi (s.2.2.2.1-1)=s.2.2.2.1-1:=aI (by omega) (by omega)
  have hm:=hs.ops (gt s.2.2.2.2.1 (i:Int) zj) (by rw[gB hi];exact List.getElem_mem hi)
  have ih:=fun l2 hl=>al7 hs hn c k (i+1) l2 (by omega) (.inr ⟨by omega,hl⟩)
  have rest:∀ j:Job,j=gt s.2.2.2.2.1 (i:Int) zj->iO j.1 (last+1) (s.2.2.2.1-1)=true->((r58 dd j.2.1).bind fun (r:Bool)=>bif !r then some false else (r57 dd j.2.2.1).bind fun (r:Bool)=>bif !r then some false else (xw dd (j.2.2.2,0,s.1)).bind fun (r:Bool)=>bif !r then some false else abS (EM ((i+1:Nat):Int) c.1 c.2.1 c.2.2.1 c.2.2.2.1 c.2.2.2.2.1 c.2.2.2.2.2.1 c.2.2.2.2.2.2 s.1 s.2.1 s.2.2.1 s.2.2.2.1 s.2.2.2.2.1 s.2.2.2.2.2.1 s.2.2.2.2.2.2.1 s.2.2.2.2.2.2.2))=
    some ((nameP j.2.1&&(nT j.2.2.1&&(iO j.2.2.2 0 s.1&&KI s.1 s.2.2.2.1 j.1 (s.2.2.2.2.1.drop (i+1)))))&&decide (ln s.2.2.2.2.1<=c.2.2.2.1)):=by
   intro j hj' hin
   have hr:=gQ.1 hin
   have hl0:0<=j.1:=by rcases h1 with ⟨_,h1⟩|⟨_,_,h1,_⟩<;>omega
   rw[D58,abJ]
   cases nameP j.2.1 with
   |false=>rfl
   |true=>
    rw[Bool.not_true,cond_false,D57 _ (by rw[hj'];omega),abJ,Bool.true_and]
    cases nT j.2.2.1 with
    |false=>rfl
    |true=>
     rw[Bool.not_true,cond_false,VE,abJ,Bool.true_and]
     cases iO j.2.2.2 0 s.1 with
     |false=>rfl
     |true=>
      rw[Bool.not_true,cond_false,Bool.true_and]
      exact ih j.1 ⟨by rw[hj',Nat.add_sub_cancel],hl0,by omega⟩
  refine eL ((abR dd abS ..).trans ?_)
  rw[au (by rw[bF];omega),if_pos (by omega),if_pos (by rw[bF];omega),w2,VE,abJ,eG (z:=zj) hi,bf (by omega)]
  unfold KI
  have rest:=rest _ rfl
  generalize gt s.2.2.2.2.1 (i:Int) zj=j at*
  rcases h1 with ⟨h1,h2⟩|⟨h1,h2,h3,h4⟩
  ·subst h1 h2
   rw[show (-1:Int)+1=0 by rfl] at rest⊢
   cases c1:iO j.1 0 (s.2.2.2.1-1) with
   |false=>rfl
   |true=>
    rw[Bool.not_true,cond_false,ay (by omega),Bool.true_and]
    exact rest c1
  ·have w1:wi ((i:Int)-1)=((i-1:Nat):Int):=by rw[aI (by omega) (by omega)];omega
   cases c1:iO j.1 0 (s.2.2.2.1-1) with
   |false=>
    have:iO j.1 (last+1) (s.2.2.2.1-1)=false:=by
     cases c2:iO j.1 (last+1) (s.2.2.2.1-1) with
     |false=>rfl
     |true=>have:=gQ.1 c2;rw[gQ.2 ⟨by omega,by omega⟩] at c1;cases c1
    rw[this];rfl
   |true=>
    have hr:=gQ.1 c1
    rw[Bool.not_true,cond_false,au (by omega),w1,if_pos (by omega),if_pos (by rw[bF];omega), <- h2]
    by_cases c3:last≥j.1
    ·have:iO j.1 (last+1) (s.2.2.2.1-1)=false:=by
      cases c2:iO j.1 (last+1) (s.2.2.2.1-1) with
      |false=>rfl
      |true=>have:=gQ.1 c2;omega
     rw[au c3,this];rfl
    ·have:iO j.1 (last+1) (s.2.2.2.1-1)=true:=gQ.2 ⟨by omega,by omega⟩
     rw[ay c3,this,Bool.true_and]
     exact rest this
theorem ard{s:Ts}(hs:y7 s)(hn:0<=s.2.2.2.1∧s.2.2.2.1<=9999)(c:Cf):ajR dd (c,s)=some (KJ c s):=by
 have h:=al7 hs hn c s.2.2.2.2.1.length 0 (-1) (by omega) (.inl ⟨rfl,rfl⟩)
 unfold KJ
 rw[Bool.and_comm]
 obtain⟨a1,a2,a3,a4,a5,a6,a7,a8⟩:=s
 obtain⟨c1,c2,c3,c4,c5,c6,c7⟩:=c
 refine dL rfl ((anO dd abS ..).trans ?_)
 exact h
end T
end
section
namespace T
open Go Go.E Go.Proofs
def xB(p:Str)(g:G8):Bool:=g.1.toList==p.toList
def kE(p:Str):List G8->Int
 |[]=> -1
 |g::r=>bif xB p g then 0 else bif decide (kE p r<0) then -1 else kE p r+1
theorem Y4(p:Str)(g:G8)(r:List G8):kE p (g::r)=bif xB p g then 0 else bif decide (kE p r<0) then -1 else kE p r+1:=rfl
theorem y8(p:Str):∀ (l:List G8),-1<=kE p l∧kE p l<l.length
 |[]=>by unfold kE;simp
 |g::r=>by
  have ih:=y8 p r
  unfold kE
  simp only[List.length_cons]
  cases xB p g with
  |true=>rw[cond_true];omega
  |false=>
   rw[cond_false]
   by_cases c:kE p r<0
   ·rw[au c];omega
   ·rw[ay c];omega
theorem TD(p:Str):∀ (l:List G8),decide (kE p l≥0)=l.any (xB p)
 |[]=>rfl
 |g::r=>by
  have ih:=TD p r
  unfold kE
  rw[List.any_cons]
  cases xB p g with
  |true=>rfl
  |false=>
   rw[cond_false,Bool.false_or, <- ih]
   by_cases c:kE p r<0
   ·rw[au c,decide_eq_false (by omega),decide_eq_false (by omega)]
   ·rw[ay c,decide_eq_true (by omega),decide_eq_true (by omega)]
theorem al8(p:Str)(l:List G8)(hl:l.length<=1000000):∀ (k i:Nat),i+k=l.length->afk (OM l p i)=some (bif decide (kE p (l.drop i)<0) then -1 else kE p (l.drop i)+i)
 |0,i,h=>by
  refine eL ((ab9 dd afk ..).trans ?_);show (_:Option Int)=some _
  rw[ay (by rw[bF];omega),List.drop_eq_nil_of_le (by omega)];rfl
 |k+1,i,h=>by
  have hi:i<l.length:=by omega
  have ih:=al8 p l hl k (i+1) (by omega)
  have hk:=y8 p (l.drop (i+1))
  refine eL ((ab9 dd afk ..).trans ?_);show (_:Option Int)=some _
  rw[au (by rw[bF];omega),if_pos (by omega),if_pos (by rw[bF];omega),eG (z:=zf) hi,bf (by omega),ih,Y4]
  show (bif xB p (gt l (i:Int) zf) then _ else _)=_
  cases xB p (gt l (i:Int) zf) with
  |true=>rw[cond_true,cond_true,ay (by omega)];congr 1;omega
  |false=>
   rw[cond_false,cond_false]
   by_cases c:kE p (l.drop (i+1))<0
   ·rw[au c,au c,au (by omega)]
   ·rw[ay c,ay c,ay (by omega)];congr 1;omega
theorem aiz(l:List G8)(hl:l.length<=1000000)(p:Str):aeZ dd (l,p)=some (kE p l):=by
 refine dL rfl ((aoh dd afk ..).trans ?_)
 have h:=al8 p l hl l.length 0 (by omega)
 have hk:=y8 p l
 rw[List.drop_zero] at h
 refine h.trans ?_
 by_cases c:kE p l<0
 ·rw[au c];congr 1;omega
 ·rw[ay c];congr 1;omega
def Nw(clock:Int):List G8->List G8->Bool
 | _,[]=>true
 |prev,f::r=>nameP f.1&&(iO f.2.1 0 clock&&(decide (f.2.2.length<=220)&&(!prev.any (xB f.1)&&Nw clock (prev++[f]) r)))
def KL(c:Cf)(s:Ts):Bool:=decide (ln s.2.2.2.2.2.1<=c.2.2.2.2.2.1)&&Nw s.1 [] s.2.2.2.2.2.1
theorem Xu(l:List Int):decide (ln l>220)= !decide (l.length<=220):=by
 rw[bF]
 by_cases h:l.length<=220
 ·rw[decide_eq_true h,decide_eq_false (by omega)];rfl
 ·rw[decide_eq_false h,decide_eq_true (by omega)];rfl
theorem al9{s:Ts}(hs:y7 s)(c:Cf):∀ (k i:Nat),i+k=s.2.2.2.2.2.1.length->
  afd (Ox i c.1 c.2.1 c.2.2.1 c.2.2.2.1 c.2.2.2.2.1 c.2.2.2.2.2.1 c.2.2.2.2.2.2 s.1 s.2.1 s.2.2.1 s.2.2.2.1 s.2.2.2.2.1 s.2.2.2.2.2.1 s.2.2.2.2.2.2.1 s.2.2.2.2.2.2.2)=some (Nw s.1 (s.2.2.2.2.2.1.take i) (s.2.2.2.2.2.1.drop i)&&decide (ln s.2.2.2.2.2.1<=c.2.2.2.2.2.1))
 |0,i,h=>by
  refine eL ((abT dd afd ..).trans ?_)
  rw[ay (by rw[bF];omega),List.drop_eq_nil_of_le (by omega)];rfl
 |k+1,i,h=>by
  have hj:=hs.uO
  have hi:i<s.2.2.2.2.2.1.length:=by omega
  have ih:=al9 hs c k (i+1) (by omega)
  have ht:s.2.2.2.2.2.1.take i++[gt s.2.2.2.2.2.1 (i:Int) zf]=s.2.2.2.2.2.1.take (i+1):=by rw[gB hi];exact List.take_append_getElem hi
  refine eL ((abT dd afd ..).trans ?_)
  rw[au (by rw[bF];omega),if_pos (by omega),if_pos (by rw[bF];omega),D58,abJ,eG (z:=zf) hi,bf (by omega)]
  unfold Nw
  rw[ht]
  cases nameP (gt s.2.2.2.2.2.1 (i:Int) zf).1 with
  |false=>rfl
  |true=>
   rw[Bool.not_true,cond_false,VE,abJ,Bool.true_and]
   cases iO (gt s.2.2.2.2.2.1 (i:Int) zf).2.1 0 s.1 with
   |false=>rfl
   |true=>
    rw[Bool.not_true,cond_false,Xu,Bool.true_and]
    cases decide ((gt s.2.2.2.2.2.1 (i:Int) zf).2.2.length<=220) with
    |false=>rfl
    |true=>
     rw[Bool.not_true,cond_false,if_pos (by omega),if_pos (by rw[bF];omega),aeg,aiz _ (by rw[List.length_take];omega),abJ,TD,Bool.true_and]
     cases (s.2.2.2.2.2.1.take i).any (xB (gt s.2.2.2.2.2.1 (i:Int) zf).1) with
     |true=>rfl
     |false=>rw[cond_false,Bool.not_false,Bool.true_and];exact ih
theorem arf{s:Ts}(hs:y7 s)(c:Cf):ajS dd (c,s)=some (KL c s):=by
 have h:=al9 hs c s.2.2.2.2.2.1.length 0 (by omega)
 unfold KL
 rw[Bool.and_comm]
 obtain⟨a1,a2,a3,a4,a5,a6,a7,a8⟩:=s
 obtain⟨c1,c2,c3,c4,c5,c6,c7⟩:=c
 refine dL rfl ((anP dd afd ..).trans ?_)
 exact h
theorem afW(a b:List UInt8):(a==b)=(b==a):=by
 by_cases h:a=b
 ·rw[h]
 ·rw[beq_eq_false_iff_ne.2 h,beq_eq_false_iff_ne.2 (fun x=>h x.symm)]
theorem ag0{s:Ts}(f:G8)(x:Nat)(p:List G8)(hp:p.length<=1000)(hx:x<=1000){Y:Bool}(nx:SC (JO s.2.2.2.2.2.1 (ln s.2.2.2.2.2.1) ((x+1:Nat):Int) s.1 s.2.1 s.2.2.1 s.2.2.2.1 s.2.2.2.2.1 s.2.2.2.2.2.1 s.2.2.2.2.2.2.1 s.2.2.2.2.2.2.2)=some Y):∀ (k i:Nat),i+k=p.length->
  SC (OG s.2.2.2.2.2.1 (ln s.2.2.2.2.2.1) x p (ln p) i s.1 s.2.1 s.2.2.1 s.2.2.2.1 s.2.2.2.2.1 s.2.2.2.2.2.1 s.2.2.2.2.2.2.1 s.2.2.2.2.2.2.2 f.1 f.2.1 f.2.2)=some (!(p.drop i).any (xB f.1)&&Y)
 |0,i,h=>by
  refine eL ((ab3 dd SC ..).trans ?_)
  rw[ay (by rw[bF];omega),List.drop_eq_nil_of_le (by omega),bf (by omega)]
  exact nx
 |k+1,i,h=>by
  have hi:i<p.length:=by omega
  refine eL ((ab3 dd SC ..).trans ?_)
  rw[au (by rw[bF];omega),if_pos (by omega),if_pos (by rw[bF];omega),afW,eG (z:=zf) hi,List.any_cons,bf (by omega),ag0 f x p hp hx nx k (i+1) (by omega)]
  show (bif xB f.1 (gt p (i:Int) zf) then _ else _)=_
  cases xB f.1 (gt p (i:Int) zf) with
  |true=>rfl
  |false=>rfl
theorem ama{s:Ts}(hs:y7 s):∀ (k i:Nat),i+k=s.2.2.2.2.2.1.length->
  SC (JO s.2.2.2.2.2.1 (ln s.2.2.2.2.2.1) i s.1 s.2.1 s.2.2.1 s.2.2.2.1 s.2.2.2.2.1 s.2.2.2.2.2.1 s.2.2.2.2.2.2.1 s.2.2.2.2.2.2.2)=some (Nw s.1 (s.2.2.2.2.2.1.take i) (s.2.2.2.2.2.1.drop i))
 |0,i,h=>by
  refine eL ((ab2 dd SC ..).trans ?_)
  rw[ay (by rw[bF];omega),List.drop_eq_nil_of_le (by omega)];rfl
 |k+1,i,h=>by
  have hj:=hs.uO
  have hi:i<s.2.2.2.2.2.1.length:=by omega
  have ih:=ama hs k (i+1) (by omega)
  have ht:s.2.2.2.2.2.1.take i++[gt s.2.2.2.2.2.1 (i:Int) zf]=s.2.2.2.2.2.1.take (i+1):=by rw[gB hi];exact List.take_append_getElem hi
  have hb:=ag0 (s:=s) (gt s.2.2.2.2.2.1 (i:Int) zf) i (s.2.2.2.2.2.1.take i) (by rw[List.length_take];omega) (by omega) ih (s.2.2.2.2.2.1.take i).length 0 (by omega)
  refine eL ((ab2 dd SC ..).trans ?_)
  rw[au (by rw[bF];omega),if_pos (by omega),if_pos (by rw[bF];omega),D92,abJ,eG (z:=zf) hi]
  unfold Nw
  rw[ht]
  generalize gt s.2.2.2.2.2.1 (i:Int) zf=f at*
  cases nameP f.1 with
  |false=>rfl
  |true=>
   rw[Bool.not_true,cond_false,D93,abJ,Bool.true_and]
   cases iO f.2.1 0 s.1 with
   |false=>rfl
   |true=>
    rw[Bool.not_true,cond_false,Xu,Bool.true_and]
    cases decide (f.2.2.length<=220) with
    |false=>rfl
    |true=>
     rw[Bool.not_true,cond_false,if_pos (by omega),if_pos (by rw[bF];omega),aeg,Bool.true_and]
     exact hb
theorem arh{s:Ts}(hs:y7 s)(c:Cf):aj0 dd (c,s)=some (KL c s):=by
 have h:=ama hs s.2.2.2.2.2.1.length 0 (by omega)
 obtain⟨a1,a2,a3,a4,a5,a6,a7,a8⟩:=s
 obtain⟨c1,c2,c3,c4,c5,c6,c7⟩:=c
 refine dL rfl ((an3 dd SC ..).trans ?_);unfold KL
 by_cases c:ln a6>c6
 ·rw[au c,decide_eq_false (by dsimp only;omega)];rfl
 ·rw[ay c,decide_eq_true (by dsimp only;omega),Bool.true_and]
  exact h
def D6(next:Int):List Out->Bool
 |[]=>true
 |o::r=>iO o.1 0 (next-1)&&(D5 o.2.1&&(decide (o.2.2.length<=220)&&(((o.2.1==200)==decide (0<o.2.2.length))&&D6 next r)))
theorem Ci(next:Int)(o:Out)(r:List Out):D6 next (o::r)=(iO o.1 0 (next-1)&&(D5 o.2.1&&(decide (o.2.2.length<=220)&&(((o.2.1==200)==decide (0<o.2.2.length))&&D6 next r)))):=rfl
theorem gt0(l:List Int):decide (ln l>0)=decide (0<l.length):=by
 rw[bF]
 by_cases h:0<l.length
 ·rw[decide_eq_true h,decide_eq_true (by omega)]
 ·rw[decide_eq_false h,decide_eq_false (by omega)]
theorem ad3{s:Ts}(hs:y7 s):∀ (k i:Nat),i+k=s.2.2.2.2.2.2.1.length->
  Ve (Oz i s.1 s.2.1 s.2.2.1 s.2.2.2.1 s.2.2.2.2.1 s.2.2.2.2.2.1 s.2.2.2.2.2.2.1 s.2.2.2.2.2.2.2)=some ((s.2.2.2.2.2.2.1.drop i).all nameP)
 |0,i,h=>by
  refine eL ((abV dd Ve ..).trans ?_)
  rw[ay (by rw[bF];omega),List.drop_eq_nil_of_le (by omega)];rfl
 |k+1,i,h=>by
  have hj:=hs.asked
  have hi:i<s.2.2.2.2.2.2.1.length:=by omega
  refine eL ((abV dd Ve ..).trans ?_)
  rw[au (by rw[bF];omega),if_pos (by omega),if_pos (by rw[bF];omega),D58,abJ,eG (z:=ByteArray.mk #[]) hi,bf (by omega),ad3 hs k (i+1) (by omega),List.all_cons]
  cases nameP (gt s.2.2.2.2.2.2.1 (i:Int) (ByteArray.mk #[]))<;>rfl
theorem ad4{s:Ts}(hs:y7 s)(hn:0<=s.2.2.2.1∧s.2.2.2.1<=9999):∀ (k i:Nat),i+k=s.2.2.2.2.2.2.2.length->
  Ve (Oy i s.1 s.2.1 s.2.2.1 s.2.2.2.1 s.2.2.2.2.1 s.2.2.2.2.2.1 s.2.2.2.2.2.2.1 s.2.2.2.2.2.2.2)=some (D6 s.2.2.2.1 (s.2.2.2.2.2.2.2.drop i)&&s.2.2.2.2.2.2.1.all nameP)
 |0,i,h=>by
  have h1:=ad3 hs s.2.2.2.2.2.2.1.length 0 (by omega)
  refine eL ((abU dd Ve ..).trans ?_)
  rw[ay (by rw[bF];omega),List.drop_eq_nil_of_le (by omega)]
  exact h1
 |k+1,i,h=>by
  have hj:=hs.outs
  have hi:i<s.2.2.2.2.2.2.2.length:=by omega
  have w2:wi (s.2.2.2.1-1)=s.2.2.2.1-1:=aI (by omega) (by omega)
  have ih:=ad4 hs hn k (i+1) (by omega)
  refine eL ((abU dd Ve ..).trans ?_)
  rw[au (by rw[bF];omega),if_pos (by omega),if_pos (by rw[bF];omega),w2,VE,abJ,eG (z:=zt) hi,bf (by omega),ih,Ci]
  generalize gt s.2.2.2.2.2.2.2 (i:Int) zt=o
  cases iO o.1 0 (s.2.2.2.1-1) with
  |false=>rfl
  |true=>
   rw[Bool.not_true,cond_false,aq9,abJ,Bool.true_and]
   cases D5 o.2.1 with
   |false=>rfl
   |true=>
    rw[Bool.not_true,cond_false,Xu,gt0,Bool.true_and]
    cases decide (o.2.2.length<=220) with
    |false=>rfl
    |true=>
     rw[Bool.not_true,cond_false,Bool.true_and]
     cases ((o.2.1==200)==decide (0<o.2.2.length))<;>rfl
theorem ari{s:Ts}(hs:y7 s)(hn:0<=s.2.2.2.1∧s.2.2.2.1<=9999):ajT dd s=some ((decide (s.2.2.2.2.2.2.1.length<=60)&&s.2.2.2.2.2.2.1.all nameP)&&(decide (s.2.2.2.2.2.2.2.length<=60)&&D6 s.2.2.2.1 s.2.2.2.2.2.2.2)):=by
 have h:=ad4 hs hn s.2.2.2.2.2.2.2.length 0 (by omega)
 obtain⟨a1,a2,a3,a4,a5,a6,a7,a8⟩:=s
 refine dL rfl ((b110 dd Ve ..).trans ?_);show (_:Option Bool)=some _
 dsimp only at h⊢
 by_cases c1:a8.length<=60
 ·rw[ay (by rw[bF];omega),decide_eq_true c1]
  by_cases c2:a7.length<=60
  ·rw[ay (by rw[bF];omega),decide_eq_true c2,Bool.true_and,Bool.true_and,Bool.and_comm]
   exact h
  ·rw[au (by rw[bF];omega),decide_eq_false c2];rfl
 ·rw[au (by rw[bF];omega),decide_eq_false c1,Bool.false_and,Bool.and_false]
theorem amb(l:List Str)(hl:l.length<=1000):∀ (k i:Nat),i+k=l.length->afh (OH l (ln l) i)=some ((l.drop i).all nameP)
 |0,i,h=>by
  refine eL ((ab4 dd afh ..).trans ?_)
  rw[ay (by rw[bF];omega),List.drop_eq_nil_of_le (by omega)];rfl
 |k+1,i,h=>by
  have hi:i<l.length:=by omega
  refine eL ((ab4 dd afh ..).trans ?_)
  rw[au (by rw[bF];omega),if_pos (by omega),if_pos (by rw[bF];omega),D92,abJ,eG (z:=ByteArray.mk #[]) hi,bf (by omega),amb l hl k (i+1) (by omega),List.all_cons]
  cases nameP (gt l (i:Int) (ByteArray.mk #[]))<;>rfl
theorem arj{s:Ts}(hs:y7 s):aj1 dd s=some (decide (s.2.2.2.2.2.2.1.length<=60)&&s.2.2.2.2.2.2.1.all nameP):=by
 have h:=amb s.2.2.2.2.2.2.1 hs.asked s.2.2.2.2.2.2.1.length 0 (by omega)
 obtain⟨a1,a2,a3,a4,a5,a6,a7,a8⟩:=s
 refine dL rfl ((an4 dd afh ..).trans ?_)
 dsimp only at h⊢
 by_cases c1:a7.length<=60
 ·rw[ay (by rw[bF];omega),decide_eq_true c1];exact h
 ·rw[au (by rw[bF];omega),decide_eq_false c1];rfl
theorem amc{s:Ts}(hs:y7 s)(hn:0<=s.2.2.2.1∧s.2.2.2.1<=9999):∀ (k i:Nat),i+k=s.2.2.2.2.2.2.2.length->
  afi (OI s.2.2.2.2.2.2.2 (ln s.2.2.2.2.2.2.2) i s.1 s.2.1 s.2.2.1 s.2.2.2.1 s.2.2.2.2.1 s.2.2.2.2.2.1 s.2.2.2.2.2.2.1 s.2.2.2.2.2.2.2)=some (D6 s.2.2.2.1 (s.2.2.2.2.2.2.2.drop i))
 |0,i,h=>by
  refine eL ((ab5 dd afi ..).trans ?_)
  rw[ay (by rw[bF];omega),List.drop_eq_nil_of_le (by omega)];rfl
 |k+1,i,h=>by
  have hj:=hs.outs
  have hi:i<s.2.2.2.2.2.2.2.length:=by omega
  have w2:wi (s.2.2.2.1-1)=s.2.2.2.1-1:=aI (by omega) (by omega)
  have ih:=amc hs hn k (i+1) (by omega)
  refine eL ((ab5 dd afi ..).trans ?_)
  rw[au (by rw[bF];omega),if_pos (by omega),if_pos (by rw[bF];omega),w2,D93,abJ,eG (z:=zt) hi,bf (by omega),ih,Ci]
  generalize gt s.2.2.2.2.2.2.2 (i:Int) zt=o
  cases iO o.1 0 (s.2.2.2.1-1) with
  |false=>rfl
  |true=>
   rw[Bool.not_true,cond_false,ara,abJ,Bool.true_and]
   cases D5 o.2.1 with
   |false=>rfl
   |true=>
    rw[Bool.not_true,cond_false,Xu,gt0,Bool.true_and]
    cases decide (o.2.2.length<=220) with
    |false=>rfl
    |true=>
     rw[Bool.not_true,cond_false,Bool.true_and]
     cases (o.2.1==200)<;>cases decide (0<o.2.2.length)<;>rfl
theorem ark{s:Ts}(hs:y7 s)(hn:0<=s.2.2.2.1∧s.2.2.2.1<=9999):aj2 dd s=some (decide (s.2.2.2.2.2.2.2.length<=60)&&D6 s.2.2.2.1 s.2.2.2.2.2.2.2):=by
 have h:=amc hs hn s.2.2.2.2.2.2.2.length 0 (by omega)
 obtain⟨a1,a2,a3,a4,a5,a6,a7,a8⟩:=s
 refine dL rfl ((an5 dd afi ..).trans ?_)
 dsimp only at h⊢
 by_cases c1:a8.length<=60
 ·rw[ay (by rw[bF];omega),decide_eq_true c1];exact h
 ·rw[au (by rw[bF];omega),decide_eq_false c1];rfl
def y9(c:Cf)(s:Ts):Bool:=DZ c&&(iO s.1 0 9999&&(iO s.2.1 0 c.2.1&&(iO s.2.2.1 0 s.1&&(iO s.2.2.2.1 0 9999&&(KJ c s&&(KL c s&&((decide (s.2.2.2.2.2.2.1.length<=60)&&s.2.2.2.2.2.2.1.all nameP)&&(decide (s.2.2.2.2.2.2.2.length<=60)&&D6 s.2.2.2.1 s.2.2.2.2.2.2.2))))))))
theorem D48{s:Ts}(hs:y7 s)(c:Cf):r48 dd (c,s)=some (y9 c s):=by
 have h1:=al4 c
 have h2:=fun hn=>ard hs hn c
 have h3:=arf hs c
 have h4:=fun hn=>ari hs hn
 obtain⟨a1,a2,a3,a4,a5,a6,a7,a8⟩:=s
 obtain⟨c1,c2,c3,c4,c5,c6,c7⟩:=c
 refine dL rfl ((b48 dd l48 ..).trans ?_);unfold y9
 rw[h1,abJ]
 cases DZ (c1,c2,c3,c4,c5,c6,c7) with
 |false=>rfl
 |true=>
  simp only[VE,abJ]
  cases iO a1 0 9999 with
  |false=>rfl
  |true=>
   cases iO a2 0 c2 with
   |false=>rfl
   |true=>
    cases iO a3 0 a1 with
    |false=>rfl
    |true=>
     cases hn:iO a4 0 9999 with
     |false=>rfl
     |true=>
      have hn:=gQ.1 hn
      rw[h2 hn,abJ,h3,abJ,h4 hn,abJ]
      cases KJ (c1,c2,c3,c4,c5,c6,c7) (a1,a2,a3,a4,a5,a6,a7,a8) with
      |false=>rfl
      |true=>cases KL (c1,c2,c3,c4,c5,c6,c7) (a1,a2,a3,a4,a5,a6,a7,a8)<;>rfl
theorem D79{s:Ts}(hs:y7 s)(c:Cf):r79 dd (c,s)=some (y9 c s):=by
 have h1:=aq8 c
 have h2:=fun hn=>arb hs hn c
 have h3:=arh hs c
 have h4:=arj hs
 have h5:=fun hn=>ark hs hn
 obtain⟨a1,a2,a3,a4,a5,a6,a7,a8⟩:=s
 obtain⟨c1,c2,c3,c4,c5,c6,c7⟩:=c
 refine dL rfl ((b79 dd l79 ..).trans ?_);unfold y9
 rw[h1,abJ]
 cases DZ (c1,c2,c3,c4,c5,c6,c7) with
 |false=>rfl
 |true=>
  simp only[D93,abJ]
  dsimp only at h4
  cases iO a1 0 9999 with
  |false=>rfl
  |true=>
   cases iO a2 0 c2 with
   |false=>rfl
   |true=>
    cases iO a3 0 a1 with
    |false=>rfl
    |true=>
     cases hn:iO a4 0 9999 with
     |false=>rfl
     |true=>
      have hn:=gQ.1 hn
      have h5:=h5 hn
      dsimp only at h5
      rw[h2 hn,abJ,h3,abJ,h4,abJ,h5,abJ]
      cases KJ (c1,c2,c3,c4,c5,c6,c7) (a1,a2,a3,a4,a5,a6,a7,a8) with
      |false=>rfl
      |true=>
       cases KL (c1,c2,c3,c4,c5,c6,c7) (a1,a2,a3,a4,a5,a6,a7,a8) with
       |false=>rfl
       |true=>cases (decide (a7.length<=60)&&a7.all nameP)<;>rfl
end T
end
section
namespace T
open Go Go.E Go.Proofs
abbrev Evt:=Int×Str×Int×List Int×Int
structure mQ (n:Nat) (s:Ts):Prop where
 jobs:s.2.2.2.2.1.length<=n
 uO:s.2.2.2.2.2.1.length<=n
 asked:s.2.2.2.2.2.2.1.length<=60
 outs:s.2.2.2.2.2.2.2.length<=60
 next:0<=s.2.2.2.1∧s.2.2.2.1<=n
 ops:∀ j∈s.2.2.2.2.1,j.2.2.1.length<=300
 fd:∀ f∈s.2.2.2.2.2.1,fB f.2.2∧f.2.2.length<=300
 od:∀ o∈s.2.2.2.2.2.2.2,fB o.2.2∧o.2.2.length<=300
theorem mQ.le{n m:Nat}{s:Ts}(h:mQ n s)(hn:n<=m):mQ m s:=
 {h with jobs:=Nat.le_trans h.jobs hn,uO:=Nat.le_trans h.uO hn,next:=⟨h.next.1,by have:=h.next.2;omega⟩}
theorem Lu:fB ([]:List Int)∧([]:List Int).length<=300:=⟨fun _ h=>(List.not_mem_nil h).elim,by simp⟩
theorem TF{f:List Int}{ops:List Op}(hb:fB f):fB (AU f ops).1∧(AU f ops).1.length<=300:=by
 unfold AU
 by_cases c0:f.length>220
 ·rw[if_pos c0];exact Lu
 rw[if_neg c0]
 by_cases c1:nT ops=false
 ·rw[if_pos c1];exact Lu
 rw[if_neg c1]
 by_cases c2:(jk f).2=2
 ·rw[if_pos c2];exact Lu
 rw[if_neg c2]
 by_cases c3:(jk f).2=3
 ·rw[if_pos c3];exact Lu
 rw[if_neg c3]
 have c4:(jk f).2=1:=by rcases Kz f with q|q|q;exact q;exact absurd q c2;exact absurd q c3
 have ho:nT ops=true:=by cases h:nT ops with|true=>rfl|false=>exact absurd h c1
 obtain⟨W,H,hn⟩:=VQ hb c4
 cases hp:Lr ops (jk f).1 with
 |none=>exact Lu
 |some r'=>
  obtain⟨W',H',hn'⟩:=VT (Xp ho) hn hp
  show fB (VP r')∧(VP r').length<=300
  unfold VP
  rw[if_pos (zT.2 ⟨W',H',hn'⟩)]
  have:=Nq (k:=80) (.inr (.inr (.inr rfl))) iC (by simp) hn'
  exact⟨this.1,by omega⟩
theorem arl{l:List Op}(h:l.length<=1000):akv dd l=some l:=by
 refine dL rfl ((ao0 dd ao1 ..).trans ?_);show (_:Option (List I5))=some _
 rw[if_pos (by omega)]
theorem ame(l:List Job)(hl:l.length<=1000)(id:Int):∀ (k i:Nat),i+k=l.length->∃ v:Int,acS (PI l id i)=some v∧ -1<=v∧v<l.length
 |0,i,h=>⟨-1,by refine eL ((Vx dd acS ..).trans ?_);show (_:Option Int)=some _;rw[ay (by rw[bF];omega)],by omega,by omega⟩
 |k+1,i,h=>by
  by_cases c:(gt l (i:Int) zj).1=id
  ·refine⟨i,?_,by omega,by omega⟩
   refine eL ((Vx dd acS ..).trans ?_);show (_:Option Int)=some _
   rw[au (by rw[bF];omega),if_pos (by omega),if_pos (by rw[bF];omega)]
   exact aK c
  ·obtain⟨v,e,h1⟩:=ame l hl id k (i+1) (by omega)
   refine⟨v,?_,h1⟩
   refine eL ((Vx dd acS ..).trans ?_);show (_:Option Int)=some _
   rw[au (by rw[bF];omega),if_pos (by omega),if_pos (by rw[bF];omega),bf (by omega)]
   exact (aA c).trans e
theorem arn{l:List Job}(hl:l.length<=1000)(id:Int):∃ v:Int,akE dd (l,id)=some v∧ -1<=v∧v<l.length:=by
 obtain⟨v,e,h⟩:=ame l hl id l.length 0 (by omega)
 exact⟨v,by refine dL rfl ((apl dd acS ..).trans ?_);exact e,h⟩
def AX{α:Type}(l:List α)(i:Nat):List α:=l.take i++l.drop (i+1)
theorem zh{α:Type}{l:List α}{i:Nat}(h:i<l.length):(AX l i).length+1=l.length:=by
 unfold AX
 rw[List.length_append,List.length_take,List.length_drop];omega
theorem zi{α:Type}{l:List α}{i:Nat}{x:α}(h:x∈AX l i):x∈l:=by
 rcases adh.1 h with h|h
 ·exact List.mem_of_mem_take h
 ·exact List.mem_of_mem_drop h
theorem amf{l:List Job}{i:Nat}(h:i<l.length)(hl:l.length<=1000):ahU dd (l,(i:Int))=some (AX l i):=by
 have h1:(l.take i).length=i:=by rw[List.length_take];omega
 have h2:(l.drop (i+1)).length=l.length-(i+1):=List.length_drop
 refine dL rfl ((apm dd apn ..).trans ?_)
 rw[if_pos (by omega),if_pos (by rw[bF];omega),bf (by omega),aeg,aeg,if_pos (by rw[h1];omega),if_pos (by omega),if_pos (by rw[bF];omega),if_pos (by rw[h1,h2];omega)]
 rfl
theorem aiA{l:List G8}{i:Nat}(h:i<l.length)(hl:l.length<=1000):abM dd (l,(i:Int))=some (AX l i):=by
 have h1:(l.take i).length=i:=by rw[List.length_take];omega
 have h2:(l.drop (i+1)).length=l.length-(i+1):=List.length_drop
 refine dL rfl ((aph dd apj ..).trans ?_)
 rw[if_pos (by omega),if_pos (by rw[bF];omega),bf (by omega),aeg,aeg,if_pos (by rw[h1];omega),if_pos (by omega),if_pos (by rw[bF];omega),if_pos (by rw[h1,h2];omega)]
 rfl
theorem aro{s:Ts}{n:Nat}(hs:mQ n s)(hn:n<=1000)(c:Cf)(p:Str):∃ v:Int,akD dd (c,s,p)=some v∧ -1<=v∧v<s.2.2.2.2.2.1.length:=by
 have hk:=y8 p s.2.2.2.2.2.1
 have hd:=aiz s.2.2.2.2.2.1 (by have:=hs.uO;omega) p
 have hf:=hs.uO
 obtain⟨a1,a2,a3,a4,a5,a6,a7,a8⟩:=s
 obtain⟨c1,c2,c3,c4,c5,c6,c7⟩:=c
 dsimp only at hk hd hf⊢
 by_cases h0:kE p a6<0
 ·exact⟨-1,by refine dL rfl ((ah8 dd ah9 ..).trans ?_);show (_:Option Int)=some _;rw[hd,abJ,au h0],by omega,by omega⟩
 ·by_cases h1:wi (a1-(gt a6 (kE p a6) zf).2.1)>c5
  ·exact⟨-1,by refine dL rfl ((ah8 dd ah9 ..).trans ?_);show (_:Option Int)=some _;rw[hd,abJ,ay h0,if_pos (by omega),if_pos (by rw[bF];omega)];exact au h1,by omega,by omega⟩
  ·exact⟨kE p a6,by refine dL rfl ((ah8 dd ah9 ..).trans ?_);show (_:Option Int)=some _;rw[hd,abJ,ay h0,if_pos (by omega),if_pos (by rw[bF];omega)];exact ay h1,by omega,by omega⟩
theorem TG{s:Ts}{n:Nat}(hs:mQ n s)(id c:Int){d:List Int}(hd:fB d∧d.length<=300):∃ s',La dd (s,id,c,d)=some s'∧mQ n s'∧s'.2.2.2.2.1=s.2.2.2.2.1:=by
 have ho:=hs.outs
 obtain⟨a1,a2,a3,a4,a5,a6,a7,a8⟩:=s
 dsimp only at ho
 by_cases c0:a8.length<60
 ·refine⟨(a1,a2,a3,a4,a5,a6,a7,a8++[(id,c,d)]),?_,⟨hs.jobs,hs.uO,hs.asked,by simp;omega,hs.next,hs.ops,hs.fd,fun o hx=> ?_⟩,rfl⟩
  ·refine dL rfl ((ald dd ale ..).trans ?_);show (_:Option (zTs))=some _
   rw[au (by rw[bF];omega),if_pos (by omega)];rfl
  ·rcases adh.1 hx with hx|hx
   ·exact hs.od o hx
   ·rw[List.mem_singleton.1 hx];exact hd
 ·refine⟨(a1,a2,a3,a4,a5,a6,a7,a8),?_,hs,rfl⟩
  refine dL rfl ((ald dd ale ..).trans ?_);show (_:Option (zTs))=some _
  rw[ay (by rw[bF];omega)]
theorem arp{s:Ts}{n:Nat}(hs:mQ n s)(hn:n<=900)(c:Cf)(hc:1<=c.2.2.2.2.2.1)(p:Str){d:List Int}(hb:fB d)(hd:d.length<=300):∃ s',akF dd (c,s,p,d)=some s'∧mQ (n+1) s':=by
 have hk:=y8 p s.2.2.2.2.2.1
 have hkd:=aiz s.2.2.2.2.2.1 (by have:=hs.uO;omega) p
 have hf:=hs.uO
 obtain⟨a1,a2,a3,a4,a5,a6,a7,a8⟩:=s
 obtain⟨c1,c2,c3,c4,c5,c6,c7⟩:=c
 dsimp only at hk hkd hf hc
 have fin:∀ l:List G8,l.length<=n->(∀ f∈l,fB f.2.2∧f.2.2.length<=300)->∃ s',acU (PK p d c1 c2 c3 c4 c5 c6 c7 a1 a2 a3 a4 a5 l a7 a8 0 0 0 0)=some s'∧mQ (n+1) s':=by
  intro l hl hfl
  have go:∀ m:List G8,m.length<=n->(∀ f∈m,fB f.2.2∧f.2.2.length<=300)->mQ (n+1) (a1,a2,a3,a4,a5,m++[(p,a1,d)],a7,a8):=fun m hm hfm=>
   ⟨Nat.le_trans hs.jobs (by omega),by simp;omega,hs.asked,hs.outs,⟨hs.next.1,by have:=hs.next.2;dsimp only at this ⊢;omega⟩,hs.ops,fun f hx=>by
    rcases adh.1 hx with hx|hx
    ·exact hfm f hx
    ·rw[List.mem_singleton.1 hx];exact⟨hb,hd⟩,hs.od⟩
  by_cases h1:ln l=c6
  ·have hl0:0<l.length:=by rw[bF] at h1;omega
   have hll:=zh hl0
   refine⟨_,?_,go (AX l 0) (by omega) (fun f hx=>hfl f (zi hx))⟩
   refine eL ((acT dd acU ..).trans ?_)
   rw[aK h1]
   have:=aiA hl0 (by omega)
   rw[show ((0:Nat):Int)=0 from rfl] at this
   rw[this,abJ,if_pos (by omega),if_pos (by omega)];rfl
  ·refine⟨_,?_,go l hl hfl⟩
   refine eL ((acT dd acU ..).trans ?_)
   rw[aA h1,if_pos (by omega),if_pos (by omega)];rfl
 by_cases h0:kE p a6≥0
 ·have hi:(kE p a6).toNat<a6.length:=by omega
  have h1:=aiA hi (by omega)
  rw[show (((kE p a6).toNat:Nat):Int)=kE p a6 by omega] at h1
  have hll:=zh hi
  obtain⟨s',e,hg⟩:=fin (AX a6 (kE p a6).toNat) (by omega) (fun f hx=>hs.fd f (zi hx))
  refine⟨s',?_,hg⟩
  refine dL rfl ((alf dd acU ..).trans ?_)
  rw[hkd,abJ,au h0,h1,abJ]
  exact e
 ·obtain⟨s',e,hg⟩:=fin a6 hf hs.fd
  refine⟨s',?_,hg⟩
  refine dL rfl ((alf dd acU ..).trans ?_)
  rw[hkd,abJ,ay h0]
  exact e
end T
end
section
namespace T
open Go Go.E Go.Proofs
theorem ad5{R:Type}(x:Option R):sameAll x [x]=x:=by
 unfold sameAll
 exact if_pos ⟨rfl,trivial⟩
theorem arq{s:Ts}{n:Nat}(hs:mQ n s)(hn:n<=900)(c:Cf){t:Str}(ht:t.size<=100000):∃ s',akt dd (c,s,t)=some s'∧mQ (n+1) s':=by
 obtain⟨ask,code,hu,hal⟩:=D17 (key:=c.1) (s:=t) ht s.1
 have hj:=hs.jobs
 have hf:=hs.uO
 have ha:=hs.asked
 obtain⟨a1,a2,a3,a4,a5,a6,a7,a8⟩:=s
 obtain⟨c1,c2,c3,c4,c5,c6,c7⟩:=c
 have hx:=hs.next
 dsimp only at hu hj hf ha hx
 have w4:wi (a4+1)=a4+1:=aI (by omega) (by omega)
 by_cases e0:a4=9999
 ·exact⟨(a1,a2,a3,a4,a5,a6,a7,a8),by refine dL rfl ((Vs dd Vt ..).trans ?_);show (_:Option (zTs))=some _;rw[aK e0],hs.le (by omega)⟩
 have up:∀ k:Int,mQ (n+1) (a1,k,a3,a4+1,a5,a6,a7,a8):=fun k=>
  ⟨by dsimp only;omega,by dsimp only;omega,ha,hs.outs,by dsimp only;omega,hs.ops,hs.fd,hs.od⟩
 by_cases e1:code=200
 rotate_left
 ·obtain⟨s',h,hg,_⟩:=TG (up a2) a4 code (d:=[]) Lu
  refine⟨s',?_,hg⟩
  refine dL rfl ((Vs dd Vt ..).trans ?_);show (_:Option (zTs))=some _
  rw[aA e0,hu,abJ,mD e1,w4]
  rw[h,abJ]
 by_cases e2:a2=0
 ·obtain⟨s',h,hg,_⟩:=TG (up a2) a4 429 (d:=[]) Lu
  refine⟨s',?_,hg⟩
  refine dL rfl ((Vs dd Vt ..).trans ?_);show (_:Option (zTs))=some _
  rw[aA e0,hu,abJ,iM e1,aK e2,w4]
  rw[h,abJ]
 by_cases e3:ln a5=c4
 ·obtain⟨s',h,hg,_⟩:=TG (up (wi (a2-1))) a4 503 (d:=[]) Lu
  refine⟨s',?_,hg⟩
  refine dL rfl ((Vs dd Vt ..).trans ?_);show (_:Option (zTs))=some _
  rw[aA e0,hu,abJ,iM e1,aA e2,aK e3,w4]
  rw[h,abJ]
 obtain⟨v,hv,v0,v1⟩:=aro (up (wi (a2-1))) (by omega) (c1,c2,c3,c4,c5,c6,c7) ask.2.1
 dsimp only at v1
 by_cases e4:v≥0
 ·have hi:v.toNat<a6.length:=by omega
  have h1:=aiA hi (by omega)
  rw[show ((v.toNat:Nat):Int)=v by omega] at h1
  have hll:=zh hi
  have hg:gt a6 v zf=a6[v.toNat]:=by
   have:=gB (z:=zf) hi
   rwa [show ((v.toNat:Nat):Int)=v by omega] at this
  have hfd:=hs.fd (gt a6 v zf) (by rw[hg];exact List.getElem_mem hi)
  have ht:=alV (gt a6 v zf).2.2 ask.1 hfd.1 (by show _<_;omega) (by show _<_;omega)
  have hz:=TF (ops:=ask.1) hfd.1
  have up2:mQ (n+1) (a1,wi (a2-1),a3,a4+1,a5,AX a6 v.toNat++[gt a6 v zf],a7,a8):=
   ⟨by dsimp only;omega,by simp;omega,ha,hs.outs,by dsimp only;omega,hs.ops,fun f hx=>by
    rcases adh.1 hx with hx|hx
    ·exact hs.fd f (zi hx)
    ·rw[List.mem_singleton.1 hx];exact hfd,hs.od⟩
  obtain⟨s',h,hg',_⟩:=TG up2 a4 (AU (gt a6 v zf).2.2 ask.1).2 hz
  refine⟨s',?_,hg'⟩
  obtain⟨o,p,tl⟩:=ask
  refine dL rfl ((Vs dd Vt ..).trans ?_);show (_:Option (zTs))=some _
  rw[aA e0,hu,abJ,iM e1,aA e2,aA e3,w4]
  rw[hv,abJ,au e4,if_pos (by omega),if_pos (by rw[bF];omega),h1,abJ,if_pos (by omega)]
  rw[ht,abJ]
  refine (ad5 _).trans ?_
  exact (congrArg (fun x=>Option.bind x fun r=>some r) h).trans rfl
 ·have up3:∀ l:List Str,l.length<=60->mQ (n+1) (a1,wi (a2-1),a3,a4+1,a5++[(a4,ask.2.1,ask.1,a1)],a6,l,a8):=fun l hl=>
   ⟨by simp;omega,by dsimp only;omega,hl,hs.outs,by dsimp only;omega,fun j hx=>by
    rcases adh.1 hx with hx|hx
    ·exact hs.ops j hx
    ·rw[List.mem_singleton.1 hx];exact hal,hs.fd,hs.od⟩
  obtain⟨o,p,tl⟩:=ask
  by_cases e5:a7.length<60
  ·refine⟨_,?_,up3 (a7++[p]) (by simp;omega)⟩
   refine dL rfl ((Vs dd Vt ..).trans ?_);show (_:Option (zTs))=some _
   rw[aA e0,hu,abJ,iM e1,aA e2,aA e3,w4]
   rw[hv,abJ,ay e4,if_pos (by omega),au (by rw[bF];omega),if_pos (by omega)]
   rfl
  ·refine⟨_,?_,up3 a7 ha⟩
   refine dL rfl ((Vs dd Vt ..).trans ?_);show (_:Option (zTs))=some _
   rw[aA e0,hu,abJ,iM e1,aA e2,aA e3,w4]
   rw[hv,abJ,ay e4,if_pos (by omega),ay (by rw[bF];omega)]
   rfl
theorem ars{s:Ts}{n:Nat}(hs:mQ n s)(hn:n<=900)(c:Cf)(hc:1<=c.2.2.2.2.2.1)(e:Evt)(hb:fB e.2.2.2.1)(hd:e.2.2.2.1.length<=300):∃ s',ahR dd (c,s,e)=some s'∧mQ (n+1) s':=by
 obtain⟨v,hv,v0,v1⟩:=arn (l:=s.2.2.2.2.1) (by have:=hs.jobs;omega) e.2.2.1
 have hj:=hs.jobs
 obtain⟨a1,a2,a3,a4,a5,a6,a7,a8⟩:=s
 obtain⟨c1,c2,c3,c4,c5,c6,c7⟩:=c
 obtain⟨k1,k2,k3,k4,k5⟩:=e
 have hx:=hs.next
 dsimp only at hv v1 hj hx hb hd hc
 by_cases e0:v<0
 ·exact⟨(a1,a2,a3,a4,a5,a6,a7,a8),by refine dL rfl ((afv dd afw ..).trans ?_);show (_:Option (zTs))=some _;rw[hv,abJ,au e0],hs.le (by omega)⟩
 have hi:v.toNat<a5.length:=by omega
 have h1:=amf hi (by omega)
 rw[show ((v.toNat:Nat):Int)=v by omega] at h1
 have hll:=zh hi
 have hg:gt a5 v zj=a5[v.toNat]:=by
  have:=gB (z:=zj) hi
  rwa [show ((v.toNat:Nat):Int)=v by omega] at this
 have hop:=hs.ops (gt a5 v zj) (by rw[hg];exact List.getElem_mem hi)
 have up:mQ n (a1,a2,a3,a4,AX a5 v.toNat,a6,a7,a8):=⟨by dsimp only;omega,hs.uO,hs.asked,hs.outs,hs.next,fun j hx=>hs.ops j (zi hx),hs.fd,hs.od⟩
 by_cases e1:k1=3
 ·obtain⟨s',h,hg',_⟩:=TG up (gt a5 v zj).1 502 (d:=[]) Lu
  refine⟨s',?_,hg'.le (by omega)⟩
  refine dL rfl ((afv dd afw ..).trans ?_);show (_:Option (zTs))=some _
  rw[hv,abJ,ay e0,if_pos (by omega),if_pos (by rw[bF];omega),h1,abJ,aK e1]
  exact (congrArg (fun x=>Option.bind x fun r=>some r) h).trans rfl
 have ht:=alV k4 (gt a5 v zj).2.2.1 hb (by show _<_;omega) (by show _<_;omega)
 have hz:=TF (ops:=(gt a5 v zj).2.2.1) hb
 by_cases e2:(AU k4 (gt a5 v zj).2.2.1).2=200
 ·obtain⟨s1,hk,hg1⟩:=arp up (by omega) (c1,c2,c3,c4,c5,c6,c7) hc (gt a5 v zj).2.1 hb hd
  obtain⟨s',h,hg',_⟩:=TG hg1 (gt a5 v zj).1 (AU k4 (gt a5 v zj).2.2.1).2 hz
  refine⟨s',?_,hg'⟩
  refine dL rfl ((afv dd afw ..).trans ?_);show (_:Option (zTs))=some _
  rw[hv,abJ,ay e0,if_pos (by omega),if_pos (by rw[bF];omega),h1,abJ,aA e1]
  refine (congrArg (fun x=>Option.bind x _) ht).trans ?_
  rw[abJ]
  refine (aK e2).trans ?_
  refine (congrArg (fun x=>Option.bind x _) hk).trans ?_
  rw[abJ]
  exact (congrArg (fun x=>Option.bind x fun r=>some r) h).trans rfl
 ·obtain⟨s',h,hg',_⟩:=TG up (gt a5 v zj).1 (AU k4 (gt a5 v zj).2.2.1).2 hz
  refine⟨s',?_,hg'.le (by omega)⟩
  refine dL rfl ((afv dd afw ..).trans ?_);show (_:Option (zTs))=some _
  rw[hv,abJ,ay e0,if_pos (by omega),if_pos (by rw[bF];omega),h1,abJ,aA e1]
  refine (congrArg (fun x=>Option.bind x _) ht).trans ?_
  rw[abJ]
  refine (aA e2).trans ?_
  exact (congrArg (fun x=>Option.bind x fun r=>some r) h).trans rfl
theorem aiB(c:Cf)(at_:Int){n:Nat}(hn:n<=900):∀ (m i:Nat) (s:Ts),mQ n s->s.2.2.2.2.1.length=i+m->
  ∃ s',YQ (JX at_ i c.1 c.2.1 c.2.2.1 c.2.2.2.1 c.2.2.2.2.1 c.2.2.2.2.2.1 c.2.2.2.2.2.2 s.1 s.2.1 s.2.2.1 s.2.2.2.1 s.2.2.2.2.1 s.2.2.2.2.2.1 s.2.2.2.2.2.2.1 s.2.2.2.2.2.2.2 0 0 0 0)=some s'∧mQ n s'
 |0,i,s,hs,h=>⟨s,by refine eL ((Vu dd YQ ..).trans ?_);show (_:Option (zTs))=some _;rw[ay (by rw[bF];omega)],hs⟩
 |m+1,i,s,hs,h=>by
  have hj:=hs.jobs
  have hi:i<s.2.2.2.2.1.length:=by omega
  by_cases c1:wi (at_-(gt s.2.2.2.2.1 (i:Int) zj).2.2.2)≥c.2.2.2.2.2.2
  ·obtain⟨s1,h1,hg1,hj1⟩:=TG hs (gt s.2.2.2.2.1 (i:Int) zj).1 504 (d:=[]) Lu
   have hi1:i<s1.2.2.2.2.1.length:=by rw[hj1];exact hi
   have h2:=amf hi1 (by rw[hj1];omega)
   have hll:=zh hi1
   rw[hj1] at hll
   have up:mQ n (s1.1,s1.2.1,s1.2.2.1,s1.2.2.2.1,AX s1.2.2.2.2.1 i,s1.2.2.2.2.2.1,s1.2.2.2.2.2.2.1,s1.2.2.2.2.2.2.2):=
    ⟨by dsimp only;rw[hj1];omega,hg1.uO,hg1.asked,hg1.outs,hg1.next,fun j hx=>hg1.ops j (zi hx),hg1.fd,hg1.od⟩
   obtain⟨s',e,hg⟩:=aiB c at_ hn m i _ up (by dsimp only;rw[hj1];omega)
   refine⟨s',?_,hg⟩
   refine eL ((Vu dd YQ ..).trans ?_);show (_:Option (zTs))=some _
   rw[au (by rw[bF];omega),if_pos (by omega),if_pos (by rw[bF];omega)]
   refine (au c1).trans ?_
   rw[if_pos (by omega),if_pos (by rw[bF];omega)]
   refine (congrArg (fun x=>Option.bind x _) h1).trans ?_
   rw[abJ,h2,abJ]
   exact e
  ·obtain⟨s',e,hg⟩:=aiB c at_ hn m (i+1) s hs (by omega)
   refine⟨s',?_,hg⟩
   refine eL ((Vu dd YQ ..).trans ?_);show (_:Option (zTs))=some _
   rw[au (by rw[bF];omega),if_pos (by omega),if_pos (by rw[bF];omega)]
   refine (ay c1).trans ?_
   rw[bf (by omega)]
   exact e
theorem aru{s:Ts}{n:Nat}(hs:mQ n s)(hn:n<=900)(c:Cf)(hc:1<=c.2.2.1)(at_:Int):∃ s',aku dd (c,s,at_)=some s'∧mQ (n+1) s':=by
 have hL:=aiB c at_ hn
 obtain⟨a1,a2,a3,a4,a5,a6,a7,a8⟩:=s
 obtain⟨c1,c2,c3,c4,c5,c6,c7⟩:=c
 dsimp only at hL hc
 cases h0:iO at_ (wi (a1+1)) 9999 with
 |false=>exact⟨(a1,a2,a3,a4,a5,a6,a7,a8),by refine dL rfl ((ala dd YQ ..).trans ?_);rw[VE,abJ,h0];rfl,hs.le (by omega)⟩
 |true=>
  have up:∀ x y z:Int,mQ n (x,y,z,a4,a5,a6,a7,a8):=fun x y z=>⟨hs.jobs,hs.uO,hs.asked,hs.outs,hs.next,hs.ops,hs.fd,hs.od⟩
  obtain⟨s',e,hg⟩:=hL a5.length 0 _ (up at_ (if wi (a2+wi ((wi (at_-a3)).tdiv c3))<c2 then wi (a2+wi ((wi (at_-a3)).tdiv c3)) else c2) (wi (a3+wi (wi ((wi (at_-a3)).tdiv c3)*c3)))) (by dsimp only;omega)
  refine⟨s',?_,hg.le (by omega)⟩
  refine dL rfl ((ala dd YQ ..).trans ?_)
  rw[VE,abJ,h0,Bool.not_true,cond_false,if_pos (by omega)]
  exact e
structure ad6 (e:Evt):Prop where
 text:e.2.1.size<=300
 byt:fB e.2.2.2.1
 len:e.2.2.2.1.length<=300
theorem arv{s:Ts}{n:Nat}(hs:mQ n s)(hn:n<=900){c:Cf}(hc:ad1 c){e:Evt}(he:ad6 e):∃ s',akh dd (c,s,e)=some s'∧mQ (n+1) s':=by
 obtain⟨s1,h1,g1⟩:=arq hs hn c (t:=e.2.1) (by have:=he.text;omega)
 obtain⟨s2,h2,g2⟩:=ars hs hn c hc.2.2.2.2.2.1.1 e he.byt he.len
 obtain⟨s3,h3,g3⟩:=aru hs hn c hc.2.2.1.1 e.2.2.2.2
 obtain⟨a1,a2,a3,a4,a5,a6,a7,a8⟩:=s
 obtain⟨c1,c2,c3,c4,c5,c6,c7⟩:=c
 obtain⟨k1,k2,k3,k4,k5⟩:=e
 by_cases e1:k1=1
 ·exact⟨s1,by refine dL rfl ((acs dd acu ..).trans ?_);show (_:Option (zTs))=some _;rw[aK e1,h1,abJ],g1⟩
 by_cases e2:k1=2
 ·exact⟨s2,by refine dL rfl ((acs dd acu ..).trans ?_);show (_:Option (zTs))=some _;rw[aA e1,aK e2,h2,abJ],g2⟩
 by_cases e3:k1=3
 ·exact⟨s2,by refine dL rfl ((acs dd acu ..).trans ?_);show (_:Option (zTs))=some _;rw[aA e1,aA e2,aK e3,h2,abJ],g2⟩
 by_cases e4:k1=4
 ·exact⟨s3,by refine dL rfl ((acs dd acu ..).trans ?_);show (_:Option (zTs))=some _;rw[aA e1,aA e2,aA e3,aK e4,h3,abJ],g3⟩
 ·exact⟨(a1,a2,a3,a4,a5,a6,a7,a8),by refine dL rfl ((acs dd acu ..).trans ?_);show (_:Option (zTs))=some _;rw[aA e1,aA e2,aA e3,aA e4],hs.le (by omega)⟩
end T
end
