/- Plain laws: numbers, what is drawn, files. -/
import Derived.Test.YtmceeioelenigaaGreatDoorFb
import Derived.Test.YtmceeioelenigaaGreatDoorFc
import Derived.Test.YtmceeioelenigaaGreatDoorFd
section
namespace T
open Go Go.E Go.Proofs
def Dom(Qe:List (List Int))(s:List Int):Prop:=s=[]∨s∈Qe
instance (Qe:List (List Int)) (s:List Int):Decidable (Dom Qe s):=inferInstanceAs (Decidable (s=[]∨s∈Qe))
section
variable {O:bn} {aG:Nat} {Qe:List (List Int)} {code:List Int->Int} {nd:List Int->Nat} {mp:List Int->Option Nat}
end
end T
namespace T
open Go Go.E Go.Proofs
theorem aI{x:Int}(h0: -9223372036854775808<=x)(h1:x<=9223372036854775807):wi x=x:=by
 unfold wi IntKind.wrap
 simp only[IntKind.bits,IntKind.signed,Bool.true_and]
 split
 ·rename_i h;have:=of_decide_eq_true h;omega
 ·rename_i h;have:¬ (x%2^64≥2^(64-1)):=fun y=>h (decide_eq_true y);omega
theorem jy{x:Int}(h0:0<=x)(h1:x<256):wb x=x:=by
 unfold wb IntKind.wrap
 simp only[IntKind.bits,IntKind.signed,Bool.false_and,Bool.false_eq_true,if_false]
 omega
def adu(n:Nat):List (List Int):=(List.range n).map fun b:Nat=>[(b:Int)]
theorem J8{n:Nat}{s:List Int}:s∈adu n↔∃ b:Nat,b<n∧s=[(b:Int)]:=by
 unfold adu
 simp only[List.mem_map,List.mem_range]
 constructor
 ·rintro⟨b,h,e⟩;exact⟨b,h,e.symm⟩
 ·rintro⟨b,h,e⟩;exact⟨b,h,e.symm⟩
def nY(met:List (List Int)):List (List Int):=adu 256++met
def uy(met:List (List Int))(s:List Int):Int:=if s.length<=1 then (if s=[] then -1 else s.headD 0) else 257+(met.idxOf s:Int)
section
variable {l:List Int} {out:List Int}
end
def Ea(Qe:List (List Int))(rest:List Int):Nat->Nat->Nat
 |0,i=>i
 |k+1,i=>if rest.take (i+1)∈Qe then Ea Qe rest k (i+1) else i
theorem W9{Qe:List (List Int)}{rest:List Int}:∀ (k i:Nat),i+k=rest.length->Dom Qe (rest.take i)->Dom Qe (rest.take (Ea Qe rest k i))∧Ea Qe rest k i<=rest.length∧i<=Ea Qe rest k i∧(Ea Qe rest k i<rest.length->rest.take (Ea Qe rest k i+1)∉Qe)
 |0,i,h,hd=>⟨hd,by unfold Ea;omega,Nat.le_refl _,fun x=>by unfold Ea at x;omega⟩
 |k+1,i,h,hd=>by
  unfold Ea
  by_cases e:rest.take (i+1)∈Qe
  ·rw[if_pos e]
   obtain⟨h1,h2,h3,h4⟩:=W9 k (i+1) (by omega) (.inr e)
   exact⟨h1,h2,by omega,h4⟩
  ·rw[if_neg e]
   exact⟨hd,by omega,Nat.le_refl _,fun _=>e⟩
end T
namespace T
open Go Go.E Go.Proofs
def Lm:Nat->List (List Int)->List Int->List afb
 |0,_,_=>[]
 |f+1,met,rest=>if rest=[] then [] else
  (uy met (rest.take (Ea (nY met) rest rest.length 0)),9)::
   Lm f (if Ea (nY met) rest rest.length 0<rest.length∧met.length<255 then met++[rest.take (Ea (nY met) rest rest.length 0+1)] else met) (rest.drop (Ea (nY met) rest rest.length 0))
def fB(l:List Int):Prop:=∀ b∈l,0<=b∧b<256
end T
end
section
namespace T
open Go Go.E Go.Proofs
abbrev iF:=Int×Int×Int×Int
abbrev nS:=Int×Int×List iF
abbrev Op:=Int×Int×Int×Int×Int
theorem SS{α:Type}{p:Prop}[Decidable p]{a b:α}:(bif decide p then a else b)=if p then a else b:=by
 by_cases h:p<;>simp[h]
theorem au{α:Type}{p:Prop}[Decidable p]{a b:α}(h:p):(bif decide p then a else b)=a:=by simp[h]
theorem ay{α:Type}{p:Prop}[Decidable p]{a b:α}(h:¬ p):(bif decide p then a else b)=b:=by simp[h]
def iO(a lo hi:Int):Bool:=decide (lo<=a∧a<=hi)
theorem gQ{a lo hi:Int}:iO a lo hi=true↔lo<=a∧a<=hi:=by unfold iO;simp
theorem VE(a b c:Int):xw dd (a,b,c)=some (iO a b c):=by
 refine dL rfl ((b59 dd l59 ..).trans ?_);show (_:Option Bool)=some _;unfold iO
 by_cases h:b<=a<;>simp[h]
theorem D93(a b c:Int):Sl dd (a,b,c)=some (iO a b c):=by
 refine dL rfl ((b93 dd l93 ..).trans ?_);show (_:Option Bool)=some _;unfold iO
 by_cases h:b<=a<;>simp[h]
theorem ali(a:Int):Sm dd a=some (iO a 0 255):=by
 refine dL rfl ((anW dd anX ..).trans ?_);show (_:Option Bool)=some _;unfold iO
 by_cases h:0<=a<;>simp[h]
theorem adv(a:Int):Oo dd a=some (iO a 1 6):=by
 refine dL rfl ((aov dd aow ..).trans ?_);show (_:Option Bool)=some _;unfold iO
 by_cases h:1<=a<;>simp[h]
def fZ(p:iF):Bool:=iO p.1 0 255&&(iO p.2.1 0 255&&(iO p.2.2.1 0 255&&iO p.2.2.2 0 255))
theorem D60(p:iF):r60 dd p=some (fZ p):=by
 obtain⟨a,b,c,e⟩:=p
 refine dL rfl ((b60 dd l60 ..).trans ?_);unfold fZ
 simp only[ali,abJ]
 cases iO a 0 255<;>cases iO b 0 255<;>cases iO c 0 255<;>rfl
theorem ap8(p:iF):akq dd p=some (fZ p):=by
 obtain⟨a,b,c,e⟩:=p
 refine dL rfl ((aoS dd aoT ..).trans ?_);unfold fZ
 simp only[VE,abJ]
 cases iO a 0 255<;>cases iO b 0 255<;>cases iO c 0 255<;>rfl
def AP(r:nS):Bool:=iO r.1 1 6&&(iO r.2.1 1 6&&(decide (ln r.2.2=r.1*r.2.1)&&r.2.2.all fZ))
theorem gB{α:Type}{l:List α}{i:Nat}{z:α}(h:i<l.length):gt l (i:Int) z=l[i]:=by
 show l.getD ((i:Int).toNat) z=_
 rw[aeg,List.getD_eq_getElem?_getD,List.getElem?_eq_getElem h];rfl
theorem eG{α:Type}{l:List α}{i:Nat}{z:α}(h:i<l.length):l.drop i=gt l (i:Int) z::l.drop (i+1):=by
 rw[gB h,List.drop_eq_getElem_cons h]
theorem bf{i:Nat}(h:i<1000000000000000000):wi ((i:Int)+1)=((i+1:Nat):Int):=by
 rw[aI (by omega) (by omega)];omega
section loops
abbrev Sh{α:Type}(l:List α):Prop:=l.length<1000000000000000000
theorem alj(l:List iF)(hl:Sh l)(w h:Int):∀ (k i:Nat),i+k=l.length->afn (OZ i w h l)=some ((l.drop i).all fZ)
 |0,i,h=>by
  refine eL ((aco dd afn ..).trans ?_);show (_:Option Bool)=some _
  rw[ay (by show ¬ (i:Int)<(l.length:Int);omega),List.drop_eq_nil_of_le (by omega)];rfl
 |k+1,i,h'=>by
  have hi:i<l.length:=by omega
  refine eL ((aco dd afn ..).trans ?_);show (_:Option Bool)=some _
  rw[au (by show (i:Int)<(l.length:Int);omega),if_pos (by omega),if_pos (by show (i:Int)<(l.length:Int);omega),ap8,abJ,eG (z:=(0,0,0,0)) hi,bf (by have:=hl;omega),alj l hl w h k (i+1) (by omega)]
  cases hp:fZ (gt l (i:Int) (0,0,0,0))<;>simp[hp]
theorem afE(r:nS)(hl:Sh r.2.2):U9 dd r=some (AP r):=by
 obtain⟨w,h,l⟩:=r
 refine dL rfl ((aor dd afn ..).trans ?_);show (_:Option Bool)=some _;unfold AP
 simp only[VE,abJ]
 cases hw:iO w 1 6 with
 |false=>rfl
 |true=>
  cases hh:iO h 1 6 with
  |false=>rfl
  |true=>
   rw[gQ] at hw hh
   have hb:0<=w*h∧w*h<=36:=by
    obtain⟨a,b⟩:=hw;obtain⟨c,d⟩:=hh
    refine⟨Int.mul_nonneg (by omega) (by omega),?_⟩
    have:=Int.mul_le_mul b d (by omega) (by omega)
    omega
   rw[aI (by omega) (by omega)]
   have:=alj l hl w h l.length 0 (by omega)
   by_cases e:ln l=w*h
   ·simp only[Bool.not_true,cond_false,e,bne_self_eq_false]
    exact this.trans (by simp)
   ·have e':(ln l !=w*h)=true:=bne_iff_ne.2 e
    simp only[Bool.not_true,cond_false,e',cond_true,e,decide_false,Bool.false_and,Bool.and_false]
def qA:Op->Bool:=fun (k,a,b,c,e)=>
 if k=1 then iO a 0 5&&(iO b 0 5&&(iO c 1 6&&iO e 1 6))
 else if k=7 then iO a 1 6&&(iO b 1 6&&(c==0&&e==0))
 else if k=8 then iO a 0 255&&(iO b 0 255&&(iO c 0 255&&e==0))
 else iO k 2 6&&(a==0&&(b==0&&(c==0&&e==0)))
theorem alk(o:Op):ahK dd o=some (qA o):=by
 obtain⟨k,a,b,c,e⟩:=o
 refine dL rfl ((anU dd anV ..).trans ?_);unfold qA
 simp only[VE,abJ]
 by_cases h1:k=1
 ·simp only[h1,beq_self_eq_true,cond_true,if_true]
  cases iO a 0 5<;>cases iO b 0 5<;>cases iO c 1 6<;>rfl
 ·by_cases h7:k=7
  ·simp only[h7,beq_self_eq_true,cond_true,if_true,show ((7:Int)==1)=false by decide,cond_false,show ¬ (7:Int)=1 by decide,if_false]
   cases iO a 1 6<;>cases iO b 1 6<;>cases c==0<;>rfl
  ·by_cases h8:k=8
   ·simp only[h8,beq_self_eq_true,cond_true,if_true,show ((8:Int)==1)=false by decide,show ((8:Int)==7)=false by decide,cond_false,show ¬ (8:Int)=1 by decide,show ¬ (8:Int)=7 by decide,if_false]
    cases iO a 0 255<;>cases iO b 0 255<;>cases iO c 0 255<;>rfl
   ·simp only[show (k==1)=false by simpa using h1,show (k==7)=false by simpa using h7,show (k==8)=false by simpa using h8,cond_false,h1,h7,h8,if_false]
    cases iO k 2 6<;>cases a==0<;>cases b==0<;>cases c==0<;>rfl
theorem ap9(o:Op):aj8 dd o=some (qA o):=by
 obtain⟨k,a,b,c,e⟩:=o
 refine dL rfl ((aoc dd aod ..).trans ?_);unfold qA
 simp only[D93,ali,adv,abJ,beq_self_eq_true,Bool.true_and,Bool.and_true]
 by_cases h1:k=1
 ·simp only[h1,beq_self_eq_true,cond_true,if_true]
  cases iO a 0 5<;>cases iO b 0 5<;>cases iO c 1 6<;>rfl
 ·simp only[show (k==1)=false by simpa using h1,cond_false,h1,if_false]
  by_cases h2:k=2
  ·subst h2;rfl
  by_cases h3:k=3
  ·subst h3;rfl
  by_cases h4:k=4
  ·subst h4;rfl
  by_cases h5:k=5
  ·subst h5;rfl
  by_cases h6:k=6
  ·subst h6;rfl
  simp only[show (k==2)=false by simpa using h2,show (k==3)=false by simpa using h3,show (k==4)=false by simpa using h4,show (k==5)=false by simpa using h5,show (k==6)=false by simpa using h6,cond_false]
  by_cases h7:k=7
  ·subst h7
   simp only[beq_self_eq_true,cond_true,if_true]
   cases iO a 1 6<;>cases iO b 1 6<;>cases c==0<;>rfl
  ·simp only[show (k==7)=false by simpa using h7,cond_false,h7,if_false]
   by_cases h8:k=8
   ·subst h8
    simp only[beq_self_eq_true,cond_true,if_true]
    cases iO a 0 255<;>cases iO b 0 255<;>cases iO c 0 255<;>rfl
   ·simp only[show (k==8)=false by simpa using h8,cond_false,h8,if_false]
    have:iO k 2 6=false:=by
     cases hk:iO k 2 6 with
     |false=>rfl
     |true=>rw[gQ] at hk;omega
    rw[this];rfl
theorem L91(l:List Op)(hl:Sh l):∀ (k i:Nat),i+k=l.length->l91 (WX l (ln l) i)=some ((l.drop i).all qA)
 |0,i,h=>by
  refine eL ((agz dd l91 ..).trans ?_);show (_:Option Bool)=some _
  rw[ay (by show ¬ (i:Int)<(l.length:Int);omega),List.drop_eq_nil_of_le (by omega)];rfl
 |k+1,i,h=>by
  have hi:i<l.length:=by omega
  refine eL ((agz dd l91 ..).trans ?_);show (_:Option Bool)=some _
  rw[au (by show (i:Int)<(l.length:Int);omega),if_pos (by omega),if_pos (by show (i:Int)<(l.length:Int);omega),ap9,abJ,eG (z:=(0,0,0,0,0)) hi,bf (by have:=hl;omega),L91 l hl k (i+1) (by omega)]
  cases hp:qA (gt l (i:Int) (0,0,0,0,0))<;>simp[hp]
theorem L57(l:List Op)(hl:Sh l):∀ (k i:Nat),i+k=l.length->l57 (WT l i)=some ((l.drop i).all qA&&decide (l.length<=5))
 |0,i,h=>by
  refine eL ((ags dd l57 ..).trans ?_);show (_:Option Bool)=some _
  rw[ay (by show ¬ (i:Int)<(l.length:Int);omega),List.drop_eq_nil_of_le (by omega)]
  have:((l.length:Int)<=5)↔l.length<=5:=by omega
  simp[ln,this]
 |k+1,i,h=>by
  have hi:i<l.length:=by omega
  refine eL ((ags dd l57 ..).trans ?_);show (_:Option Bool)=some _
  rw[au (by show (i:Int)<(l.length:Int);omega),if_pos (by omega),if_pos (by show (i:Int)<(l.length:Int);omega),alk,abJ,eG (z:=(0,0,0,0,0)) hi,bf (by have:=hl;omega),L57 l hl k (i+1) (by omega)]
  cases hp:qA (gt l (i:Int) (0,0,0,0,0))<;>simp[hp]
def nT(l:List Op):Bool:=decide (l.length<=5)&&l.all qA
theorem D91(l:List Op)(hl:Sh l):r91 dd l=some (nT l):=by
 refine dL rfl ((b91 dd l91 ..).trans ?_);show (_:Option Bool)=some _;unfold nT
 by_cases h:l.length<=5
 ·rw[ay (by show ¬ (l.length:Int)>5;omega)]
  have:=L91 l hl l.length 0 (by omega)
  exact this.trans (by simp[h])
 ·rw[au (by show (l.length:Int)>5;omega)];simp[h]
theorem D57(l:List Op)(hl:Sh l):r57 dd l=some (nT l):=by
 refine dL rfl ((b57 dd l57 ..).trans ?_);show (_:Option Bool)=some _;unfold nT
 have:=L57 l hl l.length 0 (by omega)
 exact this.trans (by simp[Bool.and_comm])
end loops
end T
end
section
namespace T
open Go Go.E Go.Proofs
theorem tm{a b:Int}(h:0<=a):a.tmod b=a%b:=Int.tmod_eq_emod_of_nonneg h
theorem td{a b:Int}(h:0<=a):a.tdiv b=a/b:=Int.tdiv_eq_ediv_of_nonneg h
theorem fd{a b:Int}(h:0<=b):a.fdiv b=a/b:=Int.fdiv_eq_ediv_of_nonneg a h
theorem bF{α:Type}(l:List α):ln l=(l.length:Int):=rfl
theorem iw{l:List Int}(h:fB l)(i:Int):0<=gt l i 0∧gt l i 0<256:=by
 unfold gt
 rw[List.getD_eq_getElem?_getD]
 cases e:l[i.toNat]? with
 |none=>exact⟨by decide,by decide⟩
 |some b=>exact h b (List.mem_of_getElem? e)
theorem iU{l:List Int}(h:fB l)(i:Nat):0<=l.getD i 0∧l.getD i 0<256:=by
 have:=iw h i
 unfold gt at this
 rwa [aeg] at this
theorem bV{b:Int}{l:List Int}:fB (b::l)↔(0<=b∧b<256)∧fB l:=by
 unfold fB;simp
theorem mg{l m:List Int}:fB (l++m)↔fB l∧fB m:=by
 unfold fB
 constructor
 ·intro h;exact⟨fun b hb=>h b (adh.2 (.inl hb)),fun b hb=>h b (adh.2 (.inr hb))⟩
 ·intro ⟨h,k⟩ b hb
  rcases adh.1 hb with x|x
  ·exact h b x
  ·exact k b x
theorem iC:fB []:=fun _ h=>by cases h
theorem jY{l:List Int}(h:fB l)(n:Nat):fB (l.take n):=fun b hb=>h b (List.mem_of_mem_take hb)
theorem iV{l:List Int}(h:fB l)(n:Nat):fB (l.drop n):=fun b hb=>h b (List.mem_of_mem_drop hb)
theorem oL{x:Int}(h:0<=x∧x<256):wi x=x:=aI (by omega) (by omega)
def xA:List Int->Int->Int->Int
 |[],a,b=>b*65536+a
 |v::l,a,b=>xA l ((a+v)%65521) ((b+(a+v)%65521)%65521)
def sumP(l:List Int):Int:=xA l 1 0
theorem SV:∀ (l:List Int) (a b:Int),fB l->0<=a->a<65521->0<=b->b<65521->0<=xA l a b∧xA l a b<4294967296
 |[],a,b,_,h1,h2,h3,h4=>by unfold xA;omega
 |v::l,a,b,h,h1,h2,h3,h4=>by
  unfold xA
  exact SV l _ _ (bV.1 h).2 (by omega) (by omega) (by omega) (by omega)
theorem H9{l:List Int}(h:fB l):0<=sumP l∧sumP l<4294967296:=SV l 1 0 h (by decide) (by decide) (by decide) (by decide)
theorem alm(l:List Int)(hl:Sh l)(hb:fB l):∀ (k i:Nat) (a b:Int),i+k=l.length->0<=a->a<65521->0<=b->b<65521->afz (PE a b l (ln l) i)=some (xA (l.drop i) a b)
 |0,i,a,b,h,h1,h2,h3,h4=>by
  refine eL ((acR dd afz ..).trans ?_);show (_:Option Int)=some _
  have hln:=bF l
  rw[List.drop_eq_nil_of_le (by omega)]
  simp (disch:=omega) only[ay,aI,xA]
 |k+1,i,a,b,h,h1,h2,h3,h4=>by
  have hi:i<l.length:=by omega
  have hln:=bF l
  have hg:=iw hb (i:Int)
  refine eL ((acR dd afz ..).trans ?_);show (_:Option Int)=some _
  rw[eG (z:=0) hi]
  simp (disch:=omega) only[au,if_pos,aI,tm,xA]
  exact alm l hl hb k (i+1) _ _ (by omega) (by omega) (by omega) (by omega) (by omega)
theorem aln(l:List Int)(hl:Sh l)(hb:fB l):∀ (k i:Nat) (a b:Int),i+k=l.length->0<=a->a<65521->0<=b->b<65521->afu (Pm l a b i)=some (xA (l.drop i) a b)
 |0,i,a,b,h,h1,h2,h3,h4=>by
  refine eL ((acN dd afu ..).trans ?_);show (_:Option Int)=some _
  have hln:=bF l
  rw[List.drop_eq_nil_of_le (by omega)]
  simp (disch:=omega) only[ay,aI,xA]
 |k+1,i,a,b,h,h1,h2,h3,h4=>by
  have hi:i<l.length:=by omega
  have hln:=bF l
  have hg:=iw hb (i:Int)
  refine eL ((acN dd afu ..).trans ?_);show (_:Option Int)=some _
  rw[eG (z:=0) hi]
  simp (disch:=omega) only[au,if_pos,aI,tm,xA]
  exact aln l hl hb k (i+1) _ _ (by omega) (by omega) (by omega) (by omega) (by omega)
theorem aqa(l:List Int)(hl:Sh l)(hb:fB l):akC dd l=some (sumP l):=by
 refine dL rfl ((apg dd afz ..).trans ?_)
 exact alm l hl hb l.length 0 1 0 (by omega) (by decide) (by decide) (by decide) (by decide)
theorem aqb(l:List Int)(hl:Sh l)(hb:fB l):akp dd l=some (sumP l):=by
 refine dL rfl ((aoR dd afu ..).trans ?_)
 exact aln l hl hb l.length 0 1 0 (by omega) (by decide) (by decide) (by decide) (by decide)
def DK(n:Int):List Int:=[n/16777216,n/65536%256,n/256%256,n%256]
theorem aqc(l:List Int)(hl:Sh l)(hb:fB l):Va dd l=some (sumP l/16777216,sumP l/65536%256,sumP l/256%256,sumP l%256):=by
 refine dL rfl ((aoY dd aoZ ..).trans ?_)
 rw[aqa l hl hb,abJ]
 have:=H9 hb
 generalize sumP l=n at*
 have e:∀ x:Int,0<=x->wb x=x%256:=fun x hx=>by
  unfold wb IntKind.wrap
  simp only[IntKind.bits,IntKind.signed,Bool.false_and,Bool.false_eq_true,if_false]
  omega
 simp (disch:=omega) only[fd,e]
 congr 2
 omega
theorem alo(l:List Int)(hl:Sh l)(hb:fB l):YH dd l=some (DK (sumP l)):=by
 refine dL rfl ((aoo dd aoq ..).trans ?_);show (_:Option (List Int))=some _;unfold DK
 rw[aqb l hl hb,abJ]
 have:=H9 hb
 generalize sumP l=n at*
 simp (disch:=omega) only[td,aI,tm,jy]
end T
end
section
namespace T
open Go Go.E Go.Proofs
theorem aK{α:Type}{a b:Int}{x y:α}(h:a=b):(bif a==b then x else y)=x:=by rw[h,beq_self_eq_true];rfl
theorem aA{α:Type}{a b:Int}{x y:α}(h:¬ a=b):(bif a==b then x else y)=y:=by rw[beq_eq_false_iff_ne.2 h];rfl
theorem mD{α:Type}{a b:Int}{x y:α}(h:¬ a=b):(bif a !=b then x else y)=x:=by rw[bne_iff_ne.2 h];rfl
theorem iM{α:Type}{a b:Int}{x y:α}(h:a=b):(bif a !=b then x else y)=y:=by rw[h,bne_self_eq_false];rfl
def Rd(k:Int)(s:List Int×Int):Prop:=fB s.1∧s.1.length<=2000∧0<=s.2∧s.2<=k
theorem Rd.le{k k':Int}{s:List Int×Int}(h:Rd k s)(hk:k<=k'):Rd k' s:=⟨h.1,h.2.1,h.2.2.1,by have:=h.2.2.2;omega⟩
theorem aie(x y:Int)(h1:0<=x)(h2:x<4611686018427387904)(h3:0<=y)(h4:y<4611686018427387904):0<=wi (↑(BitVec.ofInt IntKind.i64.bits x^^^BitVec.ofInt IntKind.i64.bits y).toNat:Int):=by
 have e:∀ x:Int,0<=x->x<4611686018427387904->(BitVec.ofInt IntKind.i64.bits x).toNat<2^62:=fun x h h'=>by
  rw[BitVec.toNat_ofInt]
  show (x%((2^64:Nat):Int)).toNat<_
  omega
 have:=Nat.xor_lt_two_pow (e x h1 h2) (e y h3 h4)
 rw[<- BitVec.toNat_xor] at this
 rw[aI (by omega) (by omega)]
 omega
def VF(b:List Int)(p:Int):Int:=gt b (p%ln b) 0*131+gt b ((p*7+3)%ln b) 0*1117+p*29+p/ln b*53
def aif(b:List Int)(p:Int):Int:=wi (↑(BitVec.ofInt IntKind.i64.bits (VF b p)^^^BitVec.ofInt IntKind.i64.bits (VF b p/64)).toNat:Int)
theorem lg{k:Int}{s:List Int×Int}(n:Int)(hs:Rd k s)(hk:k<=1000000000)(hn:n<=1000000000):∃ v s',iZ dd (s,n)=some (v,s')∧0<=v∧(1<=n->v<n)∧Rd (k+1) s':=by
 obtain⟨b,p⟩:=s
 obtain⟨hb,hl,h0,h1⟩:=hs
 have h0:0<=p:=h0
 have hb:fB b:=hb
 have h1:p<=k:=h1
 have hl:b.length<=2000:=hl
 have hln:=bF b
 have hr:Rd (k+1) (b,p+1):=⟨hb,hl,by show 0<=p+1;omega,by show p+1<=k+1;omega⟩
 by_cases c1:n<1
 ·refine⟨0,_,?_,by omega,by omega,hr⟩
  refine dL rfl ((b89 dd l89 ..).trans ?_);show (_:Option ahk)=some _
  rw[au c1,aI (by omega) (by omega)]
 have w2:wi (p+1)=p+1:=aI (by omega) (by omega)
 have w1:wi (wi (p+1)-1)=p:=by rw[w2,aI (by omega) (by omega)];omega
 by_cases c2:b.length=0
 ·refine⟨0,_,?_,by omega,by omega,hr⟩
  refine dL rfl ((b89 dd l89 ..).trans ?_);show (_:Option ahk)=some _
  rw[ay c1,aK (by omega),w2]
 by_cases c3:p<b.length
 ·have hg:=iw hb p
  refine⟨gt b p 0%n,_,?_,Int.emod_nonneg _ (by omega),fun _=>Int.emod_lt_of_pos _ (by omega),hr⟩
  refine dL rfl ((b89 dd l89 ..).trans ?_);show (_:Option ahk)=some _
  rw[ay c1,aA (by omega),w1,w2,au (by omega)]
  simp (disch:=omega) only[aI,if_pos,tm]
 ·have m1:=Int.emod_nonneg p (b:=ln b) (by omega)
  have m2:=Int.emod_lt_of_pos p (b:=ln b) (by omega)
  have m3:=Int.emod_nonneg (p*7+3) (b:=ln b) (by omega)
  have m4:=Int.emod_lt_of_pos (p*7+3) (b:=ln b) (by omega)
  have m5:=Int.ediv_nonneg (a:=p) (b:=ln b) (by omega) (by omega)
  have m6:=Int.ediv_le_self (b:=ln b) h0
  have g1:=iw hb (p%ln b)
  have g2:=iw hb ((p*7+3)%ln b)
  have hx:0<=VF b p∧VF b p<1000000000000:=by unfold VF;omega
  have hm:0<=aif b p:=aie _ _ (by omega) (by omega) (by omega) (by omega)
  refine⟨(aif b p).tmod n,_,?_,Int.tmod_nonneg _ hm,fun _=> ?_,hr⟩
  ·refine dL rfl ((b89 dd l89 ..).trans ?_);show (_:Option ahk)=some _
   rw[ay c1,aA (by omega),w1,w2,ay (by omega),aI (x:=p*7) (by omega) (by omega),aI (x:=p*7+3) (by omega) (by omega),tm (a:=p) (by omega),tm (a:=p*7+3) (by omega),td (a:=p) (by omega)]
   simp (disch:=omega) only[↓if_pos]
   unfold aif VF
   unfold VF at hx
   simp (disch:=omega) only[aI,td]
  ·rw[tm hm]
   exact Int.emod_lt_of_pos _ (by omega)
theorem SX{k:Int}{s:List Int×Int}(n:Int)(hs:Rd k s)(hk:k<=1000000000)(hn:n<=1000000000):∃ v s',KZ dd (s,n)=some (v,s')∧Rd (k+1) s'∧(n<=0->v=false):=by
 obtain⟨b,p⟩:=s
 by_cases c:n>0
 ·obtain⟨v,s',h1,h2,h3,h4⟩:=lg n hs hk hn
  refine⟨v==wi (n-1),s',?_,h4,by omega⟩
  refine dL rfl ((ak3 dd ak4 ..).trans ?_);show (_:Option (Bool×List Int×Int))=some _
  rw[au c,h1];rfl
 ·refine⟨false,_,?_,hs.le (by omega),fun _=>rfl⟩
  refine dL rfl ((ak3 dd ak4 ..).trans ?_);show (_:Option (Bool×List Int×Int))=some _
  simp (disch:=omega) only[ay]
end T
end
section
namespace T
open Go Go.E Go.Proofs
theorem oM(x:Int):0<=wb x∧wb x<256:=by
 unfold wb IntKind.wrap
 simp only[IntKind.bits,IntKind.signed,Bool.false_and,Bool.false_eq_true,if_false]
 omega
theorem L50:∀ (j:Nat) (b:List Int) (p k:Int) (l:List Int),Rd k (b,p)->k+3*j<=1000000000->fB l->l.length+j<=1000->∃ l' s',l50 (WR j b p l)=some (l',s')∧fB l'∧l'.length=l.length+j∧Rd (k+3*j) s'
 |0,b,p,k,l,hs,hk,hb,hl=>by
  refine⟨l,(b,p),?_,hb,rfl,hs.le (by omega)⟩
  refine eL ((agq dd l50 ..).trans ?_);show (_:Option agB)=some _
  rw[ay (by omega)]
 |j+1,b,p,k,l,hs,hk,hb,hl=>by
  obtain⟨v1,s1,h1,_,_,r1⟩:=lg 256 hs (by omega) (by omega)
  obtain⟨v2,s2,h2,_,_,r2⟩:=lg 4 r1 (by omega) (by omega)
  obtain⟨v3,s3,h3,g1,g2,r3⟩:=lg 3 r2 (by omega) (by omega)
  have g2:=g2 (by omega)
  obtain⟨b3,p3⟩:=s3
  obtain⟨l',s',i1,i2,i3,i4⟩:=L50 j b3 p3 _ (l++[wb (gt [v1,v2,255] v3 0)]) r3 (by omega) (mg.2 ⟨hb,bV.2 ⟨oM _,iC⟩⟩) (by simp;omega)
  refine⟨l',s',?_,i2,by rw[i3];simp;omega,i4.le (by omega)⟩
  refine eL ((agq dd l50 ..).trans ?_);show (_:Option agB)=some _
  rw[au (by omega),h1,abJ,h2,abJ,h3,abJ,if_pos g1,if_pos g2,if_pos (by omega),aI (by omega) (by omega),show ((j+1:Nat):Int)-1=(j:Int) by omega]
  exact i1
theorem D50{k:Int}{s:List Int×Int}(n:Nat)(hs:Rd k s)(hk:k<=900000000)(hn:n<=100):∃ l s',r50 dd (s,n)=some (l,s')∧fB l∧l.length<=n∧Rd (k+301) s':=by
 obtain⟨v,s1,h1,g1,g2,r1⟩:=lg ((n:Int)+1) hs (by omega) (by omega)
 have g2:=g2 (by omega)
 obtain⟨b,p⟩:=s
 obtain⟨b1,p1⟩:=s1
 obtain⟨l',s',i1,i2,i3,i4⟩:=L50 v.toNat b1 p1 _ [] r1 (by omega) iC (by simp;omega)
 refine⟨l',s',?_,i2,by rw[i3];simp;omega,i4.le (by omega)⟩
 refine dL rfl ((b50 dd l50 ..).trans ?_)
 rw[aI (by omega) (by omega),h1,abJ]
 rw[Int.toNat_of_nonneg g1] at i1
 exact i1
theorem gt4{a b c d v:Int}(h0:0<=v)(h1:v<4):gt [a,b,c,d] v 0=a∨gt [a,b,c,d] v 0=b∨gt [a,b,c,d] v 0=c∨gt [a,b,c,d] v 0=d:=by
 have:v=0∨v=1∨v=2∨v=3:=by omega
 rcases this with rfl|rfl|rfl|rfl
 ·exact .inl rfl
 ·exact .inr (.inl rfl)
 ·exact .inr (.inr (.inl rfl))
 ·exact .inr (.inr (.inr rfl))
theorem gt3{a b c v:Int}(h0:0<=v)(h1:v<3):gt [a,b,c] v 0=a∨gt [a,b,c] v 0=b∨gt [a,b,c] v 0=c:=by
 have:v=0∨v=1∨v=2:=by omega
 rcases this with rfl|rfl|rfl
 ·exact .inl rfl
 ·exact .inr (.inl rfl)
 ·exact .inr (.inr rfl)
theorem gt2{a b v:Int}(h0:0<=v)(h1:v<2):gt [a,b] v 0=a∨gt [a,b] v 0=b:=by
 have:v=0∨v=1:=by omega
 rcases this with rfl|rfl
 ·exact .inl rfl
 ·exact .inr rfl
def kindOk(k:Int):Prop:=k=68∨k=85∨k=82∨k=80
theorem aqd{k:Int}{s:List Int×Int}(hs:Rd k s)(hk:k<=900000000):∃ v s',akj dd s=some (v,s')∧kindOk v∧Rd (k+1) s':=by
 obtain⟨v,s1,h1,g1,g2,r1⟩:=lg 4 hs (by omega) (by omega)
 have g2:=g2 (by omega)
 obtain⟨b,p⟩:=s
 refine⟨gt [68,85,82,80] v 0,s1,?_,gt4 g1 g2,r1⟩
 refine dL rfl ((aoA dd aoB ..).trans ?_);show (_:Option ahk)=some _
 rw[h1,abJ,if_pos g1,if_pos g2]
theorem alp{k:Int}{s:List Int×Int}(hs:Rd k s)(hk:k<=900000000):∃ v s',ahS dd s=some (v,s')∧fZ v=true∧Rd (k+8) s':=by
 obtain⟨v1,s1,h1,a1,b1,r1⟩:=lg 256 hs (by omega) (by omega)
 obtain⟨v2,s2,h2,a2,b2,r2⟩:=lg 3 r1 (by omega) (by omega)
 obtain⟨v3,s3,h3,a3,b3,r3⟩:=lg 256 r2 (by omega) (by omega)
 obtain⟨v4,s4,h4,a4,b4,r4⟩:=lg 2 r3 (by omega) (by omega)
 obtain⟨v5,s5,h5,a5,b5,r5⟩:=lg 256 r4 (by omega) (by omega)
 obtain⟨v6,s6,h6,a6,b6,r6⟩:=lg 2 r5 (by omega) (by omega)
 obtain⟨v7,s7,h7,a7,b7,r7⟩:=lg 256 r6 (by omega) (by omega)
 obtain⟨v8,UU,h8,a8,YR,YJ⟩:=lg 4 r7 (by omega) (by omega)
 have b1:=b1 (by omega);have b2:=b2 (by omega);have b3:=b3 (by omega);have b4:=b4 (by omega)
 have b5:=b5 (by omega);have b6:=b6 (by omega);have b7:=b7 (by omega);have YR:=YR (by omega)
 have n1:=gt3 (a:=0) (b:=255) (c:=v1) a2 b2
 have n2:=gt2 (a:=gt [0,255,v1] v2 0) (b:=v3) a4 b4
 have n3:=gt2 (a:=gt [0,255,v1] v2 0) (b:=v5) a6 b6
 have n4:=gt4 (a:=255) (b:=255) (c:=0) (d:=v7) a8 YR
 obtain⟨b,p⟩:=s
 refine⟨(gt [0,255,v1] v2 0,gt [gt [0,255,v1] v2 0,v3] v4 0,gt [gt [0,255,v1] v2 0,v5] v6 0,gt [255,255,0,v7] v8 0),UU,?_,?_,YJ.le (by omega)⟩
 ·refine dL rfl ((ao4 dd ao5 ..).trans ?_);show (_:Option (I4×List Int×Int))=some _
  rw[h1,abJ,h2,abJ,if_pos a2,if_pos b2,h3,abJ,h4,abJ,if_pos a4,if_pos b4,h5,abJ,h6,abJ,if_pos a6,if_pos b6,h7,abJ,h8,abJ,if_pos a8,if_pos YR]
 ·unfold fZ
  simp only[Bool.and_eq_true,gQ]
  omega
end T
end
section
namespace T
open Go Go.E Go.Proofs
theorem SY{α:Type}{l:List α}{x:α}{f:α->Bool}(h:l.all f=true)(hx:f x=true):(l++[x]).all f=true:=by
 rw[List.all_append,h];simp[hx]
theorem aii(w h:Int)(N:Nat)(hN:w*h=N)(hN2:N<=36):∀ (j i:Nat) (b:List Int) (p k:Int) (l:List iF) (x:iF),i+j=N->Rd k (b,p)->k+9*j<=900000000->l.length=i->l.all fZ=true->fZ x=true->
  ∃ l' s',acB (JV 0 i b p 0 0 w h l x.1 x.2.1 x.2.2.1 x.2.2.2)=some ((w,h,l'),s')∧l'.length=N∧l'.all fZ=true∧Rd (k+9*j+1) s'
 |0,i,b,p,k,l,x,hi,hs,hk,hl,ha,hx=>by
  obtain⟨v,s1,h1,r1,hv⟩:=SX 0 hs (by omega) (by omega)
  have hv:=hv (by omega)
  subst hv
  refine⟨l,s1,?_,by omega,ha,r1.le (by omega)⟩
  refine eL ((Vq dd acB ..).trans ?_)
  rw[hN,aI (x:=(N:Int)) (by omega) (by omega),ay (by omega),h1,abJ]
  rfl
 |j+1,i,b,p,k,l,x,hi,hs,hk,hl,ha,hx=>by
  obtain⟨v1,s1,h1,a1,b1,r1⟩:=lg 3 hs (by omega) (by omega)
  have hc:(l.length+1)*32<=140737488355328:=by omega
  have hw:wi (w*h)=N:=by rw[hN];exact aI (by omega) (by omega)
  have hi1:wi ((i:Int)+1)=((i+1:Nat):Int):=bf (by omega)
  by_cases c:v1>0
  ·obtain⟨y,s2,h2,py,r2⟩:=alp r1 (by omega)
   obtain⟨b2,p2⟩:=s2
   obtain⟨l',s',i1,i2,i3,i4⟩:=aii w h N hN hN2 j (i+1) b2 p2 _ (l++[y]) y (by omega) r2 (by omega) (by simp;omega) (SY ha py) py
   refine⟨l',s',?_,i2,i3,i4.le (by omega)⟩
   refine eL ((Vq dd acB ..).trans ?_)
   rw[hw,au (by omega),h1,abJ,au c,h2,abJ,if_pos hc,hi1]
   exact i1
  ·obtain⟨b1,p1⟩:=s1
   obtain⟨l',s',i1,i2,i3,i4⟩:=aii w h N hN hN2 j (i+1) b1 p1 _ (l++[x]) x (by omega) r1 (by omega) (by simp;omega) (SY ha hx) hx
   refine⟨l',s',?_,i2,i3,i4.le (by omega)⟩
   refine eL ((Vq dd acB ..).trans ?_)
   rw[hw,au (by omega),h1,abJ,ay c,if_pos hc,hi1]
   exact i1
theorem aqe{k:Int}{s:List Int×Int}(hs:Rd k s)(hk:k<=800000000):∃ r s',ahN dd (s,0)=some (r,s')∧AP r=true∧Rd (k+335) s':=by
 obtain⟨v1,s1,h1,a1,b1,r1⟩:=lg 6 hs (by omega) (by omega)
 obtain⟨v2,s2,h2,a2,b2,r2⟩:=lg 6 r1 (by omega) (by omega)
 obtain⟨y,s3,h3,py,r3⟩:=alp r2 (by omega)
 have b1:=b1 (by omega);have b2:=b2 (by omega)
 obtain⟨b,p⟩:=s
 obtain⟨b3,p3⟩:=s3
 have hm:0<=(1+v1)*(1+v2)∧(1+v1)*(1+v2)<=36:=by
  refine⟨Int.mul_nonneg (by omega) (by omega),?_⟩
  have:=Int.mul_le_mul (show 1+v1<=6 by omega) (show 1+v2<=6 by omega) (by omega) (by omega)
  omega
 obtain⟨l',s',i1,i2,i3,i4⟩:=aii (1+v1) (1+v2) ((1+v1)*(1+v2)).toNat (by omega) (by omega) ((1+v1)*(1+v2)).toNat 0 b3 p3 _ [] y (by omega) r3 (by omega) rfl rfl py
 refine⟨(1+v1,1+v2,l'),s',?_,?_,i4.le (by omega)⟩
 ·refine dL rfl ((aoC dd acB ..).trans ?_)
  rw[h1,abJ,h2,abJ,h3,abJ,aI (by omega) (by omega),aI (by omega) (by omega)]
  exact i1
 ·unfold AP
  simp only[Bool.and_eq_true,gQ,decide_eq_true_eq]
  exact⟨by omega,by omega,by rw[bF,i2];omega,i3⟩
def Lp(o:Op):Prop:=(-1<=o.1∧o.1<=256)∧(-1<=o.2.1∧o.2.1<=256)∧(-1<=o.2.2.1∧o.2.2.1<=256)∧(-1<=o.2.2.2.1∧o.2.2.2.1<=256)∧(-1<=o.2.2.2.2∧o.2.2.2.2<=256)
theorem afF{k:Int}{b:List Int}{p:Int}(n:Int)(o:Op)(hn:n<=1000)(ho:Lp o)(hs:Rd k (b,p))(hk:k<=800000000)(z0 z1 z2 z3 z4:Int):
  ∃ o' s',Ld (EN n b p z0 z1 z2 z3 z4 o.1 o.2.1 o.2.2.1 o.2.2.2.1 o.2.2.2.2)=some (o',s')∧Lp o'∧Rd (k+3) s':=by
 obtain⟨o1,o2,o3,o4,o5⟩:=o
 obtain⟨q1,q2,q3,q4,q5⟩:=ho
 dsimp only at q1 q2 q3 q4 q5
 obtain⟨v,s1,h1,r1,_⟩:=SX n hs (by omega) (by omega)
 cases v with
 |false=>
  refine⟨(o1,o2,o3,o4,o5),s1,?_,⟨q1,q2,q3,q4,q5⟩,r1.le (by omega)⟩
  refine eL ((JK dd Ld ..).trans ?_);show (_:Option aho)=some _
  rw[h1,abJ];rfl
 |true=>
  obtain⟨v2,s2,h2,a2,b2,r2⟩:=lg 4 r1 (by omega) (by omega)
  obtain⟨v3,s3,h3,a3,b3,r3⟩:=lg 2 r2 (by omega) (by omega)
  have b3:=b3 (by omega)
  by_cases c0:v2=0
  ·refine⟨(gt [0,9] v3 0,o2,o3,o4,o5),s3,?_,⟨?_,q2,q3,q4,q5⟩,r3.le (by omega)⟩
   ·refine eL ((JK dd Ld ..).trans ?_);show (_:Option aho)=some _
    rw[h1,abJ,cond_true,h2,abJ,aK c0,h3,abJ,if_pos a3,if_pos b3]
   ·have:=gt2 (a:=0) (b:=9) a3 b3;dsimp only;omega
  by_cases c1:v2=1
  ·refine⟨(o1,gt [-1,256] v3 0,o3,o4,o5),s3,?_,⟨q1,?_,q3,q4,q5⟩,r3.le (by omega)⟩
   ·refine eL ((JK dd Ld ..).trans ?_);show (_:Option aho)=some _
    rw[h1,abJ,cond_true,h2,abJ,aA c0,aK c1,h3,abJ,if_pos a3,if_pos b3]
   ·have:=gt2 (a:= -1) (b:=256) a3 b3;dsimp only;omega
  by_cases c2:v2=2
  ·refine⟨(o1,o2,o3,gt [-1,256] v3 0,o5),s3,?_,⟨q1,q2,q3,?_,q5⟩,r3.le (by omega)⟩
   ·refine eL ((JK dd Ld ..).trans ?_);show (_:Option aho)=some _
    rw[h1,abJ,cond_true,h2,abJ,aA c0,aA c1,aK c2,h3,abJ,if_pos a3,if_pos b3]
   ·have:=gt2 (a:= -1) (b:=256) a3 b3;dsimp only;omega
  ·refine⟨(o1,o2,o3,o4,gt [1,7] v3 0),s3,?_,⟨q1,q2,q3,q4,?_⟩,r3.le (by omega)⟩
   ·refine eL ((JK dd Ld ..).trans ?_);show (_:Option aho)=some _
    rw[h1,abJ,cond_true,h2,abJ,aA c0,aA c1,aA c2,h3,abJ,if_pos a3,if_pos b3]
   ·have:=gt2 (a:=1) (b:=7) a3 b3;dsimp only;omega
theorem alq{k:Int}{s:List Int×Int}(n:Int)(hn:n<=1000)(hs:Rd k s)(hk:k<=700000000):∃ o s',aeW dd (s,n)=some (o,s')∧Lp o∧Rd (k+8) s':=by
 obtain⟨b,p⟩:=s
 obtain⟨v,s0,h0,a0,b0,r0⟩:=lg 8 hs (by omega) (by omega)
 have b0:=b0 (by omega)
 have e0:wi (1+v)=1+v:=aI (by omega) (by omega)
 by_cases c1:1+v=1
 ·obtain⟨v1,s1,h1,a1,b1,r1⟩:=lg 3 r0 (by omega) (by omega)
  obtain⟨v2,s2,h2,a2,b2,r2⟩:=lg 3 r1 (by omega) (by omega)
  obtain⟨v3,s3,h3,a3,b3,r3⟩:=lg 4 r2 (by omega) (by omega)
  obtain⟨v4,s4,h4,a4,b4,r4⟩:=lg 4 r3 (by omega) (by omega)
  have b1:=b1 (by omega);have b2:=b2 (by omega);have b3:=b3 (by omega);have b4:=b4 (by omega)
  obtain⟨b',p'⟩:=s4
  obtain⟨o',s',i1,i2,i3⟩:=afF n (1,v1,v2,1+v3,1+v4) hn (by unfold Lp;dsimp only;omega) r4 (by omega) 0 0 0 0 0
  refine⟨o',s',?_,i2,i3.le (by omega)⟩
  refine dL rfl ((afe dd Ld ..).trans ?_)
  rw[h0,abJ,e0,aK c1,h1,abJ,h2,abJ,h3,abJ,h4,abJ,aI (x:=1+v3) (by omega) (by omega),aI (x:=1+v4) (by omega) (by omega)]
  exact i1
 by_cases c7:1+v=7
 ·obtain⟨v1,s1,h1,a1,b1,r1⟩:=lg 6 r0 (by omega) (by omega)
  obtain⟨v2,s2,h2,a2,b2,r2⟩:=lg 6 r1 (by omega) (by omega)
  have b1:=b1 (by omega);have b2:=b2 (by omega)
  obtain⟨b',p'⟩:=s2
  obtain⟨o',s',i1,i2,i3⟩:=afF n (7,1+v1,1+v2,0,0) hn (by unfold Lp;dsimp only;omega) r2 (by omega) 0 0 0 0 0
  refine⟨o',s',?_,i2,i3.le (by omega)⟩
  refine dL rfl ((afe dd Ld ..).trans ?_)
  rw[h0,abJ,e0,aA c1,aK c7,h1,abJ,h2,abJ,aI (x:=1+v1) (by omega) (by omega),aI (x:=1+v2) (by omega) (by omega)]
  exact i1
 by_cases c8:1+v=8
 ·obtain⟨v1,s1,h1,a1,b1,r1⟩:=lg 256 r0 (by omega) (by omega)
  obtain⟨v2,s2,h2,a2,b2,r2⟩:=lg 256 r1 (by omega) (by omega)
  obtain⟨v3,s3,h3,a3,b3,r3⟩:=lg 256 r2 (by omega) (by omega)
  have b1:=b1 (by omega);have b2:=b2 (by omega);have b3:=b3 (by omega)
  obtain⟨b',p'⟩:=s3
  obtain⟨o',s',i1,i2,i3⟩:=afF n (8,v1,v2,v3,0) hn (by unfold Lp;dsimp only;omega) r3 (by omega) 0 0 0 0 0
  refine⟨o',s',?_,i2,i3.le (by omega)⟩
  refine dL rfl ((afe dd Ld ..).trans ?_)
  rw[h0,abJ,e0,aA c1,aA c7,aK c8,h1,abJ,h2,abJ,h3,abJ]
  exact i1
 ·obtain⟨b',p'⟩:=s0
  obtain⟨o',s',i1,i2,i3⟩:=afF n (1+v,0,0,0,0) hn (by unfold Lp;dsimp only;omega) r0 (by omega) 0 0 0 0 0
  refine⟨o',s',?_,i2,i3.le (by omega)⟩
  refine dL rfl ((afe dd Ld ..).trans ?_)
  rw[h0,abJ,e0,aA c1,aA c7,aA c8]
  exact i1
def DL(l:List Op):Prop:=∀ o∈l,Lp o
theorem BZ{l:List Op}{o:Op}(h:DL l)(ho:Lp o):DL (l++[o]):=fun x hx=>by
 rcases adh.1 hx with q|q
 ·exact h x q
 ·rw[List.mem_singleton.1 q];exact ho
theorem agC:∀ (j:Nat) (b:List Int) (p k:Int) (l:List Op),Rd k (b,p)->DL l->l.length<=20->l.length+j≥6->∃ l' s',GY (OC b p l)=some (l',s')∧DL l'∧l'.length<=20∧Rd k s'
 |0,b,p,k,l,hs,ho,hl,hj=>by
  refine⟨l,(b,p),?_,ho,hl,hs⟩
  refine eL ((Vg dd GY ..).trans ?_);show (_:Option agZ)=some _
  have:=bF l
  rw[ay (by omega)]
 |j+1,b,p,k,l,hs,ho,hl,hj=>by
  have hln:=bF l
  by_cases c:ln l<=5
  ·obtain⟨l',s',i1,i2⟩:=agC j b p k (l++[(4,0,0,0,0)]) hs (BZ ho (by unfold Lp;dsimp only;omega)) (by simp;omega) (by simp;omega)
   refine⟨l',s',?_,i2⟩
   refine eL ((Vg dd GY ..).trans ?_);show (_:Option agZ)=some _
   rw[au c,if_pos (by omega)]
   exact i1
  ·refine⟨l,(b,p),?_,ho,hl,hs⟩
   refine eL ((Vg dd GY ..).trans ?_);show (_:Option agZ)=some _
   rw[ay c]
theorem agD(n:Int)(hn:n<=1000){b:List Int}{p k:Int}{l:List Op}(hs:Rd k (b,p))(hk:k<=600000000)(ho:DL l)(hl:l.length<=20):∃ l' s',GY (OB n b p l)=some (l',s')∧DL l'∧l'.length<=20∧Rd (k+1) s':=by
 obtain⟨v,s1,h1,r1,_⟩:=SX n hs (by omega) (by omega)
 cases v with
 |false=>
  refine⟨l,s1,?_,ho,hl,r1⟩
  refine eL ((abW dd GY ..).trans ?_)
  rw[h1,abJ];rfl
 |true=>
  obtain⟨b1,p1⟩:=s1
  obtain⟨l',s',i1,i2⟩:=agC 6 b1 p1 _ l r1 ho hl (by omega)
  refine⟨l',s',?_,i2⟩
  refine eL ((abW dd GY ..).trans ?_)
  rw[h1,abJ]
  exact i1
theorem agE(n:Int)(hn:n<=1000):∀ (j:Nat) (b:List Int) (p k:Int) (l:List Op),Rd k (b,p)->k+8*j<=500000000->DL l->l.length+j<=10->∃ l' s',GY (OA n j b p l)=some (l',s')∧DL l'∧l'.length<=20∧Rd (k+8*j+10) s'
 |0,b,p,k,l,hs,hk,ho,hl=>by
  obtain⟨v,s1,h1,r1,_⟩:=SX n hs (by omega) (by omega)
  cases v with
  |false=>
   obtain⟨b1,p1⟩:=s1
   obtain⟨l',s',i1,i2,i3,i4⟩:=agD n hn r1 (by omega) ho (by omega)
   refine⟨l',s',?_,i2,i3,i4.le (by omega)⟩
   refine eL ((Vf dd GY ..).trans ?_)
   rw[ay (by omega),h1,abJ]
   exact i1
  |true=>
   obtain⟨o,s2,h2,po,r2⟩:=alq 1 (by omega) r1 (by omega)
   obtain⟨b2,p2⟩:=s2
   obtain⟨l',s',i1,i2,i3,i4⟩:=agD n hn r2 (by omega) (BZ ho po) (by simp;omega)
   refine⟨l',s',?_,i2,i3,i4.le (by omega)⟩
   refine eL ((Vf dd GY ..).trans ?_)
   rw[ay (by omega),h1,abJ,cond_true,h2,abJ,if_pos (by omega)]
   exact i1
 |j+1,b,p,k,l,hs,hk,ho,hl=>by
  obtain⟨o,s2,h2,po,r2⟩:=alq 0 (by omega) hs (by omega)
  obtain⟨b2,p2⟩:=s2
  obtain⟨l',s',i1,i2,i3,i4⟩:=agE n hn j b2 p2 _ (l++[o]) r2 (by omega) (BZ ho po) (by simp;omega)
  refine⟨l',s',?_,i2,i3,i4.le (by omega)⟩
  refine eL ((Vf dd GY ..).trans ?_)
  rw[au (by omega),h2,abJ,if_pos (by omega),aI (by omega) (by omega),show ((j+1:Nat):Int)-1=(j:Int) by omega]
  exact i1
theorem alr{k:Int}{s:List Int×Int}(n:Int)(hn:n<=1000)(hs:Rd k s)(hk:k<=400000000):∃ l s',ahJ dd (s,n)=some (l,s')∧DL l∧l.length<=20∧Rd (k+100) s':=by
 obtain⟨b,p⟩:=s
 obtain⟨v,s0,h0,a0,b0,r0⟩:=lg 6 hs (by omega) (by omega)
 have b0:=b0 (by omega)
 obtain⟨b1,p1⟩:=s0
 obtain⟨l',s',i1,i2,i3,i4⟩:=agE n hn v.toNat b1 p1 _ [] r0 (by omega) (fun _ h=>by cases h) (by simp;omega)
 refine⟨l',s',?_,i2,i3,i4.le (by omega)⟩
 refine dL rfl ((anQ dd GY ..).trans ?_)
 rw[h0,abJ]
 rw[Int.toNat_of_nonneg a0] at i1
 exact i1
end T
end
section
namespace T
open Go Go.E Go.Proofs
def DN(o:List Int)(t:Nat)(v:Int):List Int:=if t%8=0 then o++[v] else o.set (t/8) (gt o ((t/8:Nat):Int) 0+v*2^(t%8))
def G5(N:Int):Nat->Nat->List Int->Nat->List Int
 |0,_,o,_=>o
 |c+1,j,o,t=>G5 N c (j+1) (DN o t (N/2^j%2)) (t+1)
def Na:List afb->List Int->Nat->List Int
 |[],o,_=>o
 |c::l,o,t=>Na l (G5 c.1 9 0 o t) (t+9)
structure BI (o:List Int) (t:Nat):Prop where
 len:o.length=(t+7)/8
 byt:fB o
 top:t%8≠0->gt o ((t/8:Nat):Int) 0<2^(t%8)
theorem YT:∀ {m:Nat},m<8->(2:Int)^m*2<=256∧1<=(2:Int)^m:=by decide
theorem adw{o:List Int}{y x:Int}:(o++[y]).set o.length x=o++[x]:=by simp
theorem aik{o:List Int}{i:Nat}{x:Int}(h:i<o.length):gt (o.set i x) (i:Int) 0=x:=by
 rw[gB (by simpa using h)];simp
theorem Xa{o:List Int}{x:Int}:gt (o++[x]) ((o.length:Nat):Int) 0=x:=by
 rw[gB (by simp)];simp
theorem BI.step{o:List Int}{t:Nat}{v:Int}(h:BI o t)(hv:v=0∨v=1):BI (DN o t v) (t+1):=by
 unfold DN
 have hl:=h.len
 by_cases c:t%8=0
 ·rw[if_pos c]
  refine⟨by simp;omega,mg.2 ⟨h.byt,bV.2 ⟨by omega,iC⟩⟩,fun _=> ?_⟩
  have:(t+1)/8=o.length:=by omega
  rw[this,Xa,show (t+1)%8=1 by omega]
  omega
 ·rw[if_neg c]
  have hlt:t/8<o.length:=by omega
  have ht:=h.top c
  have hg:=iw h.byt ((t/8:Nat):Int)
  have hp:=YT (m:=t%8) (by omega)
  have hx:gt o ((t/8:Nat):Int) 0+v*2^(t%8)<2^(t%8)*2∧0<=gt o ((t/8:Nat):Int) 0+v*2^(t%8):=by
   rcases hv with rfl|rfl<;>omega
  refine⟨by simp;omega,fun b hb=> ?_,fun c'=> ?_⟩
  ·rcases List.mem_or_eq_of_mem_set hb with q|q
   ·exact h.byt b q
   ·rw[q];omega
  ·have e1:(t+1)/8=t/8:=by omega
   have e2:(t+1)%8=t%8+1:=by omega
   rw[e1,e2,aik hlt,Int.pow_succ]
   exact hx.1
theorem agF(N:Int)(j:Nat):N/2^j%2=0∨N/2^j%2=1:=by omega
theorem BI.G5{N:Int}:∀ (c j:Nat) {o:List Int} {t:Nat},BI o t->BI (G5 N c j o t) (t+c)
 |0,j,o,t,h=>h
 |c+1,j,o,t,h=>by
  have:=BI.G5 (N:=N) c (j+1) (h.step (agF N j))
  rw[show t+1+c=t+(c+1) by omega] at this
  exact this
theorem BI.bits:∀ {l:List afb} {o:List Int} {t:Nat},BI o t->BI (Na l o t) (t+9*l.length)
 |[],o,t,h=>h
 |c::l,o,t,h=>by
  have:=BI.bits (l:=l) (BI.G5 (N:=c.1) 9 0 h)
  rw[show t+9+9*l.length=t+9*(c::l).length by simp;omega] at this
  exact this
theorem BI.nil:BI [] 0:=⟨rfl,iC,fun h=>absurd rfl h⟩
def VG(l:List afb):Prop:=∀ c∈l,(0<=c.1∧c.1<512)∧c.2=9
theorem J9{l:List afb}(h:VG l){i:Nat}(hi:i<l.length):(0<=(gt l (i:Int) (0,0)).1∧(gt l (i:Int) (0,0)).1<512)∧(gt l (i:Int) (0,0)).2=9:=by
 rw[gB hi];exact h _ (List.getElem_mem hi)
theorem pw(j:Nat)(h:j<=8):(1:Int)<=2^j∧(2:Int)^j<=256:=by
 have:∀ m:Nat,m<9->(1:Int)<=2^m∧(2:Int)^m<=256:=by decide
 exact this j (by omega)
theorem S9{j:Nat}{K:IntKind}(h:j<=K.bits):min ((j:Int)).toNat K.bits=j:=by rw[aeg];omega
theorem aqf(N:Int):akS dd (N,9)=some (iO N 0 511):=by
 refine dL rfl ((apK dd apL ..).trans ?_)
 rw[VE,abJ]
 show (if (0:Int)<=9 then _ else none)=_
 rw[if_pos (by decide),VE]
 rfl
theorem agG(xs:List afb)(hx:VG xs)(hl:xs.length<=300)(i:Nat)(hi:i<xs.length)(r:List Int):∀ (c j:Nat) (o:List Int) (t:Nat),j+c=9->BI o t->t+c<=2700->
  Lj (E5 xs ((t+c:Nat):Int) ((i+1:Nat):Int) (G5 (gt xs (i:Int) (0,0)).1 c j o t))=some r->Lj (E8 xs t i j o)=some r
 |0,j,o,t,h,hb,ht,hk=>by
  obtain⟨_,h9⟩:=J9 hx hi
  have hln:=bF xs
  refine eL ((ac2 dd Lj ..).trans ?_)
  rw[if_pos (by omega),if_pos (by omega),h9,ay (by omega),bf (by omega)]
  exact hk
 |c+1,j,o,t,h,hb,ht,hk=>by
  obtain⟨hN,h9⟩:=J9 hx hi
  have hln:=bF xs
  have hlo:=bF o
  have hlen:=hb.len
  have e8:((t:Int)).tdiv 8=((t/8:Nat):Int):=by rw[td (by omega)];omega
  have m8:((t:Int)).tmod 8=((t%8:Nat):Int):=by rw[tm (by omega)];omega
  have w8:wi ((t/8:Nat):Int)=((t/8:Nat):Int):=aI (by omega) (by omega)
  have hp:=YT (m:=t%8) (by omega)
  have hv:(Int.fdiv (gt xs (i:Int) (0,0)).1 (2^j)).tmod 2=(gt xs (i:Int) (0,0)).1/2^j%2:=by
   have:=pw j (by omega)
   rw[fd (by omega),tm (Int.ediv_nonneg hN.1 (by omega))]
  have h01:=agF (gt xs (i:Int) (0,0)).1 j
  generalize hV:(gt xs (i:Int) (0,0)).1/2^j%2=v at hv h01
  have hw1:wi (v*2^(t%8))=v*2^(t%8):=by rcases h01 with rfl|rfl<;>exact aI (by omega) (by omega)
  have hw2:wb (v*2^(t%8))=v*2^(t%8):=by rcases h01 with rfl|rfl<;>exact jy (by omega) (by omega)
  have hbs:=hb.step h01
  have next:=agG xs hx hl i hi r c (j+1) (DN o t v) (t+1) (by omega) hbs (by omega)
  have hk':Lj (E5 xs ((t+1+c:Nat):Int) ((i+1:Nat):Int) (G5 (gt xs (i:Int) (0,0)).1 c (j+1) (DN o t v) (t+1)))=some r:=by
   rw[show t+1+c=t+(c+1) by omega]
   unfold G5 at hk
   rw[hV] at hk
   exact hk
  have next:=next hk'
  have mt:min (((t%8:Nat):Int)).toNat IntKind.i64.bits=t%8:=S9 (by show t%8<=64;omega)
  have mj:min ((j:Int)).toNat IntKind.i64.bits=j:=S9 (by show j<=64;omega)
  refine eL ((ac2 dd Lj ..).trans ?_)
  rw[if_pos (by omega),if_pos (by omega),h9,au (by omega),e8,m8,w8,mt,mj,hv,hw1,hw2,bf (by omega),bf (by omega)]
  by_cases c8:t%8=0
  ·have hol:t/8=o.length:=by omega
   have hlo2:ln (o.append [0])=(o.length:Int)+1:=by show ((o++[0]).length:Int)=_;simp
   rw[aK (by omega),if_pos (by omega)]
   simp (disch:=omega) only[↓if_pos]
   have e1:gt (o.append [0]) ((t/8:Nat):Int) 0=0:=by rw[hol];exact Xa
   rw[e1,c8]
   have e2:wb (0+v*2^0)=v:=by rcases h01 with rfl|rfl<;>decide
   rw[e2,aeg,hol]
   have e3:(o.append [0]).set o.length v=DN o t v:=by
    unfold DN
    rw[if_pos c8];exact adw
   rw[e3]
   exact next
  ·rw[aA (by omega)]
   simp (disch:=omega) only[↓if_pos]
   have htop:=hb.top c8
   have hg:=iw hb.byt ((t/8:Nat):Int)
   have e2:wb (gt o ((t/8:Nat):Int) 0+v*2^(t%8))=gt o ((t/8:Nat):Int) 0+v*2^(t%8):=by rcases h01 with rfl|rfl<;>exact jy (by omega) (by omega)
   rw[e2,aeg]
   have e3:o.set (t/8) (gt o ((t/8:Nat):Int) 0+v*2^(t%8))=DN o t v:=by
    unfold DN
    rw[if_neg c8]
   rw[e3]
   exact next
theorem agH(xs:List afb)(hx:VG xs)(hl:xs.length<=300):∀ (k i:Nat) (o:List Int),i+k=xs.length->BI o (9*i)->Lj (E5 xs ((9*i:Nat):Int) i o)=some (Na (xs.drop i) o (9*i))
 |0,i,o,h,hb=>by
  have hln:=bF xs
  have hlo:=bF o
  have hlen:=hb.len
  refine eL ((ac1 dd Lj ..).trans ?_)
  rw[ay (by omega),ay (by omega),List.drop_eq_nil_of_le (by omega)]
  rfl
 |k+1,i,o,h,hb=>by
  have hi:i<xs.length:=by omega
  have hln:=bF xs
  have hlo:=bF o
  have hlen:=hb.len
  obtain⟨hN,h9⟩:=J9 hx hi
  refine eL ((ac1 dd Lj ..).trans ?_)
  rw[au (by omega),if_pos (by omega),if_pos (by omega)]
  have e:gt xs (i:Int) (0,0)=((gt xs (i:Int) (0,0)).1,9):=by rw[<- h9]
  rw[e,aqf,abJ]
  have hin:iO (gt xs (i:Int) (0,0)).1 0 511=true:=gQ.2 (by omega)
  rw[hin]
  show (bif decide (ln o>400) then some [] else Lj (E8 xs ((9*i:Nat):Int) i 0 o))=_
  rw[ay (by omega),eG (z:=(0,0)) hi]
  refine agG xs hx hl i hi _ 9 0 o (9*i) (by omega) hb (by omega) ?_
  have:=agH xs hx hl k (i+1) (G5 (gt xs (i:Int) (0,0)).1 9 0 o (9*i)) (by omega) (by
   have:=BI.G5 (N:=(gt xs (i:Int) (0,0)).1) 9 0 hb
   rw[show 9*i+9=9*(i+1) by omega] at this
   exact this)
  rw[show 9*i+9=9*(i+1) by omega,this]
  show _=some (Na (xs.drop (i+1)) (G5 (gt xs (i:Int) (0,0)).1 9 0 o (9*i)) (9*i+9))
  rw[show 9*i+9=9*(i+1) by omega]
theorem aqg(xs:List afb)(hx:VG xs)(hl:xs.length<=300):abN dd xs=some (Na xs [] 0):=by
 refine dL rfl ((apD dd Lj ..).trans ?_)
 exact agH xs hx hl xs.length 0 [] (by omega) BI.nil
theorem als(y:Int)(h1:0<=y):wb (↑(BitVec.ofInt IntKind.u8.bits y&&&BitVec.ofInt IntKind.u8.bits 1).toNat:Int)=y%2:=by
 have e:(BitVec.ofInt IntKind.u8.bits y&&&BitVec.ofInt IntKind.u8.bits 1).toNat=(y%256).toNat%2:=by
  rw[BitVec.toNat_and,BitVec.toNat_ofInt,BitVec.toNat_ofInt]
  show (y%256).toNat&&&1=_
  exact Nat.and_one_is_mod _
 rw[e,jy (by omega) (by omega)]
 omega
end T
end
section
namespace T
open Go Go.E Go.Proofs
theorem afG(bs:ByteArray):∀ (k i:Nat) (r:List UInt8),i+k=bs.data.size->ByteArray.toList.loop bs i r=r.reverse++bs.data.toList.drop i:=by
 intro k
 induction k with
 |zero=>
  intro i r h
  unfold ByteArray.toList.loop
  have hs:bs.size=bs.data.size:=rfl
  have hl:bs.data.toList.length=bs.data.size:=Array.length_toList
  rw[if_neg (by omega),List.drop_eq_nil_of_le (by omega),List.append_nil]
 |succ k ih=>
  intro i r h
  unfold ByteArray.toList.loop
  have hs:bs.size=bs.data.size:=rfl
  have hi:i<bs.data.size:=by omega
  have hl:bs.data.toList.length=bs.data.size:=Array.length_toList
  have hg:bs.get! i=bs.data.toList[i]'(by omega):=by
   show bs.data[i]! =_
   rw[getElem!_pos bs.data i hi,Array.getElem_toList]
  rw[if_pos (by omega),ih (i+1) _ (by omega),List.drop_eq_getElem_cons (i:=i) (by omega),hg,List.reverse_cons,List.append_assoc]
  rfl
theorem YU(bs:ByteArray):bs.toList=bs.data.toList:=by
 unfold ByteArray.toList
 rw[afG bs bs.data.size 0 [] (by omega)]
 rfl
theorem Xb(l:List Int):(bU l).toList=l.map fun n=>UInt8.ofNat n.toNat:=by
 rw[YU];rfl
theorem agI:∀ {l m:List Int},fB l->fB m->((bU l).toList==(bU m).toList)=decide (l=m):=by
 have inj:∀ {l m:List Int},fB l->fB m->(l.map fun n=>UInt8.ofNat n.toNat)=(m.map fun n=>UInt8.ofNat n.toNat)->l=m:=by
  intro l
  induction l with
  |nil=>intro m _ _ h;cases m with
   |nil=>rfl
   |cons b m=>cases h
  |cons a l ih=>
   intro m hl hm h
   cases m with
   |nil=>cases h
   |cons b m=>
    rw[List.map_cons,List.map_cons,List.cons.injEq] at h
    obtain⟨ha,hl⟩:=bV.1 hl
    obtain⟨hb,hm⟩:=bV.1 hm
    have h1:=congrArg UInt8.toNat h.1
    rw[UInt8.toNat_ofNat',UInt8.toNat_ofNat'] at h1
    rw[ih hl hm h.2,show a=b by omega]
 intro l m hl hm
 rw[Xb,Xb]
 by_cases e:l=m
 ·subst e;simp
 ·have:¬ (l.map fun n=>UInt8.ofNat n.toNat)=(m.map fun n=>UInt8.ofNat n.toNat):=fun h=>e (inj hl hm h)
  rw[beq_eq_false_iff_ne.2 this,decide_eq_false e]
theorem same_eq{R:Type}{x:Option R}{l:List (Option R)}(h:∀ y∈l,y=x):sameAll x l=x:=by
 cases l with
 |nil=>rfl
 |cons a l=>
  have key:∀ l:List (Option R),(∀ y∈l,y=x)->qO x l:=by
   intro l
   induction l with
   |nil=>intro _;trivial
   |cons a l ih=>intro h;exact⟨h a aee,ih fun y hy=>h y (aef _ hy)⟩
  exact if_pos (key (a::l) h)
def Ko(l:List (List Int)):Prop:=∀ s∈l,fB s
theorem alu(met:List (List Int))(s:List Int)(hm:Ko met)(hs:fB s)(hl:Sh met):∀ (k i:Nat),i+k=met.length->(∀ j:Nat,∀ h:j<met.length,j<i->met[j]≠s)->afD (JY met s i)=some (if s∈met then (met.idxOf s:Int) else -1)
 |0,i,h,hn=>by
  have hln:=bF met
  refine eL ((ade dd afD ..).trans ?_);show (_:Option Int)=some _
  rw[ay (by omega)]
  have:s∉met:=fun hx=>by
   obtain⟨j,hj,e⟩:=List.getElem_of_mem hx
   exact hn j hj (by omega) e
  rw[if_neg this]
 |k+1,i,h,hn=>by
  have hln:=bF met
  have hi:i<met.length:=by omega
  refine eL ((ade dd afD ..).trans ?_);show (_:Option Int)=some _
  rw[au (by omega),same_eq (fun y hy=>List.mem_singleton.1 hy),if_pos (by omega),if_pos (by omega)]
  simp only[aeg,List.getElem?_eq_getElem hi]
  rw[agI (hm _ (List.getElem_mem hi)) hs]
  by_cases e:met[i]=s
  ·rw[au e]
   have hx:s∈met:=by rw[<- e];exact List.getElem_mem hi
   have:met.idxOf s=i:=by
    have h1:met.idxOf s<met.length:=List.idxOf_lt_length_iff.2 hx
    have h2:met[met.idxOf s]=s:=List.getElem_idxOf h1
    rcases Nat.lt_trichotomy (met.idxOf s) i with q|q|q
    ·exact absurd h2 (hn _ h1 q)
    ·exact q
    ·have:=List.not_of_lt_findIdx (p:=(· ==s)) (xs:=met) (i:=i) (by unfold List.idxOf at q;exact q)
     simp[e] at this
   rw[if_pos hx,this]
  ·rw[ay e,bf (by have:=hl;omega)]
   refine alu met s hm hs hl k (i+1) (by omega) fun j hj hji=> ?_
   rcases Nat.lt_or_ge j i with q|q
   ·exact hn j hj q
   ·have:j=i:=by omega
    subst this;exact e
theorem aqh(met:List (List Int))(s:List Int)(hm:Ko met)(hs:fB s)(hl:Sh met):akR dd (met,s)=some (if s∈met then (met.idxOf s:Int) else -1):=by
 refine dL rfl ((apJ dd afD ..).trans ?_)
 exact alu met s hm hs hl met.length 0 (by omega) fun j _ h=>absurd h (Nat.not_lt_zero _)
theorem Xc{s:List Int}(hs:fB s)(h1:s.length=1):s∈adu 256:=by
 match s,h1 with
 |[b],_=>
  have:=(bV.1 hs).1
  exact J8.2 ⟨b.toNat,by omega,by rw[Int.toNat_of_nonneg this.1]⟩
theorem alv(met:List (List Int))(s:List Int)(hm:Ko met)(hs:fB s)(hl:met.length<=1000)(h1:1<=s.length):(s∈nY met->Sr dd (met,s)=some (uy met s)∧0<=uy met s)∧(s∉nY met->Sr dd (met,s)=some (-1)):=by
 have hln:=bF s
 by_cases c:s.length=1
 ·have hin:s∈nY met:=adh.2 (.inl (Xc hs c))
  refine⟨fun _=> ?_,fun h=>absurd hin h⟩
  have hg:=iU hs 0
  have hc:uy met s=s.getD 0 0:=by
   unfold uy
   match s,c with
   |[b],_=>rfl
  refine⟨?_,by rw[hc];exact hg.1⟩
  refine dL rfl ((aia dd aib ..).trans ?_);show (_:Option Int)=some _
  rw[aK (by omega),if_pos (by omega),oL hg,hc]
 ·have hno:s∉adu 256:=fun h=>by
   obtain⟨b,_,e⟩:=J8.1 h
   rw[e] at c;exact c rfl
  have hiff:s∈nY met↔s∈met:=by
   unfold nY
   rw[adh]
   exact⟨fun h=>h.resolve_left hno,.inr⟩
  have hD:=aqh met s hm hs (by show met.length<_;omega)
  refine⟨fun h=> ?_,fun h=> ?_⟩
  ·have h:=hiff.1 h
   have hi:met.idxOf s<met.length:=List.idxOf_lt_length_iff.2 h
   rw[if_pos h] at hD
   have hc:uy met s=257+(met.idxOf s:Int):=by
    unfold uy;rw[if_neg (by omega)]
   refine⟨?_,by rw[hc];omega⟩
   refine dL rfl ((aia dd aib ..).trans ?_);show (_:Option Int)=some _
   rw[aA (by omega),hD,abJ,ay (by omega),aI (by omega) (by omega),hc]
  ·have h:=fun x=>h (hiff.2 x)
   rw[if_neg h] at hD
   refine dL rfl ((aia dd aib ..).trans ?_);show (_:Option Int)=some _
   rw[aA (by omega),hD,abJ,au (by omega)]
end T
end
section
namespace T
open Go Go.E Go.Proofs
theorem wV{α:Type}{l:List α}{a n:Nat}:(l.take (a+n)).drop a=(l.drop a).take n:=by
 rw[List.drop_take,Nat.add_sub_cancel_left]
theorem YV{met:List (List Int)}{s:List Int}(h:Ko met)(hs:fB s):Ko (met++[s]):=fun x hx=>by
 rcases adh.1 hx with q|q
 ·exact h x q
 ·rw[List.mem_singleton.1 q];exact hs
def Qg(met:List (List Int))(rest:List Int)(n:Nat):List (List Int):=if n<rest.length∧met.length<255 then met++[rest.take (n+1)] else met
theorem Xd(l:List Int)(hb:fB l)(hl:l.length<=200)(met:List (List Int))(hm:Ko met)(hm2:met.length<=255)(codes:List afb)(hc:codes.length<=300)(a n:Nat)(h1:1<=n)(hn:a+n<=l.length)(out:List Int)(hd:(l.drop a).take n∈nY met)
  (hk:EZ (nI l ((a+n:Nat):Int) (Qg met (l.drop a) n) (codes++[(uy met ((l.drop a).take n),9)]))=some out):
  (if (0:Int)<=a then if (a:Int)<=wi ((a:Int)+n) then if wi ((a:Int)+n)<=ln l then (Sr dd (met,List.drop ((a:Int)).toNat (List.take (wi ((a:Int)+n)).toNat l))).bind fun (dU:Int)=>if (codes.length+1)*16<=140737488355328 then bif decide (wi ((a:Int)+n)<ln l) then bif decide (wi (257+ln met)<512) then if (0:Int)<=a then if (a:Int)<=wi (wi ((a:Int)+n)+1) then if wi (wi ((a:Int)+n)+1)<=ln l then if (0+(List.drop ((a:Int)).toNat (List.take (wi (wi ((a:Int)+n)+1)).toNat l)).length)*1<=140737488355328 then if (met.length+1)*24<=140737488355328 then EZ (nI l (wi ((a:Int)+n)) (met.append [List.drop ((a:Int)).toNat (List.take (wi (wi ((a:Int)+n)+1)).toNat l)]) (codes.append [(dU,9)])) else none else none else none else none else none else EZ (nI l (wi ((a:Int)+n)) met (codes.append [(dU,9)])) else EZ (nI l (wi ((a:Int)+n)) met (codes.append [(dU,9)])) else none else none else none else none)=some out:=by
 have hln:=bF l
 have hlm:=bF met
 have w1:wi ((a:Int)+n)=((a+n:Nat):Int):=by rw[aI (by omega) (by omega)];omega
 have w2:wi (((a+n:Nat):Int)+1)=((a+(n+1):Nat):Int):=by rw[aI (by omega) (by omega)];omega
 have w3:wi (257+ln met)=257+ln met:=aI (by omega) (by omega)
 have hdl:(l.drop a).length=l.length-a:=by simp
 obtain⟨hD,_⟩:=(alv met ((l.drop a).take n) hm (jY (iV hb a) n) (by omega) (by simp;omega)).1 hd
 rw[w1,w2,w3,if_pos (by omega),if_pos (by omega),if_pos (by omega),aeg,aeg,aeg,wV,wV,hD,abJ,if_pos (by omega)]
 unfold Qg at hk
 by_cases c1:a+n<l.length
 ·rw[au (by omega)]
  by_cases c2:met.length<255
  ·rw[if_pos ⟨by omega,c2⟩] at hk
   rw[au (by omega),if_pos (by omega),if_pos (by omega),if_pos (by omega),if_pos (by simp;omega),if_pos (by omega)]
   exact hk
  ·rw[if_neg (fun h=>c2 h.2)] at hk
   rw[ay (by omega)]
   exact hk
 ·rw[if_neg (fun h=>by omega)] at hk
  rw[ay (by omega)]
  exact hk
theorem agJ(l:List Int)(hb:fB l)(hl:l.length<=200)(met:List (List Int))(hm:Ko met)(hm2:met.length<=255)(codes:List afb)(hc:codes.length<=300)(a:Nat)(out:List Int):∀ (k n:Nat),a+n+k=l.length->1<=n->(l.drop a).take n∈nY met->
  EZ (nI l ((a+Ea (nY met) (l.drop a) k n:Nat):Int) (Qg met (l.drop a) (Ea (nY met) (l.drop a) k n)) (codes++[(uy met ((l.drop a).take (Ea (nY met) (l.drop a) k n)),9)]))=some out->EZ (PS l a n met codes)=some out
 |0,n,h,h1,hd,hk=>by
  have hln:=bF l
  refine eL ((ac0 dd EZ ..).trans ?_)
  have w1:wi ((a:Int)+n)=((a+n:Nat):Int):=by rw[aI (by omega) (by omega)];omega
  rw[ay (by rw[w1];omega)]
  exact Xd l hb hl met hm hm2 codes hc a n h1 (by omega) out hd hk
 |k+1,n,h,h1,hd,hk=>by
  have hln:=bF l
  have w1:wi ((a:Int)+n)=((a+n:Nat):Int):=by rw[aI (by omega) (by omega)];omega
  have w2:wi (((a+n:Nat):Int)+1)=((a+(n+1):Nat):Int):=by rw[aI (by omega) (by omega)];omega
  have hDD:=alv met ((l.drop a).take (n+1)) hm (jY (iV hb a) _) (by omega) (by simp;omega)
  unfold Ea at hk
  refine eL ((ac0 dd EZ ..).trans ?_)
  rw[au (by rw[w1];omega),if_pos (by omega),if_pos (by rw[w1,w2];omega),if_pos (by rw[w1,w2];omega)]
  have e1:List.drop ((a:Int)).toNat (List.take (wi (wi ((a:Int)+n)+1)).toNat l)=(l.drop a).take (n+1):=by
   rw[w1,w2,aeg,aeg,wV]
  by_cases hin:(l.drop a).take (n+1)∈nY met
  ·rw[if_pos hin] at hk
   obtain⟨hD,h0⟩:=hDD.1 hin
   have hD':Sr dd (met,List.drop ((a:Int)).toNat (List.take (wi (wi ((a:Int)+n)+1)).toNat l))=some (uy met ((l.drop a).take (n+1))):=by rw[e1];exact hD
   rw[hD',abJ,au h0,bf (by omega)]
   exact agJ l hb hl met hm hm2 codes hc a out k (n+1) (by omega) (by omega) hin hk
  ·rw[if_neg hin] at hk
   have hD:=hDD.2 hin
   have hD':Sr dd (met,List.drop ((a:Int)).toNat (List.take (wi (wi ((a:Int)+n)+1)).toNat l))=some (-1):=by rw[e1];exact hD
   rw[hD',abJ,ay (by omega)]
   exact Xd l hb hl met hm hm2 codes hc a n h1 (by omega) out hd hk
theorem Kq{rest:List Int}(hb:fB rest)(h:0<rest.length){met:List (List Int)}:rest.take 1∈nY met:=
 adh.2 (.inl (Xc (jY hb 1) (by simp;omega)))
theorem Nb{rest:List Int}(hb:fB rest)(h:0<rest.length){met:List (List Int)}:Ea (nY met) rest rest.length 0=Ea (nY met) rest (rest.length-1) 1:=by
 obtain⟨q,hq⟩:∃ q,rest.length=q+1:=⟨rest.length-1,by omega⟩
 rw[hq]
 show (if rest.take (0+1)∈nY met then Ea (nY met) rest q (0+1) else 0)=_
 rw[if_pos (Kq hb h)];rfl
theorem Xe{rest:List Int}(hb:fB rest)(h:0<rest.length){met:List (List Int)}:1<=Ea (nY met) rest rest.length 0∧Ea (nY met) rest rest.length 0<=rest.length∧rest.take (Ea (nY met) rest rest.length 0)∈nY met:=by
 rw[Nb hb h]
 obtain⟨a,b,c,_⟩:=W9 (Qe:=nY met) (rest:=rest) (rest.length-1) 1 (by omega) (.inr (Kq hb h))
 refine⟨c,b,?_⟩
 rcases a with a|a
 ·have:=congrArg List.length a
  rw[List.length_take,List.length_nil] at this
  omega
 ·exact a
theorem Nc{f:Nat}{met:List (List Int)}{rest:List Int}(h:rest≠[]):Lm (f+1) met rest=(uy met (rest.take (Ea (nY met) rest rest.length 0)),9)::Lm f (Qg met rest (Ea (nY met) rest rest.length 0)) (rest.drop (Ea (nY met) rest rest.length 0)):=by
 show (if rest=[] then [] else _)=_
 rw[if_neg h];rfl
theorem Tc{met:List (List Int)}{rest:List Int}{n:Nat}(h:met.length<=255):(Qg met rest n).length<=255:=by
 unfold Qg;split
 ·simp;omega
 ·exact h
theorem Td{met:List (List Int)}{rest:List Int}{n:Nat}(h:Ko met)(hr:fB rest):Ko (Qg met rest n):=by
 unfold Qg;split
 ·exact YV h (jY hr _)
 ·exact h
theorem alx(l:List Int)(hb:fB l)(hl:l.length<=200)(out:List Int):∀ (f:Nat) (met:List (List Int)) (a:Nat) (codes:List afb),l.length-a<=f->a<=l.length->Ko met->met.length<=255->codes.length+f<=300->
  abN dd (codes++Lm f met (l.drop a)++[(256,9)])=some out->EZ (nI l a met codes)=some out:=by
 have hln:=bF l
 intro f
 have fin:∀ (met:List (List Int)) (codes:List afb),codes.length<=300->abN dd (codes++[(256,9)])=some out->EZ (nI l (l.length:Nat) met codes)=some out:=by
  intro met codes hc hk
  refine eL ((acZ dd EZ ..).trans ?_)
  rw[ay (by omega),if_pos (by omega)]
  show (abN dd (codes++[(256,9)])).bind _=_
  rw[hk];rfl
 induction f with
 |zero=>
  intro met a codes hf ha _ _ hc hk
  have:a=l.length:=by omega
  subst this
  exact fin met codes (by omega) (by unfold Lm at hk;simpa using hk)
 |succ f ih=>
  intro met a codes hf ha hm hm2 hc hk
  by_cases e:a=l.length
  ·subst e
   refine fin met codes (by omega) ?_
   rw[List.drop_eq_nil_of_le (Nat.le_refl _)] at hk
   simpa [Lm] using hk
  have hdl:(l.drop a).length=l.length-a:=by simp
  have hne:l.drop a≠[]:=fun x=>by rw[x] at hdl;simp at hdl;omega
  have hrb:=iV hb a
  rw[Nc hne] at hk
  obtain⟨g1,g2,g3⟩:=Xe hrb (by omega) (met:=met)
  refine eL ((acZ dd EZ ..).trans ?_)
  rw[au (by omega)]
  refine agJ l hb hl met hm hm2 codes (by omega) a out (l.length-a-1) 1 (by omega) (Nat.le_refl _) (Kq hrb (by omega)) ?_
  have hlf:=Nb hrb (by omega) (met:=met)
  rw[hdl] at hlf g1 g2 g3
  rw[hdl] at hk
  rw[<- hlf]
  generalize Ea (nY met) (l.drop a) (l.length-a) 0=n at*
  refine ih _ _ _ (by omega) (by omega) (Td hm hrb) (Tc hm2) (by simp;omega) ?_
  rw[List.drop_drop] at hk
  simp only[List.append_assoc,List.cons_append,List.nil_append] at hk⊢
  exact hk
theorem Kr:∀ (f:Nat) (met:List (List Int)) (rest:List Int),fB rest->Ko met->met.length<=255->VG (Lm f met rest)∧(Lm f met rest).length<=f
 |0,_,_,_,_,_=>⟨fun c h=>absurd (show c∈([]:List afb) from h) (by simp),Nat.le_refl _⟩
 |f+1,met,rest,hb,hm,hm2=>by
  by_cases e:rest=[]
  ·subst e
   exact⟨fun c h=>absurd (show c∈([]:List afb) from h) (by simp),Nat.zero_le _⟩
  rw[Nc e]
  have hpos:=List.length_pos_iff.2 e
  obtain⟨g1,g2,g3⟩:=Xe hb hpos (met:=met)
  generalize Ea (nY met) rest rest.length 0=n at*
  obtain⟨i1,i2⟩:=Kr f (Qg met rest n) (rest.drop n) (iV hb n) (Td hm hb) (Tc hm2)
  refine⟨fun c hc=> ?_,by simp;omega⟩
  rcases List.mem_cons.1 hc with q|q
  ·subst q
   refine⟨?_,rfl⟩
   show 0<=uy met (rest.take n)∧uy met (rest.take n)<512
   unfold uy
   have hs:=jY hb n
   have hlen:(rest.take n).length=n:=by simp;omega
   split
   ·rename_i h1
    have hone:(rest.take n).length=1:=by omega
    generalize rest.take n=s at*
    match s,hone with
    |[b],_=>
     have:=(bV.1 hs).1
     show 0<=b∧b<512
     omega
   ·rename_i h1
    have hin:rest.take n∈met:=by
     rcases adh.1 g3 with q|q
     ·obtain⟨b,_,e'⟩:=J8.1 q
      rw[e'] at h1;exact absurd (by simp) h1
     ·exact q
    have:=List.idxOf_lt_length_iff.2 hin
    omega
  ·exact i1 c q
def YW(l:List Int):List Int:=if l.length<=200 then Na (Lm l.length [] l++[(256,9)]) [] 0 else []
theorem afH{l:List afb}(h:VG l):VG (l++[(256,9)]):=fun c hc=>by
 rcases adh.1 hc with q|q
 ·exact h c q
 ·rw[List.mem_singleton.1 q];exact⟨⟨by decide,by decide⟩,rfl⟩
theorem aqi(l:List Int)(hb:fB l):akJ dd l=some (YW l):=by
 have hln:=bF l
 refine dL rfl ((apA dd EZ ..).trans ?_);show (_:Option (List Int))=some _;unfold YW
 by_cases h:l.length<=200
 ·rw[ay (by omega),if_pos h]
  obtain⟨h1,h2⟩:=Kr l.length [] l hb (fun _ h=>by cases h) (by simp)
  exact alx l hb h _ l.length [] 0 [] (by omega) (by omega) (fun _ h=>by cases h) (by simp) (by simp;omega) (aqg _ (afH h1) (by simp;omega))
 ·rw[au (by omega),if_neg h]
theorem adx{l:List Int}(hb:fB l):fB (YW l)∧(YW l).length<=230:=by
 unfold YW
 split
 ·obtain⟨h1,h2⟩:=Kr l.length [] l hb (fun _ h=>by cases h) (by simp)
  have:=BI.nil.bits (l:=Lm l.length [] l++[(256,9)])
  refine⟨this.byt,?_⟩
  rw[this.len]
  simp
  omega
 ·exact⟨iC,by simp⟩
end T
end
section
namespace T
open Go Go.E Go.Proofs
structure lK (r:nS) (W H:Nat):Prop where
 w:r.1=W
 h:r.2.1=H
 w1:1<=W
 w6:W<=6
 h1:1<=H
 h6:H<=6
 len:r.2.2.length=H*W
 pix:r.2.2.all fZ=true
theorem Ae{y H W:Nat}(hy:y<H)(hH:H<=6)(hW:W<=6):y*W+W<=H*W∧H*W<=36:=by
 have h1:(y+1)*W<=H*W:=Nat.mul_le_mul_right W hy
 have h2:H*W<=6*6:=Nat.mul_le_mul hH hW
 rw[Nat.add_mul,Nat.one_mul] at h1
 omega
theorem qo{H W:Nat}(hH:H<=6)(hW:W<=6):H*W<=36:=Nat.mul_le_mul hH hW
theorem zT{r:nS}:AP r=true↔∃ W H,lK r W H:=by
 obtain⟨w,h,l⟩:=r
 unfold AP
 simp only[Bool.and_eq_true,gQ,decide_eq_true_eq]
 constructor
 ·rintro⟨hw,hh,hl,hp⟩
  refine⟨w.toNat,h.toNat,⟨by show w=_;omega,by show h=_;omega,by omega,by omega,by omega,by omega,?_,hp⟩⟩
  have hl:(l.length:Int)=w*h:=hl
  have:((h.toNat*w.toNat:Nat):Int)=w*h:=by
   rw[Int.natCast_mul,Int.toNat_of_nonneg (by omega),Int.toNat_of_nonneg (by omega),Int.mul_comm]
  show l.length=_
  omega
 ·rintro⟨W,H,q⟩
  have h1:w=W:=q.w
  have h2:h=H:=q.h
  have:=q.w1;have:=q.w6;have:=q.h1;have:=q.h6
  refine⟨by omega,by omega,?_,q.pix⟩
  show (l.length:Int)=w*h
  have h3:l.length=H*W:=q.len
  rw[h1,h2,h3,Int.natCast_mul,Int.mul_comm]
def tJ(p:iF):List Int:=[p.1,p.2.1,p.2.2.1,p.2.2.2]
def yQ(l:List iF):List Int:=l.flatMap tJ
def VH(r:nS):List Int:=r.1::r.2.1::yQ r.2.2
theorem jC{p:iF}:fZ p=true↔((0<=p.1∧p.1<=255)∧(0<=p.2.1∧p.2.1<=255)∧(0<=p.2.2.1∧p.2.2.1<=255)∧(0<=p.2.2.2∧p.2.2.2<=255)):=by
 unfold fZ
 simp only[Bool.and_eq_true,gQ]
theorem uz{α:Type}{l:List α}{f:α->Bool}(h:l.all f=true){i:Nat}{z:α}(hi:i<l.length):f (gt l (i:Int) z)=true:=by
 rw[gB hi]
 exact List.all_eq_true.1 h _ (List.getElem_mem hi)
theorem VI{p:iF}(h:fZ p=true):[wb p.1,wb p.2.1,wb p.2.2.1,wb p.2.2.2]=tJ p:=by
 obtain⟨h1,h2,h3,h4⟩:=jC.1 h
 unfold tJ
 rw[jy (by omega) (by omega),jy (by omega) (by omega),jy (by omega) (by omega),jy (by omega) (by omega)]
theorem yR{p:iF}{l:List iF}:yQ (p::l)=tJ p++yQ l:=by unfold yQ;simp
theorem VJ(l:List iF):(yQ l).length=4*l.length:=by
 induction l with
 |nil=>rfl
 |cons p l ih=>rw[yR,List.length_append,ih];simp[tJ];omega
theorem VK{l:List iF}(h:l.all fZ=true):fB (yQ l):=by
 induction l with
 |nil=>exact iC
 |cons p l ih=>
  rw[List.all_cons,Bool.and_eq_true] at h
  obtain⟨h1,h2,h3,h4⟩:=jC.1 h.1
  rw[yR]
  exact mg.2 ⟨bV.2 ⟨by omega,bV.2 ⟨by omega,bV.2 ⟨by omega,bV.2 ⟨by omega,iC⟩⟩⟩⟩,ih h.2⟩
theorem DR{r:nS}{W H:Nat}(h:lK r W H):fB (VH r)∧(VH r).length<=146:=by
 have:=h.w1;have:=h.w6;have:=h.h1;have:=h.h6;have e1:=h.w;have e2:=h.h
 refine⟨bV.2 ⟨by omega,bV.2 ⟨by omega,VK h.pix⟩⟩,?_⟩
 have:=qo h.h6 h.w6
 show (yQ r.2.2).length+1+1<=146
 rw[VJ,h.len]
 omega
theorem aly(l:List iF)(hl:l.length<=36)(hp:l.all fZ=true)(w h:Int):∀ (k i:Nat) (o:List Int),i+k=l.length->o.length<=1000+4*i->afB (PN i w h l o)=some (o++yQ (l.drop i))
 |0,i,o,hi,ho=>by
  have hln:=bF l
  refine eL ((acW dd afB ..).trans ?_)
  rw[ay (by omega),List.drop_eq_nil_of_le (by omega)]
  show some o=some (o++[])
  rw[List.append_nil]
 |k+1,i,o,hi,ho=>by
  have hln:=bF l
  have hlt:i<l.length:=by omega
  refine eL ((acW dd afB ..).trans ?_)
  rw[au (by omega),if_pos (by omega),if_pos (by omega),if_pos (by omega),VI (uz hp hlt),bf (by omega),eG (z:=(0,0,0,0)) hlt,yR, <- List.append_assoc]
  exact aly l hl hp w h k (i+1) _ (by omega) (by show (o++tJ _).length<=_;simp[tJ];omega)
theorem alz{r:nS}{W H:Nat}(h:lK r W H):ae6 dd r=some (VH r):=by
 obtain⟨w,hh,l⟩:=r
 have e1:w=W:=h.w;have e2:hh=H:=h.h
 have:=h.w1;have:=h.w6;have:=h.h1;have:=h.h6
 have:=qo h.h6 h.w6
 have hl:=h.len
 refine dL rfl ((apy dd afB ..).trans ?_)
 rw[jy (by omega) (by omega),jy (by omega) (by omega)]
 exact aly l (by show l.length<=36;dsimp only at hl;omega) h.pix w hh l.length 0 [w,hh] (by omega) (by simp)
theorem aqj(o:List Int)(p:iF)(ho:o.length<=100000)(hp:fZ p=true):aj7 dd (o,p)=some (o++tJ p):=by
 obtain⟨a,b,c,e⟩:=p
 refine dL rfl ((aoa dd aob ..).trans ?_);show (_:Option (List Int))=some _
 rw[if_pos (by omega)]
 show some (o++[wb a,wb b,wb c,wb e])=_
 rw[VI hp]
def rowP(l:List iF)(W y:Nat):List iF:=(l.drop (y*W)).take W
theorem zU{l:List iF}{W y:Nat}:(l.take ((y+1)*W)).drop (y*W)=rowP l W y:=by
 unfold rowP
 rw[Nat.add_mul,Nat.one_mul,wV]
theorem DT{y W:Nat}:((y:Int))*(W:Int)=((y*W:Nat):Int):=(Int.natCast_mul y W).symm
end T
end
section
namespace T
open Go Go.E Go.Proofs
abbrev z4:iF:=(0,0,0,0)
def jZ(N:Nat)(g:Nat->iF):List iF:=(List.range N).map g
def oN(N n:Nat)(g:Nat->iF):List iF:=jZ n g++List.replicate (N-n) z4
theorem lM{N:Nat}{g:Nat->iF}:(jZ N g).length=N:=by unfold jZ;simp
theorem Nh{N n:Nat}{g:Nat->iF}(h:n<=N):(oN N n g).length=N:=by unfold oN;simp[lM];omega
theorem zV{n:Nat}{g:Nat->iF}:jZ (n+1) g=jZ n g++[g n]:=by unfold jZ;rw[List.range_succ,List.map_append];rfl
theorem Tf{N n:Nat}{g:Nat->iF}(h:n<N):(oN N n g).set n (g n)=oN N (n+1) g:=by
 unfold oN
 rw[List.set_append_right _ _ (by rw[lM];omega),lM,Nat.sub_self,zV]
 obtain⟨m,hm⟩:∃ m,N-n=m+1:=⟨N-n-1,by omega⟩
 rw[hm,show N-(n+1)=m by omega,List.replicate_succ,List.append_assoc]
 rfl
theorem ady{N:Nat}{g:Nat->iF}:oN N 0 g=List.replicate N z4:=by unfold oN jZ;simp
theorem adz{N:Nat}{g:Nat->iF}:oN N N g=jZ N g:=by unfold oN;simp
theorem VL{W x y:Nat}(hx:x<W):(y*W+x)/W=y∧(y*W+x)%W=x:=by
 have hW:0<W:=by omega
 constructor
 ·rw[Nat.mul_comm,Nat.mul_add_div hW,Nat.div_eq_of_lt hx,Nat.add_zero]
 ·rw[Nat.mul_comm,Nat.mul_add_mod,Nat.mod_eq_of_lt hx]
theorem jD{y W:Nat}:(y+1)*W=y*W+W:=by rw[Nat.add_mul,Nat.one_mul]
theorem Kt{y W H:Nat}(hy:y<H)(hH:H<=6)(hW:W<=6):wi ((y:Int)*W)=((y*W:Nat):Int)∧wi (wi ((y:Int)+1)*W)=(((y+1)*W:Nat):Int):=by
 have hm:=Ae hy hH hW
 refine⟨by rw[DT];exact aI (by omega) (by omega),?_⟩
 rw[bf (by omega),DT,jD]
 exact aI (by omega) (by omega)
theorem aqk{l:List iF}{W H x y:Nat}(hl:l.length=H*W)(hH:H<=6)(hW:W<=6)(hx:x<W)(hy:y<H)(q:Int):akX dd (((W:Int),q,l),(x:Int),(y:Int))=some (gt l ((y*W+x:Nat):Int) z4):=by
 obtain⟨w1,w2⟩:=Kt hy hH hW
 have hm:=Ae hy hH hW
 have hln:=bF l
 have e3:=jD (y:=y) (W:=W)
 refine dL rfl ((apZ dd ap0 ..).trans ?_)
 rw[w1,w2,if_pos (by omega),if_pos (by omega),if_pos (by omega),aeg,aeg,zU]
 have hrl:(rowP l W y).length=W:=by unfold rowP;simp;omega
 have hrn:=bF (rowP l W y)
 rw[if_pos (by omega),if_pos (by omega),gB (by omega),gB (by omega)]
 congr 1
 unfold rowP
 simp
def mJ(W H:Nat)(l:List iF)(i:Nat):iF:=gt l (((H-1-i/W)*W+i%W:Nat):Int) z4
theorem agK{l:List iF}{W H:Nat}(hl:l.length=H*W)(hH:H<=6)(hW:W<=6)(y:Nat)(hy:y<H)(a b c e:Int)(out:nS):∀ (k x:Nat),x+k=W->
  SN (J4 W H H ((y+1:Nat):Int) W H l a b (oN (H*W) ((y+1)*W) (mJ W H l)) c e)=some out->
  SN (P9 W H y ((y*W:Nat):Int) (((y+1)*W:Nat):Int) H y W x W H l a b (oN (H*W) (y*W+x) (mJ W H l)) c e)=some out
 |0,x,h,hk=>by
  refine eL ((adn dd SN ..).trans ?_)
  have:x=W:=by omega
  subst this
  rw[ay (by omega),bf (by omega), <- jD]
  exact hk
 |k+1,x,h,hk=>by
  have hm:=Ae hy hH hW
  have e3:=jD (y:=y) (W:=W)
  have w1:wi (wi ((H:Int)-1)-y)=((H-1-y:Nat):Int):=by
   rw[aI (x:=(H:Int)-1) (by omega) (by omega),aI (by omega) (by omega)];omega
  refine eL ((adn dd SN ..).trans ?_)
  rw[au (by omega),w1,aqk hl hH hW (show x<W by omega) (show H-1-y<H by omega),abJ,if_pos (by omega),if_pos (by omega),bf (by omega)]
  have ei:(((y*W:Nat):Int)+(x:Int)).toNat=y*W+x:=by omega
  have eg:gt l (((H-1-y)*W+x:Nat):Int) z4=mJ W H l (y*W+x):=by
   unfold mJ
   obtain⟨d1,d2⟩:=VL (y:=y) (show x<W by omega)
   rw[d1,d2]
  rw[ei,eg,Tf (by omega)]
  exact agK hl hH hW y hy a b c e out k (x+1) (by omega) hk
theorem agL{l:List iF}{W H:Nat}(hl:l.length=H*W)(hH:H<=6)(hW:W<=6)(a b c e:Int):∀ (k y:Nat),y+k=H->
  SN (J4 W H H y W H l a b (oN (H*W) (y*W) (mJ W H l)) c e)=some ((W:Int),(H:Int),jZ (H*W) (mJ W H l))
 |0,y,h=>by
  refine eL ((adl dd SN ..).trans ?_);show (_:Option Rs)=some _
  have:y=H:=by omega
  subst this
  rw[ay (by omega),adz]
 |k+1,y,h=>by
  have hy:y<H:=by omega
  obtain⟨w1,w2⟩:=Kt hy hH hW
  have hm:=Ae hy hH hW
  have e3:=jD (y:=y) (W:=W)
  have hfl:=Nh (N:=H*W) (n:=y*W) (g:=mJ W H l) (by omega)
  have hln:=bF (oN (H*W) (y*W) (mJ W H l))
  refine eL ((adl dd SN ..).trans ?_);show (_:Option Rs)=some _
  rw[au (by omega),w1,w2,if_pos (by omega),if_pos (by omega),if_pos (by omega),aeg,aeg,zU]
  have hrl:ln (rowP (oN (H*W) (y*W) (mJ W H l)) W y)=W:=by
   rw[bF];unfold rowP;simp;omega
  rw[hrl]
  exact agK hl hH hW y hy a b c e _ W 0 (by omega) (agL hl hH hW a b c e k (y+1) (by omega))
theorem aql{r:nS}{W H:Nat}(hn:lK r W H):akW dd r=some ((W:Int),(H:Int),jZ (H*W) (mJ W H r.2.2)):=by
 obtain⟨w,h,l⟩:=r
 have e1:w=W:=hn.w;have e2:h=H:=hn.h
 subst e1 e2
 have:=hn.w1;have h6:=hn.w6;have:=hn.h1;have k6:=hn.h6
 have hm:=qo k6 h6
 have hw:wi ((W:Int)*H)=((H*W:Nat):Int):=by rw[DT,Nat.mul_comm];exact aI (by omega) (by omega)
 refine dL rfl ((apY dd SN ..).trans ?_)
 rw[hw,if_pos (by omega),if_pos (by omega),if_pos (by omega),aeg]
 have:=agL hn.len k6 h6 0 0 0 0 H 0 (by omega)
 rw[Nat.zero_mul,ady] at this
 exact this
theorem afJ{l:List iF}{W y:Nat}(h:y*W+W<=l.length):rowP l W y=(List.range W).map fun x=>gt l ((y*W+x:Nat):Int) z4:=by
 apply List.ext_getElem
 ·unfold rowP;simp;omega
 ·intro i h1 h2
  have hi:i<W:=by simpa using h2
  rw[List.getElem_map,List.getElem_range,gB (by omega)]
  simp only[rowP,List.getElem_take,List.getElem_drop]
theorem afK{W j:Nat}{g:Nat->iF}:jZ ((j+1)*W) g=jZ (j*W) g++(List.range W).map fun x=>g (j*W+x):=by
 unfold jZ
 rw[jD,List.range_add,List.map_append,List.map_map];rfl
theorem adA{l:List iF}{W H j:Nat}(hl:l.length=H*W)(hj:j<H)(hH:H<=6)(hW:W<=6):jZ (j*W) (mJ W H l)++rowP l W (H-1-j)=jZ ((j+1)*W) (mJ W H l):=by
 rw[afK,afJ (by have:=Ae (show H-1-j<H by omega) hH hW;omega)]
 congr 1
 apply List.map_congr_left
 intro x hx
 have hx:x<W:=by simpa using hx
 obtain⟨d1,d2⟩:=VL (y:=j) hx
 unfold mJ
 rw[d1,d2]
theorem alA{l:List iF}{W H:Nat}(hl:l.length=H*W)(hH:H<=6)(hW:W<=6)(a b:Int):∀ (k j:Nat),j+k=H->
  afs (Ph ((k:Int)-1) W H l a b W H (jZ (j*W) (mJ W H l)))=some ((W:Int),(H:Int),jZ (H*W) (mJ W H l))
 |0,j,h=>by
  refine eL ((acI dd afs ..).trans ?_);show (_:Option Rs)=some _
  have:j=H:=by omega
  subst this
  rw[ay (by omega)]
 |k+1,j,h=>by
  have hk:k<H:=by omega
  obtain⟨w1,w2⟩:=Kt hk hH hW
  have hm:=Ae hk hH hW
  have e3:=jD (y:=k) (W:=W)
  have hln:=bF l
  refine eL ((acI dd afs ..).trans ?_);show (_:Option Rs)=some _
  rw[show ((k+1:Nat):Int)-1=(k:Int) by omega,au (by omega),w1,w2,if_pos (by omega),if_pos (by omega),if_pos (by omega),aeg,aeg,zU]
  have hjm:=Ae (show j<H by omega) hH hW
  have hrl:(rowP l W k).length=W:=by unfold rowP;simp;omega
  rw[if_pos (by rw[lM,hrl];omega),aI (by omega) (by omega)]
  have:(jZ (j*W) (mJ W H l)).append (rowP l W k)=jZ ((j+1)*W) (mJ W H l):=by
   have:=adA hl (show j<H by omega) hH hW
   rw[show H-1-j=k by omega] at this
   exact this
  rw[this]
  exact alA hl hH hW a b k (j+1) (by omega)
theorem ail{r:nS}{W H:Nat}(hn:lK r W H):ae4 dd r=some ((W:Int),(H:Int),jZ (H*W) (mJ W H r.2.2)):=by
 obtain⟨w,h,l⟩:=r
 have e1:w=W:=hn.w;have e2:h=H:=hn.h
 subst e1 e2
 have h6:=hn.w6;have k6:=hn.h6
 refine dL rfl ((aoO dd afs ..).trans ?_)
 rw[aI (by omega) (by omega)]
 have:=alA hn.len k6 h6 0 0 H 0 (by omega)
 rw[Nat.zero_mul] at this
 exact this
theorem adB{r:nS}{W H:Nat}(hn:lK r W H):lK ((W:Int),(H:Int),jZ (H*W) (mJ W H r.2.2)) W H:=by
 refine⟨rfl,rfl,hn.w1,hn.w6,hn.h1,hn.h6,lM,?_⟩
 refine List.all_eq_true.2 fun x hx=> ?_
 unfold jZ at hx
 obtain⟨i,hi,rfl⟩:=List.mem_map.1 hx
 have hi:i<H*W:=by simpa using hi
 have hw:=hn.w1
 have h1:i/W<H:=Nat.div_lt_of_lt_mul (by rw[Nat.mul_comm];exact hi)
 have h2:i%W<W:=Nat.mod_lt _ (by omega)
 unfold mJ
 generalize i/W=q at*
 generalize i%W=t at*
 have hm:=Ae (show H-1-q<H by omega) hn.h6 hn.w6
 exact uz hn.pix (by rw[hn.len];omega)
end T
end
section
namespace T
open Go Go.E Go.Proofs
def DU(a:List Int):Bool:=decide (2<=a.length∧(1<=a.getD 0 0∧a.getD 0 0<=6)∧(1<=a.getD 1 0∧a.getD 1 0<=6)∧(a.length:Int)=2+4*a.getD 0 0*a.getD 1 0)
def Xf(a:List Int)(i:Nat):iF:=(gt a ((2+4*i:Nat):Int) 0,gt a ((2+4*i+1:Nat):Int) 0,gt a ((2+4*i+2:Nat):Int) 0,gt a ((2+4*i+3:Nat):Int) 0)
def jQ(a:List Int):nS×Bool:=if DU a then ((a.getD 0 0,a.getD 1 0,jZ ((a.getD 1 0).toNat*(a.getD 0 0).toNat) (Xf a)),true) else ((0,0,[]),false)
theorem alB(a:List Int)(hb:fB a)(hl:4<=a.length):abO dd a=some (a.getD 0 0,a.getD 1 0,a.getD 2 0,a.getD 3 0):=by
 have hln:=bF a
 refine dL rfl ((apU dd apV ..).trans ?_);show (_:Option I4)=some _
 rw[if_pos (by omega),if_pos (by omega),if_pos (by omega),if_pos (by omega),oL (iU hb 0),oL (iU hb 1),oL (iU hb 2),oL (iU hb 3)]
theorem getD_drop{a:List Int}{m k:Nat}:(a.drop m).getD k 0=gt a ((m+k:Nat):Int) 0:=by
 unfold gt
 rw[aeg,List.getD_eq_getElem?_getD,List.getD_eq_getElem?_getD,List.getElem?_drop]
theorem alC(a:List Int)(hb:fB a)(i:Nat)(hl:2+4*i+4<=a.length):abO dd (a.drop (2+4*i))=some (Xf a i):=by
 rw[alB _ (iV hb _) (by simp;omega),getD_drop,getD_drop,getD_drop,getD_drop];rfl
theorem agM{a:List Int}(hb:fB a){W H:Nat}(hl:a.length=2+4*(H*W))(hH:H<=6)(hW:W<=6)(y:Nat)(hy:y<H)(b c e f:Int)(out:nS×Bool):∀ (k x:Nat),x+k=W->
  SL (J3 W H H ((y+1:Nat):Int) a W b c (oN (H*W) ((y+1)*W) (Xf a)) e f)=some out->
  SL (P8 W H y ((y*W:Nat):Int) (((y+1)*W:Nat):Int) H y W x a W b c (oN (H*W) (y*W+x) (Xf a)) e f)=some out
 |0,x,h,hk=>by
  refine eL ((adk dd SL ..).trans ?_)
  have:x=W:=by omega
  subst this
  rw[ay (by omega),bf (by omega), <- jD]
  exact hk
 |k+1,x,h,hk=>by
  have hm:=Ae hy hH hW
  have e3:=jD (y:=y) (W:=W)
  have hln:=bF a
  have w1:wi (2+wi (4*wi (wi ((y:Int)*W)+x)))=((2+4*(y*W+x):Nat):Int):=by
   rw[(Kt hy hH hW).1,aI (x:=((y*W:Nat):Int)+x) (by omega) (by omega),aI (x:=4*(((y*W:Nat):Int)+x)) (by omega) (by omega),aI (by omega) (by omega)];omega
  refine eL ((adk dd SL ..).trans ?_)
  rw[au (by omega),w1,if_pos (by omega),if_pos (by omega),aeg,alC a hb _ (by omega),abJ,if_pos (by omega),if_pos (by omega),bf (by omega)]
  have ei:(((y*W:Nat):Int)+(x:Int)).toNat=y*W+x:=by omega
  rw[ei,Tf (by omega)]
  exact agM hb hl hH hW y hy b c e f out k (x+1) (by omega) hk
theorem agN{a:List Int}(hb:fB a){W H:Nat}(hl:a.length=2+4*(H*W))(hH:H<=6)(hW:W<=6)(b c e f:Int):∀ (k y:Nat),y+k=H->
  SL (J3 W H H y a W b c (oN (H*W) (y*W) (Xf a)) e f)=some (((W:Int),(H:Int),jZ (H*W) (Xf a)),true)
 |0,y,h=>by
  refine eL ((adi dd SL ..).trans ?_);show (_:Option zT9)=some _
  have:y=H:=by omega
  subst this
  rw[ay (by omega),adz]
 |k+1,y,h=>by
  have hy:y<H:=by omega
  obtain⟨w1,w2⟩:=Kt hy hH hW
  have hm:=Ae hy hH hW
  have e3:=jD (y:=y) (W:=W)
  have hfl:=Nh (N:=H*W) (n:=y*W) (g:=Xf a) (by omega)
  have hln:=bF (oN (H*W) (y*W) (Xf a))
  refine eL ((adi dd SL ..).trans ?_);show (_:Option zT9)=some _
  rw[au (by omega),w1,w2,if_pos (by omega),if_pos (by omega),if_pos (by omega),aeg,aeg,zU]
  have hrl:ln (rowP (oN (H*W) (y*W) (Xf a)) W y)=W:=by
   rw[bF];unfold rowP;simp;omega
  rw[hrl]
  exact agM hb hl hH hW y hy b c e f _ W 0 (by omega) (agN hb hl hH hW b c e f k (y+1) (by omega))
theorem VN{a:List Int}(h:DU a=true):∃ W H:Nat,a.getD 0 0=W∧a.getD 1 0=H∧1<=W∧W<=6∧1<=H∧H<=6∧a.length=2+4*(H*W):=by
 obtain⟨h1,h2,h3,h4⟩:=of_decide_eq_true h
 refine⟨(a.getD 0 0).toNat,(a.getD 1 0).toNat,by omega,by omega,by omega,by omega,by omega,by omega,?_⟩
 generalize a.getD 0 0=w at*
 generalize a.getD 1 0=q at*
 have:((q.toNat*w.toNat:Nat):Int)=w*q:=by
  rw[Int.natCast_mul,Int.toNat_of_nonneg (by omega),Int.toNat_of_nonneg (by omega),Int.mul_comm]
 rw[Int.mul_assoc] at h4
 omega
theorem ain(a:List Int)(hb:fB a)(hs:a.length<=100000):ae7 dd a=some (jQ a):=by
 have hln:=bF a
 have b0:=iU hb 0
 have b1:=iU hb 1
 refine dL rfl ((apT dd SL ..).trans ?_)
 by_cases c1:2<=a.length
 rotate_left
 ·have:DU a=false:=decide_eq_false fun h=>c1 h.1
  unfold jQ
  rw[au (by omega),this];rfl
 rw[ay (by omega),if_pos (by omega),if_pos (by omega),oL b0,oL b1,adv,abJ]
 by_cases c2:1<=a.getD 0 0∧a.getD 0 0<=6
 rotate_left
 ·have:DU a=false:=decide_eq_false fun h=>c2 h.2.1
  have hr:iO (a.getD 0 0) 1 6=false:=decide_eq_false c2
  unfold jQ
  rw[hr,this];rfl
 rw[gQ.2 c2,Bool.not_true,cond_false,adv,abJ]
 by_cases c3:1<=a.getD 1 0∧a.getD 1 0<=6
 rotate_left
 ·have:DU a=false:=decide_eq_false fun h=>c3 h.2.2.1
  have hr:iO (a.getD 1 0) 1 6=false:=decide_eq_false c3
  unfold jQ
  rw[hr,this];rfl
 rw[gQ.2 c3,Bool.not_true,cond_false]
 have hmul:0<=a.getD 0 0*a.getD 1 0∧a.getD 0 0*a.getD 1 0<=36:=by
  refine⟨Int.mul_nonneg (by omega) (by omega),?_⟩
  have:=Int.mul_le_mul c2.2 c3.2 (by omega) (by omega)
  omega
 have w1:wi (2+wi (wi (4*a.getD 0 0)*a.getD 1 0))=2+4*a.getD 0 0*a.getD 1 0:=by
  rw[aI (x:=4*a.getD 0 0) (by omega) (by omega)]
  have:4*a.getD 0 0*a.getD 1 0=4*(a.getD 0 0*a.getD 1 0):=Int.mul_assoc _ _ _
  rw[aI (x:=4*a.getD 0 0*a.getD 1 0) (by omega) (by omega),aI (by omega) (by omega)]
 rw[w1]
 by_cases c4:(a.length:Int)=2+4*a.getD 0 0*a.getD 1 0
 rotate_left
 ·have:DU a=false:=decide_eq_false fun h=>c4 h.2.2.2
  unfold jQ
  rw[mD (by rw[hln];exact c4),this];rfl
 have hok:DU a=true:=decide_eq_true ⟨c1,c2,c3,c4⟩
 obtain⟨W,H,e1,e2,p1,p2,p3,p4,p5⟩:=VN hok
 unfold jQ
 rw[hok,iM (by rw[hln];exact c4),e1,e2]
 have hm:=qo p4 p2
 have hw:wi ((W:Int)*H)=((H*W:Nat):Int):=by rw[DT,Nat.mul_comm];exact aI (by omega) (by omega)
 rw[hw,if_pos (by omega),if_pos (by omega),if_pos (by omega),aeg,if_pos rfl,aeg,aeg]
 have:=agN hb p5 p4 p2 0 0 0 0 H 0 (by omega)
 rw[Nat.zero_mul,ady] at this
 exact this
theorem alD{a:List Int}(hb:fB a){N:Nat}(hl:a.length=2+4*N)(hN:N<=36)(b c w h:Int):∀ (k i:Nat),i+k=N->afr (Pg a ((2+4*i:Nat):Int) b c w h (jZ i (Xf a)))=some ((w,h,jZ N (Xf a)),true)
 |0,i,hi=>by
  have hln:=bF a
  have:i=N:=by omega
  subst this
  refine eL ((acH dd afr ..).trans ?_);show (_:Option zT9)=some _
  rw[ay (by omega)]
 |k+1,i,hi=>by
  have hln:=bF a
  have w1:wi (((2+4*i:Nat):Int)+1)=((2+4*i+1:Nat):Int):=by rw[aI (by omega) (by omega)];omega
  have w2:wi (((2+4*i:Nat):Int)+2)=((2+4*i+2:Nat):Int):=by rw[aI (by omega) (by omega)];omega
  have w3:wi (((2+4*i:Nat):Int)+3)=((2+4*i+3:Nat):Int):=by rw[aI (by omega) (by omega)];omega
  have w4:wi (((2+4*i:Nat):Int)+4)=((2+4*(i+1):Nat):Int):=by rw[aI (by omega) (by omega)];omega
  refine eL ((acH dd afr ..).trans ?_);show (_:Option zT9)=some _
  rw[au (by omega),w1,w2,w3,w4,if_pos (by omega),if_pos (by omega),if_pos (by omega),if_pos (by omega),if_pos (by omega),if_pos (by omega),if_pos (by omega),if_pos (by omega),if_pos (by rw[lM];omega),
   oL (iw hb _),oL (iw hb _),oL (iw hb _),oL (iw hb _)]
  have:(jZ i (Xf a)).append [(gt a ((2+4*i:Nat):Int) 0,gt a ((2+4*i+1:Nat):Int) 0,gt a ((2+4*i+2:Nat):Int) 0,gt a ((2+4*i+3:Nat):Int) 0)]=jZ (i+1) (Xf a):=zV.symm
  rw[this]
  exact alD hb hl hN b c w h k (i+1) (by omega)
theorem alE(a:List Int)(hb:fB a)(hs:a.length<=100000):ae3 dd a=some (jQ a):=by
 have hln:=bF a
 have b0:=iU hb 0
 have b1:=iU hb 1
 refine dL rfl ((aoN dd afr ..).trans ?_)
 have hmul:0<=a.getD 0 0*a.getD 1 0:=Int.mul_nonneg b0.1 b1.1
 have aqm:4*a.getD 0 0*a.getD 1 0=4*(a.getD 0 0*a.getD 1 0):=Int.mul_assoc _ _ _
 by_cases c0:6<=a.length
 rotate_left
 ·have:DU a=false:=decide_eq_false fun h=>by
   obtain⟨h1,h2,h3,h4⟩:=h
   have:1<=a.getD 0 0*a.getD 1 0:=by
    have:=Int.mul_le_mul h2.1 h3.1 (by omega) (by omega)
    omega
   omega
  unfold jQ
  rw[au (by omega),this];rfl
 rw[ay (by omega),if_pos (by omega),if_pos (by omega),oL b0,oL b1]
 by_cases c2:a.getD 0 0<=6
 rotate_left
 ·have:DU a=false:=decide_eq_false fun h=>c2 h.2.1.2
  unfold jQ
  rw[au (by omega),this];rfl
 rw[ay (by omega)]
 by_cases c3:a.getD 1 0<=6
 rotate_left
 ·have:DU a=false:=decide_eq_false fun h=>c3 h.2.2.1.2
  unfold jQ
  rw[au (by omega),this];rfl
 rw[ay (by omega)]
 have asi:a.getD 0 0*a.getD 1 0<=36:=by
  have:=Int.mul_le_mul c2 c3 (by omega) (by omega)
  omega
 have w1:wi (2+wi (wi (4*a.getD 0 0)*a.getD 1 0))=2+4*a.getD 0 0*a.getD 1 0:=by
  rw[aI (x:=4*a.getD 0 0) (by omega) (by omega),aI (x:=4*a.getD 0 0*a.getD 1 0) (by omega) (by omega),aI (by omega) (by omega)]
 rw[w1]
 by_cases c4:(a.length:Int)=2+4*a.getD 0 0*a.getD 1 0
 rotate_left
 ·have:DU a=false:=decide_eq_false fun h=>c4 h.2.2.2
  unfold jQ
  rw[mD (by rw[hln];exact c4),this];rfl
 have hpos:1<=a.getD 0 0*a.getD 1 0:=by omega
 have c2':1<=a.getD 0 0:=by
  rcases Int.lt_or_le 0 (a.getD 0 0) with q|q
  ·omega
  ·have:a.getD 0 0=0:=by omega
   rw[this,Int.zero_mul] at hpos;omega
 have c3':1<=a.getD 1 0:=by
  rcases Int.lt_or_le 0 (a.getD 1 0) with q|q
  ·omega
  ·have:a.getD 1 0=0:=by omega
   rw[this,Int.mul_zero] at hpos;omega
 have hok:DU a=true:=decide_eq_true ⟨by omega,⟨c2',c2⟩,⟨c3',c3⟩,c4⟩
 obtain⟨W,H,e1,e2,p1,p2,p3,p4,p5⟩:=VN hok
 unfold jQ
 rw[hok,iM (by rw[hln];exact c4),e1,e2,if_pos rfl,aeg,aeg]
 have:=alD hb p5 (qo p4 p2) 0 0 W H (H*W) 0 (by omega)
 exact this
theorem afL{a:List Int}(hb:fB a)(h:DU a=true):∃ W H,lK (jQ a).1 W H:=by
 obtain⟨W,H,e1,e2,p1,p2,p3,p4,p5⟩:=VN h
 refine⟨W,H,?_⟩
 unfold jQ
 rw[h,if_pos rfl,e1,e2,aeg,aeg]
 refine⟨rfl,rfl,p1,p2,p3,p4,lM,List.all_eq_true.2 fun x hx=> ?_⟩
 unfold jZ at hx
 obtain⟨i,_,rfl⟩:=List.mem_map.1 hx
 unfold Xf
 have g0:=iw hb ((2+4*i:Nat):Int)
 have g1:=iw hb ((2+4*i+1:Nat):Int)
 have g2:=iw hb ((2+4*i+2:Nat):Int)
 have g3:=iw hb ((2+4*i+3:Nat):Int)
 exact jC.2 ⟨by dsimp only;omega,by dsimp only;omega,by dsimp only;omega,by dsimp only;omega⟩
end T
end
section
namespace T
open Go Go.E Go.Proofs
theorem afM{x y:iF}:(x.1==y.1&&(x.2.1==y.2.1&&(x.2.2.1==y.2.2.1&&(x.2.2.2==y.2.2.2&&true))))=decide (x=y):=by
 obtain⟨a,b,c,d⟩:=x
 obtain⟨e,f,g,h⟩:=y
 rw[Bool.and_true]
 by_cases q:((a,b,c,d):iF)=(e,f,g,h)
 ·rw[decide_eq_true q]
  simp only[Prod.mk.injEq] at q
  obtain⟨rfl,rfl,rfl,rfl⟩:=q
  simp
 ·rw[decide_eq_false q]
  cases h1:(a==e&&(b==f&&(c==g&&d==h))) with
  |false=>rfl
  |true=>
   simp only[Bool.and_eq_true,beq_iff_eq] at h1
   obtain⟨rfl,rfl,rfl,rfl⟩:=h1
   exact absurd rfl q
def G6(l:List iF)(s:Nat):Nat->Nat->Nat
 |0,e=>e
 |k+1,e=>if gt l (e:Int) z4=gt l (s:Int) z4 then G6 l s k (e+1) else e
theorem Qh(l:List iF)(s:Nat):∀ (k e:Nat),e<=G6 l s k e∧G6 l s k e<=e+k
 |0,e=>⟨Nat.le_refl _,Nat.le_refl _⟩
 |k+1,e=>by
  unfold G6
  split
  ·have:=Qh l s k (e+1);omega
  ·omega
def qF(l:List iF):Nat->Nat->List Int
 |0,_=>[]
 |f+1,s=>if s<l.length then ((G6 l s (l.length-(s+1)) (s+1):Int)-s)::(tJ (gt l (s:Int) z4)++qF l f (G6 l s (l.length-(s+1)) (s+1))) else []
def Xg(r:nS):List Int:=r.1::r.2.1::qF r.2.2 r.2.2.length 0
theorem Ku(l:List iF):∀ (f s:Nat),(qF l f s).length<=5*f
 |0,s=>by simp[qF]
 |f+1,s=>by
  unfold qF
  split
  ·have:=Ku l f (G6 l s (l.length-(s+1)) (s+1))
   simp[tJ];omega
  ·simp
theorem Kv(l:List iF)(hl:l.length<=36)(hp:l.all fZ=true):∀ (f s:Nat),fB (qF l f s)
 |0,s=>iC
 |f+1,s=>by
  unfold qF
  split
  ·rename_i h
   have:=Qh l s (l.length-(s+1)) (s+1)
   refine bV.2 ⟨by omega,mg.2 ⟨?_,Kv l hl hp f _⟩⟩
   obtain⟨h1,h2,h3,h4⟩:=jC.1 (uz (z:=z4) hp h)
   exact bV.2 ⟨by omega,bV.2 ⟨by omega,bV.2 ⟨by omega,bV.2 ⟨by omega,iC⟩⟩⟩⟩
  ·exact iC
section
variable {l:List iF}
theorem agO(hl:l.length<=36)(hp:l.all fZ=true)(w h:Int)(s:Nat)(o:List Int)(ho:o.length<=10000)(out:List Int):∀ (k n:Nat),s+n+k=l.length->0<n->
  SG (EY ((G6 l s k (s+n):Nat):Int) w h l (o++((G6 l s k (s+n):Int)-s)::tJ (gt l (s:Int) z4)))=some out->SG (PO s n w h l o)=some out
 |0,n,he,hs,hk=>by
  have hln:=bF l
  have w1:wi ((s:Int)+n)=((s+n:Nat):Int):=by rw[aI (by omega) (by omega)];omega
  have w2:wb (n:Int)=((s+n:Nat):Int)-s:=by rw[jy (by omega) (by omega)];omega
  refine eL ((acY dd SG ..).trans ?_)
  rw[w1,ay (by omega),if_pos (by omega),if_pos (by omega),if_pos (by omega),w2,alF (uz hp (show s<l.length by omega))]
  exact hk
 |k+1,n,he,hs,hk=>by
  have hln:=bF l
  have w1:wi ((s:Int)+n)=((s+n:Nat):Int):=by rw[aI (by omega) (by omega)];omega
  have w2:wb (n:Int)=((s+n:Nat):Int)-s:=by rw[jy (by omega) (by omega)];omega
  unfold G6 at hk
  refine eL ((acY dd SG ..).trans ?_)
  rw[w1,au (by omega),if_pos (by omega),if_pos (by omega),if_pos (by omega),if_pos (by omega),afM]
  by_cases c:gt l ((s+n:Nat):Int) z4=gt l (s:Int) z4
  ·rw[au c,bf (by omega)]
   rw[if_pos c] at hk
   exact agO hl hp w h s o ho out k (n+1) (by omega) (by omega) hk
  ·rw[ay c,if_pos (by omega),if_pos (by omega),if_pos (by omega),w2,alF (uz hp (show s<l.length by omega))]
   rw[if_neg c] at hk
   exact hk
 where
 alF {p:iF} {x:Int} (h:fZ p=true):[x,wb p.1,wb p.2.1,wb p.2.2.1,wb p.2.2.2]=x::tJ p:=by rw[VI h]
theorem agP(hl:l.length<=36)(hp:l.all fZ=true)(w h:Int):∀ (f s:Nat) (o:List Int),l.length-s<=f->o.length+5*f<=5000->SG (EY s w h l o)=some (o++qF l f s)
 |0,s,o,hf,ho=>by
  have hln:=bF l
  refine eL ((acX dd SG ..).trans ?_);show (_:Option (List Int))=some _
  rw[ay (by omega)]
  show some o=some (o++[])
  rw[List.append_nil]
 |f+1,s,o,hf,ho=>by
  have hln:=bF l
  refine eL ((acX dd SG ..).trans ?_);show (_:Option (List Int))=some _
  by_cases c:s<l.length
  ·rw[au (by omega)]
   refine agO hl hp w h s o (by omega) _ (l.length-(s+1)) 1 (by omega) (by omega) ?_
   have:=Qh l s (l.length-(s+1)) (s+1)
   have e:qF l (f+1) s=((G6 l s (l.length-(s+1)) (s+1):Int)-s)::(tJ (gt l (s:Int) z4)++qF l f (G6 l s (l.length-(s+1)) (s+1))):=by
    show (if s<l.length then _ else _)=_
    rw[if_pos c]
   rw[agP hl hp w h f _ _ (by omega) (by simp[tJ];omega),e]
   simp
  ·rw[ay (by omega)]
   have e:qF l (f+1) s=[]:=by
    show (if s<l.length then _ else _)=_
    rw[if_neg c]
   rw[e,List.append_nil]
end
theorem aqn{r:nS}{W H:Nat}(hn:lK r W H):akI dd r=some (Xg r):=by
 obtain⟨w,h,l⟩:=r
 have e1:w=W:=hn.w;have e2:h=H:=hn.h
 have:=hn.w1;have:=hn.w6;have:=hn.h1;have:=hn.h6
 have hm:=qo hn.h6 hn.w6
 have hl:l.length=H*W:=hn.len
 refine dL rfl ((apz dd SG ..).trans ?_)
 rw[jy (by omega) (by omega),jy (by omega) (by omega)]
 exact agP (l:=l) (by omega) hn.pix w h l.length 0 [w,h] (by omega) (by simp;omega)
theorem YX{r:nS}{W H:Nat}(hn:lK r W H):fB (Xg r)∧(Xg r).length<=182:=by
 have:=hn.w1;have:=hn.w6;have:=hn.h1;have:=hn.h6;have e1:=hn.w;have e2:=hn.h
 have hm:=qo hn.h6 hn.w6
 have hl:=hn.len
 refine⟨bV.2 ⟨by omega,bV.2 ⟨by omega,Kv _ (by omega) hn.pix _ _⟩⟩,?_⟩
 have:=Ku r.2.2 r.2.2.length 0
 show (qF r.2.2 r.2.2.length 0).length+1+1<=182
 omega
end T
end
