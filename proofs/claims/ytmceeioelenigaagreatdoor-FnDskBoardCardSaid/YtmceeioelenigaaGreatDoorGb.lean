/- Plain laws: files read, pictures turned, texts. -/
import Derived.Test.YtmceeioelenigaaGreatDoorGa
section
namespace T
open Go Go.E Go.Proofs
def YZ(m:List Int):iF:=(gt m 1 0,gt m 2 0,gt m 3 0,gt m 4 0)
def vS(N:Nat):Nat->List Int->List iF->Option (List iF)
 |0,_,acc=>if acc.length=N then some acc else none
 |f+1,m,acc=>if m=[] then (if acc.length=N then some acc else none) else
  if m.getD 0 0<1∨m.getD 0 0>(N:Int)-acc.length then none else vS N f (m.drop 5) (acc++List.replicate (m.getD 0 0).toNat (YZ m))
def Gs(a:List Int):Bool:=decide (2<=a.length∧(1<=a.getD 0 0∧a.getD 0 0<=6)∧(1<=a.getD 1 0∧a.getD 1 0<=6)∧(a.length-2)%5=0)
def qJ(a:List Int):nS×Bool:=if Gs a then match vS ((a.getD 1 0).toNat*(a.getD 0 0).toNat) a.length (a.drop 2) [] with
  |some l=>((a.getD 0 0,a.getD 1 0,l),true)
  |none=>((0,0,[]),false)
 else ((0,0,[]),false)
def Y0(w h:Int):Option (List iF)->nS×Bool
 |some l=>((w,h,l),true)
 |none=>((0,0,[]),false)
theorem aio{m:List Int}(h:fB m):fZ (YZ m)=true:=by
 unfold YZ
 have g0:=iw h 1
 have g1:=iw h 2
 have g2:=iw h 3
 have g3:=iw h 4
 exact jC.2 ⟨by dsimp only;omega,by dsimp only;omega,by dsimp only;omega,by dsimp only;omega⟩
theorem afN{α:Type}{acc:List α}{j:Nat}{x:α}:acc++List.replicate j x++[x]=acc++List.replicate (j+1) x:=by
 rw[List.append_assoc,List.replicate_succ']
theorem Xh{N:Nat}:∀ (f:Nat) (m:List Int) (acc l:List iF),fB m->acc.all fZ=true->vS N f m acc=some l->l.length=N∧l.all fZ=true
 |0,m,acc,l,hb,ha,h=>by
  unfold vS at h
  split at h
  ·cases h;exact⟨by assumption,ha⟩
  ·cases h
 |f+1,m,acc,l,hb,ha,h=>by
  unfold vS at h
  split at h
  ·split at h
   ·cases h;exact⟨by assumption,ha⟩
   ·cases h
  ·split at h
   ·cases h
   ·refine Xh f _ _ l (iV hb 5) ?_ h
    rw[List.all_append,ha,Bool.true_and]
    refine List.all_eq_true.2 fun x hx=> ?_
    rw[(List.mem_replicate.1 hx).2]
    exact aio hb
theorem agQ{W H:Nat}(m:List Int)(hm:5<=m.length)(acc:List iF)(ha:acc.length<=1000)(p:iF)(n:Nat)(hn:n<=300)(b c:Int)(out:nS×Bool):∀ (k j:Nat),j+k=n->
  Ll (BX W H (m.drop 5) b c (acc++List.replicate n p))=some out->Ll (Qa W H m n j b c (acc++List.replicate j p) p.1 p.2.1 p.2.2.1 p.2.2.2)=some out
 |0,j,h,hk=>by
  have hln:=bF m
  have:j=n:=by omega
  subst this
  refine eL ((adp dd Ll ..).trans ?_)
  rw[ay (by omega),if_pos (by omega)]
  exact hk
 |k+1,j,h,hk=>by
  refine eL ((adp dd Ll ..).trans ?_)
  rw[au (by omega),if_pos (by simp;omega),bf (by omega)]
  have:=agQ m hm acc ha p n hn b c out k (j+1) (by omega) hk
  rw[<- afN] at this
  exact this
theorem alG{W H:Nat}(hW:W<=6)(hH:H<=6)(b c:Int):∀ (f:Nat) (m:List Int) (acc:List iF),m.length<=5*f->m.length%5=0->fB m->acc.length<=H*W->
  Ll (BX W H m b c acc)=some (Y0 W H (vS (H*W) f m acc)):=by
 intro f
 have hmu:=qo hH hW
 have w1:wi ((W:Int)*H)=((H*W:Nat):Int):=by rw[DT,Nat.mul_comm];exact aI (by omega) (by omega)
 have fin:∀ (acc:List iF),Ll (BX W H [] b c acc)=some (Y0 W H (if acc.length=H*W then some acc else none)):=by
  intro acc
  have hla:=bF acc
  refine eL ((ado dd Ll ..).trans ?_)
  rw[ay (by show ¬ ((([]:List Int).length:Int)>0);simp),w1]
  by_cases e:acc.length=H*W
  ·rw[iM (by omega),if_pos e];rfl
  ·rw[mD (by omega),if_neg e];rfl
 induction f with
 |zero=>
  intro m acc h1 h2 hb ha
  have:m=[]:=List.eq_nil_of_length_eq_zero (by omega)
  subst this
  exact fin acc
 |succ f ih=>
  intro m acc h1 h2 hb ha
  by_cases e:m=[]
  ·subst e
   have:vS (H*W) (f+1) [] acc=if acc.length=H*W then some acc else none:=by
    show (if ([]:List Int)=[] then _ else _)=_
    rw[if_pos rfl]
   rw[this]
   exact fin acc
  have hpos:=List.length_pos_iff.2 e
  have hln:=bF m
  have hla:=bF acc
  have b0:=iU hb 0
  have step:vS (H*W) (f+1) m acc=if m.getD 0 0<1∨m.getD 0 0>((H*W:Nat):Int)-acc.length then none else vS (H*W) f (m.drop 5) (acc++List.replicate (m.getD 0 0).toNat (YZ m)):=by
   show (if m=[] then _ else _)=_
   rw[if_neg e]
  have w2:wi (((H*W:Nat):Int)-ln acc)=((H*W:Nat):Int)-acc.length:=aI (by omega) (by omega)
  refine eL ((ado dd Ll ..).trans ?_)
  rw[au (by omega),if_pos (by omega),oL b0,w1,w2]
  by_cases c1:m.getD 0 0<1
  ·rw[au c1,step,if_pos (.inl c1)];rfl
  rw[ay c1]
  by_cases c2:m.getD 0 0>((H*W:Nat):Int)-acc.length
  ·rw[au c2,step,if_pos (.inr c2)];rfl
  have hpx:abO dd (m.drop 1)=some (YZ m):=by
   rw[alB _ (iV hb 1) (by simp;omega),getD_drop,getD_drop,getD_drop,getD_drop];rfl
  rw[ay c2,if_pos (by omega),hpx,abJ,step,if_neg (fun h=>h.elim c1 c2)]
  have:=agQ (W:=W) (H:=H) m (by omega) acc (by omega) (YZ m) (m.getD 0 0).toNat (by omega) b c (Y0 W H (vS (H*W) f (m.drop 5) (acc++List.replicate (m.getD 0 0).toNat (YZ m)))) (m.getD 0 0).toNat 0 (by omega) (ih _ _ (by rw[List.length_drop];omega) (by rw[List.length_drop];omega) (iV hb 5) (by rw[List.length_append,List.length_replicate];omega))
  rw[Int.toNat_of_nonneg b0.1,List.replicate_zero,List.append_nil] at this
  exact this
theorem aqo(a:List Int)(hb:fB a)(hs:a.length<=100000):ae8 dd ((),a)=some (qJ a):=by
 have hln:=bF a
 have b0:=iU hb 0
 have b1:=iU hb 1
 have no:Gs a=false->qJ a=((0,0,[]),false):=fun h=>by unfold qJ;rw[h];rfl
 refine dL rfl ((ap1 dd Ll ..).trans ?_);show (_:Option zT9)=some _
 by_cases c1:2<=a.length
 rotate_left
 ·rw[au (by omega),no (decide_eq_false fun h=>c1 h.1)]
 have w0:(wi (ln a-2)).tmod 5=(((a.length-2)%5:Nat):Int):=by
  rw[aI (by omega) (by omega),tm (by omega)];omega
 rw[ay (by omega),w0]
 by_cases c5:(a.length-2)%5=0
 rotate_left
 ·rw[mD (by omega),no (decide_eq_false fun h=>c5 h.2.2.2)]
 rw[iM (by omega),if_pos (by omega),if_pos (by omega),oL b0,oL b1,adv,abJ]
 by_cases c2:1<=a.getD 0 0∧a.getD 0 0<=6
 rotate_left
 ·have hr:iO (a.getD 0 0) 1 6=false:=decide_eq_false c2
  rw[hr,no (decide_eq_false fun h=>c2 h.2.1)];rfl
 rw[gQ.2 c2,Bool.not_true,cond_false,adv,abJ]
 by_cases c3:1<=a.getD 1 0∧a.getD 1 0<=6
 rotate_left
 ·have hr:iO (a.getD 1 0) 1 6=false:=decide_eq_false c3
  rw[hr,no (decide_eq_false fun h=>c3 h.2.2.1)];rfl
 rw[gQ.2 c3,Bool.not_true,cond_false]
 have hok:Gs a=true:=decide_eq_true ⟨c1,c2,c3,c5⟩
 unfold qJ
 rw[hok,if_pos rfl]
 obtain⟨W,e1⟩:∃ W:Nat,a.getD 0 0=W:=⟨(a.getD 0 0).toNat,by omega⟩
 obtain⟨H,e2⟩:∃ H:Nat,a.getD 1 0=H:=⟨(a.getD 1 0).toNat,by omega⟩
 rw[e1,e2]
 have hm:=qo (show H<=6 by omega) (show W<=6 by omega)
 have hw:wi ((W:Int)*H)=((H*W:Nat):Int):=by rw[DT,Nat.mul_comm];exact aI (by omega) (by omega)
 rw[hw,if_pos (by omega),if_pos (by omega),if_pos (by omega),aeg,aeg]
 have:=alG (show W<=6 by omega) (show H<=6 by omega) 0 0 a.length (a.drop 2) [] (by simp;omega) (by simp;omega) (iV hb 2) (by simp)
 show Ll (BX W H (a.drop 2) 0 0 [])=_
 rw[this]
 cases vS (H*W) a.length (a.drop 2) []<;>rfl
theorem agR{W H:Nat}(a:List Int)(hb:fB a)(i:Nat)(hi:i+5<=a.length)(hs:a.length<=100000)(hN:H*W<=36)(b c:Int)(out:nS×Bool):∀ (n:Nat) (acc:List iF),n<=300->acc.length+n<=1000->
  ((if gt a (i:Int) 0=0∨acc.length+n>H*W then some ((0,0,[]),false) else GZ (yP a ((i+5:Nat):Int) b c W H (acc++List.replicate n (YZ (a.drop i)))))=some out)->GZ (Pj a i n b c W H acc)=some out
 |0,acc,hn,ha,hk=>by
  have hln:=bF a
  have hla:=bF acc
  have w1:wi ((W:Int)*H)=((H*W:Nat):Int):=by rw[DT,Nat.mul_comm];exact aI (by omega) (by omega)
  have w5:wi ((i:Int)+5)=((i+5:Nat):Int):=by rw[aI (by omega) (by omega)];omega
  apply aiM;unfold ah2
  rw[ay (by omega),if_pos (by omega),if_pos (by omega),w1,w5]
  by_cases c1:gt a (i:Int) 0=0
  ·rw[if_pos (.inl c1)] at hk
   rw[aK c1];exact hk
  ·rw[aA c1]
   by_cases c2:acc.length>H*W
   ·rw[if_pos (.inr (by omega))] at hk
    rw[au (by omega)];exact hk
   ·rw[if_neg (fun h=>h.elim c1 fun q=>c2 (by omega))] at hk
    rw[ay (by omega)]
    rw[List.replicate_zero,List.append_nil] at hk
    exact hk
 |n+1,acc,hn,ha,hk=>by
  have hln:=bF a
  have w1:wi ((i:Int)+1)=((i+1:Nat):Int):=bf (by omega)
  have w2:wi ((i:Int)+2)=((i+2:Nat):Int):=by rw[aI (by omega) (by omega)];omega
  have w3:wi ((i:Int)+3)=((i+3:Nat):Int):=by rw[aI (by omega) (by omega)];omega
  have w4:wi ((i:Int)+4)=((i+4:Nat):Int):=by rw[aI (by omega) (by omega)];omega
  have gd:∀ k:Nat,gt a ((i+k:Nat):Int) 0=gt (a.drop i) (k:Int) 0:=fun k=>by
   rw[<- getD_drop];unfold gt;rw[aeg]
  apply aiM;unfold ah2
  rw[au (by omega),w1,w2,w3,w4,if_pos (by omega),if_pos (by omega),if_pos (by omega),if_pos (by omega),if_pos (by omega),if_pos (by omega),if_pos (by omega),if_pos (by omega),if_pos (by omega),
   oL (iw hb _),oL (iw hb _),oL (iw hb _),oL (iw hb _),gd 1,gd 2,gd 3,gd 4,aI (by omega) (by omega),show ((n+1:Nat):Int)-1=(n:Int) by omega]
  refine agR a hb i hi hs hN b c out n (acc++[YZ (a.drop i)]) (by omega) (by simp;omega) ?_
  have e1:(acc++[YZ (a.drop i)]).length+n=acc.length+(n+1):=by simp;omega
  rw[e1,List.append_assoc,List.singleton_append, <- List.replicate_succ]
  exact hk
def Fb(x y:nS×Bool):Prop:=x.2=y.2∧(y.2=true->x=y)
theorem alH{W H:Nat}(hN:H*W<=36)(a:List Int)(hb:fB a)(hs:a.length<=100000)(b c:Int):∀ (f i:Nat) (acc:List iF),a.length-i<=5*f->(a.length-i)%5=0->i<=a.length->acc.length<=H*W->
  ∃ out,GZ (yP a i b c W H acc)=some out∧Fb out (Y0 W H (vS (H*W) f (a.drop i) acc)):=by
 intro f
 have hln:=bF a
 have w1:wi ((W:Int)*H)=((H*W:Nat):Int):=by rw[DT,Nat.mul_comm];exact aI (by omega) (by omega)
 have fin:∀ (acc:List iF),∃ out,GZ (yP a (a.length:Nat) b c W H acc)=some out∧Fb out (Y0 W H (if acc.length=H*W then some acc else none)):=by
  intro acc
  have hla:=bF acc
  refine⟨(((W:Int),(H:Int),acc),ln acc==((H*W:Nat):Int)),?_,?_⟩
  ·apply aiL;unfold ah1
   rw[ay (by omega),w1]
  ·by_cases e:acc.length=H*W
   ·rw[if_pos e]
    have:(ln acc==((H*W:Nat):Int))=true:=beq_iff_eq.2 (by omega)
    rw[this];exact⟨rfl,fun _=>rfl⟩
   ·rw[if_neg e]
    have:(ln acc==((H*W:Nat):Int))=false:=beq_eq_false_iff_ne.2 (by omega)
    rw[this];exact⟨rfl,fun h=>by cases h⟩
 induction f with
 |zero=>
  intro i acc h1 h2 hi ha
  have:i=a.length:=by omega
  subst this
  exact fin acc
 |succ f ih=>
  intro i acc h1 h2 hi ha
  by_cases e:i=a.length
  ·subst e
   have:vS (H*W) (f+1) (a.drop a.length) acc=if acc.length=H*W then some acc else none:=by
    show (if a.drop a.length=[] then _ else _)=_
    rw[if_pos (List.drop_eq_nil_of_le (Nat.le_refl _))]
   rw[this]
   exact fin acc
  have hlt:i<a.length:=by omega
  have hne:a.drop i≠[]:=fun x=>by
   have:=congrArg List.length x
   simp at this;omega
  have b0:=iw hb (i:Int)
  have g0:(a.drop i).getD 0 0=gt a (i:Int) 0:=getD_drop
  have step:vS (H*W) (f+1) (a.drop i) acc=if gt a (i:Int) 0<1∨gt a (i:Int) 0>((H*W:Nat):Int)-acc.length then none else vS (H*W) f (a.drop (i+5)) (acc++List.replicate (gt a (i:Int) 0).toNat (YZ (a.drop i))):=by
   show (if a.drop i=[] then _ else _)=_
   rw[if_neg hne,g0,List.drop_drop]
  obtain⟨n,hn⟩:∃ n:Nat,gt a (i:Int) 0=n:=⟨(gt a (i:Int) 0).toNat,by omega⟩
  have hq:∀ out,((if gt a (i:Int) 0=0∨acc.length+n>H*W then some ((0,0,[]),false) else GZ (yP a ((i+5:Nat):Int) b c W H (acc++List.replicate n (YZ (a.drop i)))))=some out)->GZ (yP a i b c W H acc)=some out:=by
   intro out hk
   apply aiL;unfold ah1
   rw[au (by omega),if_pos (by omega),if_pos (by omega),oL b0,hn]
   exact agR a hb i (by omega) hs hN b c out n acc (by omega) (by omega) hk
  by_cases cc:gt a (i:Int) 0<1∨gt a (i:Int) 0>((H*W:Nat):Int)-acc.length
  ·refine⟨((0,0,[]),false),hq _ ?_,?_⟩
   ·rw[if_pos]
    rcases cc with c1|c1
    ·exact .inl (by omega)
    ·exact .inr (by omega)
   ·rw[step,if_pos cc];exact⟨rfl,fun h=>by cases h⟩
  ·obtain⟨out,o1,o2⟩:=ih (i+5) (acc++List.replicate n (YZ (a.drop i))) (by omega) (by omega) (by omega) (by simp;omega)
   refine⟨out,hq _ ?_,?_⟩
   ·rw[if_neg (fun h=>cc (h.elim (fun q=> .inl (by omega)) fun q=> .inr (by omega)))]
    exact o1
   ·rw[step,if_neg cc,hn,aeg]
    exact o2
theorem nU(x:nS×Bool):Fb x x:=⟨rfl,fun _=>rfl⟩
theorem aqp(a:List Int)(hb:fB a)(hs:a.length<=100000):∃ out,ae5 dd a=some out∧Fb out (qJ a):=by
 have hln:=bF a
 have b0:=iU hb 0
 have b1:=iU hb 1
 have bad:qJ a=((0,0,[]),false)->t222 dd GZ a=some ((0,0,[]),false)->∃ out,ae5 dd a=some out∧Fb out (qJ a):=fun h k=>⟨_,ak9 _ k,by rw[h];exact nU _⟩
 have no:Gs a=false->qJ a=((0,0,[]),false):=fun h=>by unfold qJ;rw[h];rfl
 by_cases c5:2<=a.length∧(a.length-2)%5=0
 rotate_left
 ·refine bad (no (decide_eq_false fun h=>c5 ⟨h.1,h.2.2.2⟩)) ?_
  unfold t222
  by_cases c7:a.length<7
  ·rw[au (by omega)]
  ·rw[ay (by omega),aI (by omega) (by omega),tm (by omega),mD (by omega)]
 obtain⟨c1,c5⟩:=c5
 by_cases c7:a.length<7
 ·
  refine bad ?_ ?_
  ·unfold qJ
   cases hok:Gs a with
   |false=>rfl
   |true=>
    obtain⟨_,h2,h3,_⟩:=of_decide_eq_true hok
    have hl2:a.length=2:=by omega
    have hd:a.drop 2=[]:=List.drop_eq_nil_of_le (by omega)
    have:vS ((a.getD 1 0).toNat*(a.getD 0 0).toNat) a.length (a.drop 2) []=none:=by
     rw[hd,hl2]
     show (if ([]:List Int)=[] then (if ([]:List iF).length=_ then _ else _) else _)=_
     rw[if_pos rfl,if_neg]
     have:=Nat.mul_le_mul (show 1<=(a.getD 1 0).toNat by omega) (show 1<=(a.getD 0 0).toNat by omega)
     show ¬ 0=_
     omega
    rw[this];rfl
  ·unfold t222
   rw[au (by omega)]
 have w0:(wi (ln a-2)).tmod 5=0:=by rw[aI (by omega) (by omega),tm (by omega)];omega
 by_cases c2:a.getD 0 0<=6
 rotate_left
 ·refine bad (no (decide_eq_false fun h=>c2 h.2.1.2)) ?_
  unfold t222
  rw[ay (by omega),w0,iM rfl,if_pos (by omega),oL b0,au (by omega)]
 by_cases c3:a.getD 1 0<=6
 rotate_left
 ·refine bad (no (decide_eq_false fun h=>c3 h.2.2.1.2)) ?_
  unfold t222
  rw[ay (by omega),w0,iM rfl,if_pos (by omega),oL b0,ay (by omega),if_pos (by omega),oL b1,au (by omega)]
 obtain⟨W,e1⟩:∃ W:Nat,a.getD 0 0=W:=⟨(a.getD 0 0).toNat,by omega⟩
 obtain⟨H,e2⟩:∃ H:Nat,a.getD 1 0=H:=⟨(a.getD 1 0).toNat,by omega⟩
 have hm:=qo (show H<=6 by omega) (show W<=6 by omega)
 obtain⟨out,o1,o2⟩:=alH (W:=W) (H:=H) hm a hb hs 0 0 a.length 2 [] (by omega) (by omega) (by omega) (by simp)
 refine⟨out,?_,?_⟩
 ·apply ak9;unfold t222
  rw[ay (by omega),w0,iM rfl,if_pos (by omega),oL b0,ay (by omega),if_pos (by omega),oL b1,ay (by omega),if_pos (by omega),if_pos (by omega),e1,e2]
  exact o1
 ·have hrr:Y0 W H (vS (H*W) a.length (a.drop 2) [])=qJ a:=by
   unfold qJ
   by_cases hz:1<=W∧1<=H
   ·have hok:Gs a=true:=decide_eq_true ⟨c1,by omega,by omega,c5⟩
    rw[hok,if_pos rfl,e1,e2,aeg,aeg]
    cases vS (H*W) a.length (a.drop 2) []<;>rfl
   ·have hok:Gs a=false:=decide_eq_false fun h=>hz ⟨by have:=h.2.1;omega,by have:=h.2.2.1;omega⟩
    rw[hok]
    have h0:H*W=0:=by
     rcases Nat.lt_or_ge 0 W with q|q
     ·have:H=0:=by omega
      rw[this,Nat.zero_mul]
     ·have:W=0:=by omega
      rw[this,Nat.mul_zero]
    have hne:a.drop 2≠[]:=fun x=>by
     have:=congrArg List.length x
     simp at this;omega
    obtain⟨q,hq⟩:∃ q,a.length=q+1:=⟨a.length-1,by omega⟩
    have:vS (H*W) a.length (a.drop 2) []=none:=by
     rw[hq,h0]
     show (if a.drop 2=[] then _ else if (a.drop 2).getD 0 0<1∨(a.drop 2).getD 0 0>((0:Nat):Int)-([]:List iF).length then none else _)=_
     rw[if_neg hne,if_pos]
     simp only[List.length_nil]
     omega
    rw[this];rfl
  rw[<- hrr];exact o2
theorem afO{a:List Int}(hb:fB a)(h:(qJ a).2=true):∃ W H,lK (qJ a).1 W H:=by
 unfold qJ at h⊢
 cases hok:Gs a with
 |false=>rw[hok] at h;cases h
 |true=>
  rw[hok,if_pos rfl] at h
  rw[if_pos rfl]
  obtain⟨_,h2,h3,_⟩:=of_decide_eq_true hok
  cases hr:vS ((a.getD 1 0).toNat*(a.getD 0 0).toNat) a.length (a.drop 2) [] with
  |none=>rw[hr] at h;cases h
  |some l=>
   obtain⟨q1,q2⟩:=Xh _ _ _ _ (iV hb 2) rfl hr
   exact⟨(a.getD 0 0).toNat,(a.getD 1 0).toNat,⟨by show a.getD 0 0=_;omega,by show a.getD 1 0=_;omega,by omega,by omega,by omega,by omega,q1,q2⟩⟩
end T
end
section
namespace T
open Go Go.E Go.Proofs
def Af(l:List Int)(k:Nat):Int:=gt l ((k/8:Nat):Int) 0/2^(k%8)%2
def nJ(l:List Int)(a:Nat):Nat->Int
 |0=>0
 |j+1=>nJ l a j+Af l (a+j)*2^j
theorem VO(l:List Int)(k:Nat):Af l k=0∨Af l k=1:=by unfold Af;omega
theorem zW(l:List Int)(a:Nat):∀ j,j<=9->0<=nJ l a j∧nJ l a j<2^j
 |0,_=>by unfold nJ;omega
 |j+1,h=>by
  obtain⟨h1,h2⟩:=zW l a j (by omega)
  have hp:=pw j (by omega)
  have:=VO l (a+j)
  unfold nJ
  rw[Int.pow_succ]
  rcases this with q|q<;>rw[q]<;>omega
theorem alI(l:List Int)(hb:fB l)(hs:l.length<=1000)(a:Nat)(ha:a+9<=8*l.length):∀ (k j:Nat),j+k=9->afx (Py l a 9 (nJ l a j) j)=some (nJ l a 9,true)
 |0,j,h=>by
  refine eL ((acO dd afx ..).trans ?_);show (_:Option (Int×Bool))=some _
  have:j=9:=by omega
  subst this
  rw[ay (by omega)]
 |k+1,j,h=>by
  have hln:=bF l
  have w1:wi ((a:Int)+j)=((a+j:Nat):Int):=by rw[aI (by omega) (by omega)];omega
  have e8:(((a+j:Nat):Int)).tdiv 8=(((a+j)/8:Nat):Int):=by rw[td (by omega)];omega
  have m8:(((a+j:Nat):Int)).tmod 8=(((a+j)%8:Nat):Int):=by rw[tm (by omega)];omega
  have w8:wi (((a+j)/8:Nat):Int)=(((a+j)/8:Nat):Int):=aI (by omega) (by omega)
  have mt:min ((((a+j)%8:Nat):Int)).toNat IntKind.i64.bits=(a+j)%8:=S9 (by show (a+j)%8<=64;omega)
  have mj:min ((j:Int)).toNat IntKind.i64.bits=j:=S9 (by show j<=64;omega)
  have hg:=iw hb (((a+j)/8:Nat):Int)
  have hp:=YT (m:=(a+j)%8) (by omega)
  have hpj:=pw j (by omega)
  have hnb:=zW l a j (by omega)
  have hv:(((gt l (((a+j)/8:Nat):Int) 0)).fdiv (2^((a+j)%8))).tmod 2=Af l (a+j):=by
   rw[fd (by omega),tm (Int.ediv_nonneg hg.1 (by omega))];rfl
  have h01:=VO l (a+j)
  have next:=alI l hb hs a ha k (j+1) (by omega)
  have e:nJ l a (j+1)=nJ l a j+Af l (a+j)*2^j:=rfl
  rw[e] at next
  refine eL ((acO dd afx ..).trans ?_);show (_:Option (Int×Bool))=some _
  rw[au (by omega),w1,e8,w8,m8,mt,mj,if_pos (by omega),if_pos (by omega),if_pos (by omega),if_pos (by omega),oL hg,hv,bf (by omega)]
  have w2:wi (Af l (a+j)*2^j)=Af l (a+j)*2^j:=by rcases h01 with q|q<;>rw[q]<;>exact aI (by omega) (by omega)
  have w3:wi (nJ l a j+Af l (a+j)*2^j)=nJ l a j+Af l (a+j)*2^j:=by rcases h01 with q|q<;>rw[q]<;>exact aI (by omega) (by omega)
  rw[w2,w3]
  exact next
theorem alJ(l:List Int)(hb:fB l)(hs:l.length<=1000)(a:Nat)(ha:a<=100000):aky dd (l,(a:Int),9)=some (if a+9<=8*l.length then (nJ l a 9,true) else (0,false)):=by
 have hln:=bF l
 refine dL rfl ((ao9 dd afx ..).trans ?_);show (_:Option (Int×Bool))=some _
 rw[ay (by omega),VE,abJ,gQ.2 (by omega),Bool.not_true,cond_false,aI (x:=8*ln l) (by omega) (by omega),aI (by omega) (by omega)]
 by_cases h:a+9<=8*l.length
 ·rw[ay (by omega),if_pos h]
  exact alI l hb hs a h 9 0 (by omega)
 ·rw[au (by omega),if_neg h]
def endOk(l:List Int)(a:Nat):Bool:=decide ((a+7)/8=l.length∧(a%8=0∨gt l ((a/8:Nat):Int) 0/2^(a%8)=0))
theorem adC(b:Int)(m:Nat)(h0:0<=b):b/2^m=0↔b/2^m%2=0∧b/2^(m+1)=0:=by
 have e:b/2^(m+1)=b/2^m/2:=by
  rw[Int.pow_succ,Int.ediv_ediv_of_nonneg]
  exact Int.le_of_lt (Int.pow_pos (by decide))
 rw[e]
 omega
theorem alK(l:List Int)(hb:fB l)(q:Nat)(hq:q+1=l.length)(hs:l.length<=1000):∀ (k m:Nat),m+k=8->acP (Pz l ((8*q+m:Nat):Int))=some (decide (gt l (q:Int) 0/2^m=0))
 |0,m,h=>by
  have hln:=bF l
  have:m=8:=by omega
  subst this
  have hg:=iw hb (q:Int)
  have e:gt l (q:Int) 0/2^8=0:=by omega
  refine eL ((Vw dd acP ..).trans ?_);show (_:Option Bool)=some _
  rw[aI (by omega) (by omega),ay (by omega),decide_eq_true e]
 |k+1,m,h=>by
  have hln:=bF l
  have hg:=iw hb (q:Int)
  have e8:(((8*q+m:Nat):Int)).tdiv 8=(q:Int):=by rw[td (by omega)];omega
  have m8:(((8*q+m:Nat):Int)).tmod 8=(m:Int):=by rw[tm (by omega)];omega
  have w8:wi (q:Int)=q:=aI (by omega) (by omega)
  have mt:min ((m:Int)).toNat IntKind.u8.bits=m:=S9 (by show m<=8;omega)
  have hp:=YT (m:=m) (by omega)
  have hnn:0<=gt l (q:Int) 0/2^m:=Int.ediv_nonneg hg.1 (by omega)
  have hds:=adC (gt l (q:Int) 0) m hg.1
  refine eL ((Vw dd acP ..).trans ?_);show (_:Option Bool)=some _
  rw[aI (x:=8*ln l) (by omega) (by omega),au (by omega),e8,w8,m8,mt,if_pos (by omega),if_pos (by omega),if_pos (by omega),fd (by omega),tm hnn]
  by_cases c:gt l (q:Int) 0/2^m%2=1
  ·rw[aK c,decide_eq_false (by omega)]
  ·rw[aA c,bf (by omega)]
   have:=alK l hb q hq hs k (m+1) (by omega)
   rw[show 8*q+m+1=8*q+(m+1) by omega,this]
   have:decide (gt l (q:Int) 0/2^m=0)=decide (gt l (q:Int) 0/2^(m+1)=0):=by
    by_cases z:gt l (q:Int) 0/2^(m+1)=0
    ·rw[decide_eq_true z,decide_eq_true (hds.2 ⟨by omega,z⟩)]
    ·rw[decide_eq_false z,decide_eq_false (fun x=>z (hds.1 x).2)]
   rw[this]
theorem aqr(l:List Int)(hb:fB l)(hs:l.length<=1000)(a:Nat)(ha:(a+7)/8=l.length)(h1:1<=a):akz dd (l,(a:Int))=some (endOk l a):=by
 have hln:=bF l
 refine dL rfl ((apa dd acP ..).trans ?_);show (_:Option Bool)=some _
 by_cases c:a%8=0
 ·have:endOk l a=true:=decide_eq_true ⟨ha,.inl c⟩
  rw[this]
  refine eL ((Vw dd acP ..).trans ?_);show (_:Option Bool)=some _
  rw[aI (by omega) (by omega),ay (by omega)]
 ·have:=alK l hb (a/8) (by omega) hs (8-a%8) (a%8) (by omega)
  rw[show 8*(a/8)+a%8=a by omega] at this
  rw[this]
  unfold endOk
  congr 1
  exact decide_eq_decide.2 ⟨fun h=>⟨ha,.inr h⟩,fun h=>h.2.resolve_left c⟩
theorem aqs(l:List Int)(hb:fB l)(hs:l.length<=1000)(a:Nat)(ha:a<=100000):akZ dd (l,(a:Int))=some (endOk l a):=by
 have hln:=bF l
 refine dL rfl ((ap6 dd ap7 ..).trans ?_);show (_:Option Bool)=some _
 have w7:wi ((a:Int)+7)=((a+7:Nat):Int):=by rw[aI (by omega) (by omega)];omega
 have e7:(((a+7:Nat):Int)).tdiv 8=(((a+7)/8:Nat):Int):=by rw[td (by omega)];omega
 have w8:wi (((a+7)/8:Nat):Int)=(((a+7)/8:Nat):Int):=aI (by omega) (by omega)
 have m8:((a:Int)).tmod 8=((a%8:Nat):Int):=by rw[tm (by omega)];omega
 have e8:((a:Int)).tdiv 8=((a/8:Nat):Int):=by rw[td (by omega)];omega
 have wa:wi ((a/8:Nat):Int)=((a/8:Nat):Int):=aI (by omega) (by omega)
 rw[w7,e7,w8,m8,e8,wa]
 by_cases c1:(a+7)/8=l.length
 rotate_left
 ·rw[mD (by omega)]
  have:endOk l a=false:=decide_eq_false fun h=>c1 h.1
  rw[this]
 rw[iM (by omega)]
 by_cases c:a%8=0
 ·have:endOk l a=true:=decide_eq_true ⟨c1,.inl c⟩
  rw[aK (by omega),this]
 ·have mt:min (((a%8:Nat):Int)).toNat IntKind.u8.bits=a%8:=S9 (by show a%8<=8;omega)
  have hp:=YT (m:=a%8) (by omega)
  rw[aA (by omega),if_pos (by omega),if_pos (by omega),if_pos (by omega),mt,fd (by omega)]
  unfold endOk
  congr 1
  by_cases z:gt l ((a/8:Nat):Int) 0/2^(a%8)=0
  ·rw[decide_eq_true ⟨c1,.inr z⟩];exact beq_iff_eq.2 z
  ·rw[decide_eq_false fun h=>z (h.2.resolve_left c)];exact beq_eq_false_iff_ne.2 z
end T
end
section
namespace T
open Go Go.E Go.Proofs
def oO(b:List Int):Int:=b.getD 0 0
def Qi(met:List (List Int))(last:List Int)(c:Int):Option (List Int):=
 if c<256 then some [c]
 else if c-257<met.length then some (gt met (c-257) [])
 else if c-257=met.length∧0<last.length∧met.length<255 then some (last++[oO last]) else none
def Ag(met:List (List Int))(last b:List Int):List (List Int):=if 0<last.length∧met.length<255 then met++[last++[oO b]] else met
def Fe(l:List Int):Nat->Nat->List Int->List (List Int)->List Int->List Int×Bool
 |0,_,_,_,_=>([],false)
 |f+1,a,last,met,out=>if a+9<=8*l.length then
   (if nJ l a 9=256 then (if endOk l (a+9) then (out,true) else ([],false)) else
    match Qi met last (nJ l a 9) with
    |none=>([],false)
    |some b=>if out.length+b.length<=200 then Fe l f (a+9) b (Ag met last b) (out++b) else ([],false))
  else ([],false)
structure PG (last:List Int) (met:List (List Int)) (out:List Int):Prop where
 o1:out.length<=200
 o2:fB out
 l1:last.length<=out.length
 l2:last=out.drop (out.length-last.length)
 l3:out≠[]->0<last.length
 m1:met.length<=255
 m2:∀ (i:Nat) (h:i<met.length),2<=met[i].length∧∃ a,a+met[i].length<=out.length∧met[i]=(out.drop a).take met[i].length
theorem PG.nil:PG [] [] []:=⟨by simp,iC,by simp,rfl,fun h=>absurd rfl h,by simp,fun i h=>absurd h (Nat.not_lt_zero _)⟩
theorem PG.alL{last:List Int}{met:List (List Int)}{out:List Int}(h:PG last met out){i:Nat}(hi:i<met.length):fB met[i]:=by
 obtain⟨_,a,_,e⟩:=h.m2 i hi
 rw[e];exact jY (iV h.o2 a) _
theorem PG.lastB{last:List Int}{met:List (List Int)}{out:List Int}(h:PG last met out):fB last:=by rw[h.l2];exact iV h.o2 _
theorem Nj{b:List Int}(h:fB b):0<=oO b∧oO b<256:=iU h 0
theorem Ti{last:List Int}{met:List (List Int)}{out:List Int}(h:PG last met out){c:Int}(h0:0<=c)(h1:c<512)(hne:c≠256){b:List Int}(hb:Qi met last c=some b):fB b∧1<=b.length∧b.length<=201:=by
 unfold Qi at hb
 split at hb
 ·cases hb;exact⟨bV.2 ⟨by omega,iC⟩,by simp,by simp⟩
 ·split at hb
  ·cases hb
   obtain⟨i,hi⟩:∃ i:Nat,c-257=i:=⟨(c-257).toNat,by omega⟩
   rw[hi,gB (by omega)]
   have hm:=h.m2 i (by omega)
   have:=h.o1
   obtain⟨h2,a,h3,_⟩:=hm
   exact⟨h.alL _,by omega,by omega⟩
  ·split at hb
   ·cases hb
    have:=h.l1;have:=h.o1
    exact⟨mg.2 ⟨h.lastB,bV.2 ⟨Nj h.lastB,iC⟩⟩,by simp,by simp;omega⟩
   ·cases hb
theorem Tj{α:Type}{l m:List α}{a n:Nat}(h:a+n<=l.length):((l++m).drop a).take n=(l.drop a).take n:=by
 rw[List.drop_append_of_le_length (by omega),List.take_append_of_le_length (by simp;omega)]
theorem PG.step{last:List Int}{met:List (List Int)}{out:List Int}(h:PG last met out){b:List Int}(hb:fB b)(h1:1<=b.length)(hl:out.length+b.length<=200):PG b (Ag met last b) (out++b):=by
 refine⟨by simp;omega,mg.2 ⟨h.o2,hb⟩,by simp,?_,fun _=>h1,?_,?_⟩
 ·rw[List.length_append,Nat.add_sub_cancel]
  rw[List.drop_append_of_le_length (Nat.le_refl _),List.drop_eq_nil_of_le (Nat.le_refl _),List.nil_append]
 ·have:=h.m1
  unfold Ag;split
  ·simp;omega
  ·exact this
 ·have old:∀ (i:Nat) (hi:i<met.length),2<=met[i].length∧∃ a,a+met[i].length<=(out++b).length∧met[i]=((out++b).drop a).take met[i].length:=fun i hi=>by
   obtain⟨q1,a,q2,q3⟩:=h.m2 i hi
   exact⟨q1,a,by simp;omega,by rw[Tj q2];exact q3⟩
  intro i hi
  unfold Ag at hi⊢
  split
  ·rename_i hc
   rw[if_pos hc] at hi
   rcases Nat.lt_or_ge i met.length with q|q
   ·simp only[List.getElem_append_left q]
    exact old i q
   ·have hi':i=met.length:=by simp at hi;omega
    subst hi'
    have e:(met++[last++[oO b]])[met.length]=last++[oO b]:=by simp
    simp only[e]
    have hlast:=h.l1
    refine⟨by simp;omega,out.length-last.length,by simp;omega,?_⟩
    have hd:(out++b).drop (out.length-last.length)=last++b:=by
     rw[List.drop_append_of_le_length (by omega), <- h.l2]
    rw[hd,List.length_append]
    obtain⟨x,r,rfl⟩:∃ x r,b=x::r:=by
     cases b with
     |nil=>simp at h1
     |cons x r=>exact⟨x,r,rfl⟩
    show last++[x]=(last++x::r).take (last.length+1)
    rw[List.take_length_add_append]
    rfl
  ·rename_i hc
   rw[if_neg hc] at hi
   exact old i hi
def Tn(sp:List afb)(met:List (List Int))(out:List Int):Prop:=sp.length=met.length∧∀ (i:Nat) (h:i<met.length),∃ a:Nat,gt sp (i:Int) (0,0)=((a:Int),(met[i].length:Int))∧a+met[i].length<=out.length∧met[i]=(out.drop a).take met[i].length
def qp(out:List Int)(a:Nat):Nat->List Int
 |0=>out
 |n+1=>qp out a n++[gt (qp out a n) ((a+n:Nat):Int) 0]
theorem Fg(out:List Int)(a:Nat):∀ n,(qp out a n).length=out.length+n
 |0=>rfl
 |n+1=>by
  show (qp out a n++[_]).length=_
  rw[List.length_append,Fg out a n];rfl
theorem Fh{out:List Int}{a:Nat}:∀ (n:Nat),a+n<=out.length->qp out a n=out++(out.drop a).take n
 |0,_=>by simp[qp]
 |n+1,h=>by
  show qp out a n++[_]=_
  rw[Fh n (by omega),gB (by simp;omega)]
  rw[List.getElem_append_left (by omega),List.append_assoc]
  congr 1
  have:(out.drop a).take (n+1)=(out.drop a).take n++[(out.drop a)[n]'(by simp;omega)]:=by
   rw[List.take_succ_eq_append_getElem]
  rw[this,List.getElem_drop]
theorem Y1{out last:List Int}(h1:last=out.drop (out.length-last.length))(h2:0<last.length)(h3:last.length<=out.length):qp out (out.length-last.length) (last.length+1)=out++(last++[oO last]):=by
 show qp out (out.length-last.length) last.length++[_]=_
 rw[Fh _ (by omega), <- h1,List.take_length]
 have e:out.length-last.length+last.length=out.length:=by omega
 rw[e,gB (by simp;omega),List.getElem_append_right (Nat.le_refl _),List.append_assoc]
 congr 2
 have:oO last=last[0]:=by
  unfold oO
  rw[List.getD_eq_getElem?_getD,List.getElem?_eq_getElem h2];rfl
 rw[this]
 simp
theorem adD(st la ls:Int)(sp:List afb)(a n:Nat)(out:List Int)(ho:out.length+n<=1000)(ha:a<out.length)(hst:st=(out.length:Int))(R:Bool×List Int×List afb×Int×Int):∀ (k j:Nat),j+k=n->
  some (decide ((qp out a n).length<=200),qp out a n,sp,st,(n:Int))=some R->J7 (Qc st n j la ls (qp out a j) sp a n)=some R
 |0,j,h,hk=>by
  have:j=n:=by omega
  subst this
  have hlc:=Fg out a j
  have hln:=bF (qp out a j)
  refine eL ((adt dd J7 ..).trans ?_);show (_:Option zT7)=some _
  rw[ay (by omega)]
  refine eL ((ads dd J7 ..).trans ?_);show (_:Option zT7)=some _
  rw[aI (by omega) (by omega), <- hk]
  have e1:decide (ln (qp out a j)<=200)=decide ((qp out a j).length<=200):=decide_eq_decide.2 (by omega)
  have e2:ln (qp out a j)-st=j:=by omega
  rw[e1,e2]
 |k+1,j,h,hk=>by
  have hlc:=Fg out a j
  have hln:=bF (qp out a j)
  have w1:wi ((a:Int)+j)=((a+j:Nat):Int):=by rw[aI (by omega) (by omega)];omega
  refine eL ((adt dd J7 ..).trans ?_);show (_:Option zT7)=some _
  rw[au (by omega),w1,if_pos (by omega),if_pos (by omega),if_pos (by omega),bf (by omega)]
  exact adD st la ls sp a n out ho ha hst R k (j+1) (by omega) hk
def Nk(sp:List afb)(out last:List Int):List afb:=if 0<out.length∧sp.length<255 then sp++[(((out.length-last.length:Nat):Int),(last.length:Int)+1)] else sp
theorem Nl{sp:List afb}{q:Int×Int}{i:Nat}(h:i<sp.length):gt (sp++[q]) (i:Int) (0,0)=gt sp (i:Int) (0,0):=by
 rw[gB (by simp;omega),gB h,List.getElem_append_left h]
theorem aqt{last:List Int}{met:List (List Int)}{out:List Int}(h:PG last met out){sp:List afb}(hs:Tn sp met out){c:Int}(h0:0<=c)(h1:c<512)(hne:c≠256)(la:Int)(hla:out≠[]->la=((out.length-last.length:Nat):Int)):
  match Qi met last c with
  |none=>∃ R,ae9 dd ((out,sp,la,(last.length:Int)),c)=some (false,R)
  |some b=>ae9 dd ((out,sp,la,(last.length:Int)),c)=some (decide (out.length+b.length<=200),out++b,Nk sp out last,(out.length:Int),(b.length:Int)):=by
 have hln:=bF out
 have hls:=bF sp
 have hlen:=hs.1
 have ho1:=h.o1
 have hm1:=h.m1
 have hl1:=h.l1
 have start:∀ R,J7 (J6 c (ln out) la (last.length:Int) out (Nk sp out last))=some R->ae9 dd ((out,sp,la,(last.length:Int)),c)=some R:=by
  intro R hk
  refine dL rfl ((ap5 dd J7 ..).trans ?_);show (_:Option zT7)=some _
  unfold Nk at hk
  by_cases c1:0<out.length
  ·have aqu:=hla (fun x=>by rw[x] at c1;simp at c1)
   rw[au (by omega),aI (by omega) (by omega)]
   by_cases c2:sp.length<255
   ·rw[if_pos ⟨c1,c2⟩] at hk
    rw[au (by omega),if_pos (by omega),aI (by omega) (by omega)]
    rw[aqu] at hk⊢
    exact hk
   ·rw[if_neg (fun x=>c2 x.2)] at hk
    rw[ay (by omega)]
    exact hk
  ·rw[if_neg (fun x=>c1 x.1)] at hk
   rw[ay (by omega)]
   exact hk
 have atS:=bF (Nk sp out last)
 unfold Qi
 by_cases c1:c<256
 ·rw[if_pos c1]
  refine start _ ?_
  refine eL ((Qd dd J7 ..).trans ?_);show (_:Option zT7)=some _
  rw[au c1,if_pos (by omega),jy h0 c1]
  refine eL ((ads dd J7 ..).trans ?_);show (_:Option zT7)=some _
  have hl2:=bF (out.append [c])
  have hl3:(out.append [c]).length=out.length+1:=by show (out++[c]).length=_;simp
  rw[aI (by omega) (by omega)]
  have e1:decide (ln (out.append [c])<=200)=decide (out.length+[c].length<=200):=decide_eq_decide.2 (by rw[List.length_singleton];omega)
  rw[e1,show ln (out.append [c])-ln out=(([c]:List Int).length:Int) by rw[List.length_singleton];omega,hln]
  rfl
 rw[if_neg c1]
 have w1:wi (c-257)=c-257:=aI (by omega) (by omega)
 by_cases c2:c-257<met.length
 ·rw[if_pos c2]
  refine start _ ?_
  obtain⟨i,hi⟩:∃ i:Nat,c-257=i:=⟨(c-257).toNat,by omega⟩
  have him:i<met.length:=by omega
  obtain⟨a,g1,g2,g3⟩:=hs.2 i him
  have hm2:=(h.m2 i him).1
  have hsl:i<(Nk sp out last).length:=by unfold Nk;split<;>(try simp)<;>omega
  have hg:gt (Nk sp out last) (i:Int) (0,0)=((a:Int),(met[i].length:Int)):=by
   unfold Nk;split
   ·rw[Nl (by omega)];exact g1
   ·exact g1
  have hgm:gt met (c-257) []=met[i]:=by rw[hi,gB him]
  refine eL ((Qd dd J7 ..).trans ?_);show (_:Option zT7)=some _
  rw[ay c1,au (by omega),w1,hi,au (by omega),if_pos (by omega),if_pos (by omega),hg]
  refine adD _ la _ _ a met[i].length out (by omega) (by omega) hln _ met[i].length 0 (by omega) ?_
  rw[Fh _ g2, <- g3, <- hi,hgm,hln]
  simp
 rw[if_neg c2]
 by_cases c3:c-257=met.length∧0<last.length∧met.length<255
 ·rw[if_pos c3]
  refine start _ ?_
  obtain⟨c3,c4,c5⟩:=c3
  have hpos:0<out.length:=by omega
  have hsg:Nk sp out last=sp++[(((out.length-last.length:Nat):Int),(last.length:Int)+1)]:=by
   unfold Nk;rw[if_pos ⟨hpos,by omega⟩]
  have hg:gt (Nk sp out last) (met.length:Int) (0,0)=(((out.length-last.length:Nat):Int),(last.length:Int)+1):=by
   rw[hsg, <- hlen,gB (by simp)];simp
  have hsl:(Nk sp out last).length=met.length+1:=by rw[hsg];simp;omega
  refine eL ((Qd dd J7 ..).trans ?_);show (_:Option zT7)=some _
  rw[ay c1,au (by omega),w1,c3,au (by omega),if_pos (by omega),if_pos (by omega),hg]
  have:=adD (ln out) la (last.length:Int) (Nk sp out last) (out.length-last.length) (last.length+1) out (by omega) (by omega) hln _ (last.length+1) 0 (by omega) rfl
  rw[Y1 h.l2 c4 hl1] at this
  rw[hln] at this⊢
  have e:(out++(last++[oO last])).length=out.length+(last++[oO last]).length:=by simp
  rw[e] at this
  have e2:(((last++[oO last]).length:Nat):Int)=((last.length+1:Nat):Int):=by simp
  rw[e2]
  exact this
 ·rw[if_neg c3]
  refine⟨(out,Nk sp out last,la,(last.length:Int)),start _ ?_⟩
  refine eL ((Qd dd J7 ..).trans ?_);show (_:Option zT7)=some _
  rw[ay c1]
  by_cases c4:c≥257
  ·have hsg:(Nk sp out last).length=met.length∨((Nk sp out last).length=met.length+1∧0<out.length∧met.length<255):=by
    unfold Nk;split
    ·right;simp;omega
    ·left;exact hlen
   rw[au c4,w1,ay ?_]
   rcases hsg with q|⟨q,q2,q3⟩
   ·omega
   ·have:=h.l3 (fun x=>by rw[x] at q2;simp at q2)
    omega
  ·rw[ay c4]
theorem Tn.step{last:List Int}{met:List (List Int)}{out:List Int}(h:PG last met out){sp:List afb}(hs:Tn sp met out){b:List Int}(h1:1<=b.length):Tn (Nk sp out last) (Ag met last b) (out++b):=by
 have hlen:=hs.1
 have old:∀ (i:Nat) (h:i<met.length),∃ a:Nat,gt sp (i:Int) (0,0)=((a:Int),(met[i].length:Int))∧a+met[i].length<=(out++b).length∧met[i]=((out++b).drop a).take met[i].length:=fun i hi=>by
  obtain⟨a,q1,q2,q3⟩:=hs.2 i hi
  exact⟨a,q1,by simp;omega,by rw[Tj q2];exact q3⟩
 have hl1:=h.l1
 have hiff:(0<out.length∧sp.length<255)↔(0<last.length∧met.length<255):=by
  constructor
  ·intro ⟨q1,q2⟩
   exact⟨h.l3 (fun x=>by rw[x] at q1;simp at q1),by omega⟩
  ·intro ⟨q1,q2⟩;exact⟨by omega,by omega⟩
 unfold Nk Ag
 by_cases c:0<last.length∧met.length<255
 ·rw[if_pos (hiff.2 c),if_pos c]
  refine⟨by simp;omega,fun i hi=> ?_⟩
  rcases Nat.lt_or_ge i met.length with q|q
  ·simp only[List.getElem_append_left q]
   rw[Nl (by omega)]
   exact old i q
  ·have hi':i=met.length:=by simp at hi;omega
   subst hi'
   have e:(met++[last++[oO b]])[met.length]=last++[oO b]:=by simp
   simp only[e]
   refine⟨out.length-last.length,?_,by simp;omega,?_⟩
   ·rw[<- hlen,gB (by simp)];simp
   ·have hd:(out++b).drop (out.length-last.length)=last++b:=by
     rw[List.drop_append_of_le_length (by omega), <- h.l2]
    rw[hd,List.length_append]
    obtain⟨x,r,rfl⟩:∃ x r,b=x::r:=by
     cases b with
     |nil=>simp at h1
     |cons x r=>exact⟨x,r,rfl⟩
    show last++[x]=(last++x::r).take (last.length+1)
    rw[List.take_length_add_append]
    rfl
 ·rw[if_neg (fun x=>c (hiff.1 x)),if_neg c]
  exact⟨hlen,old⟩
theorem aqv(n v:Int)(j:Nat)(hj:j<=8)(h0:0<=n)(h1:n<2^j)(hv:v=0∨v=1):wi (↑(BitVec.ofInt IntKind.i64.bits n|||BitVec.ofInt IntKind.i64.bits (v*2^j)).toNat:Int)=n+v*2^j:=by
 have hp:=pw j hj
 have hpn:((2^j:Nat):Int)=2^j:=by simp
 have e:(BitVec.ofInt IntKind.i64.bits n|||BitVec.ofInt IntKind.i64.bits (v*2^j)).toNat=n.toNat+v.toNat*2^j:=by
  rw[BitVec.toNat_or,BitVec.toNat_ofInt,BitVec.toNat_ofInt]
  show (n%18446744073709551616).toNat|||(v*2^j%18446744073709551616).toNat=_
  have e1:(n%18446744073709551616).toNat=n.toNat:=by omega
  have e2:(v*2^j%18446744073709551616).toNat=2^j*v.toNat:=by
   rcases hv with rfl|rfl
   ·simp
   ·rw[Int.one_mul,Int.emod_eq_of_lt (by omega) (by omega), <- hpn,aeg];simp
  rw[e1,e2,Nat.or_comm, <- Nat.two_pow_add_eq_or_of_lt (by omega),Nat.mul_comm]
  omega
 rw[e]
 have:((n.toNat+v.toNat*2^j:Nat):Int)=n+v*2^j:=by
  rcases hv with rfl|rfl
  ·simp;omega
  ·simp;omega
 rw[this]
 rcases hv with rfl|rfl<;>exact aI (by omega) (by omega)
theorem agS(l:List Int)(hb:fB l)(hs:l.length<=1000)(a:Nat)(ha:a+9<=8*l.length)(x2 x3:Int)(out:List Int)(sp:List afb)(R:List Int×Bool):∀ (k j:Nat),j+k=9->
  SQ (J5 (nJ l a 9) 9 9 l l ((a+9:Nat):Int) false x2 x3 out sp)=some R->SQ (J5 (nJ l a j) 9 j l l ((a+j:Nat):Int) false x2 x3 out sp)=some R
 |0,j,h,hk=>by
  have:j=9:=by omega
  subst this;exact hk
 |k+1,j,h,hk=>by
  have hln:=bF l
  have e8:(((a+j:Nat):Int)).tdiv 8=(((a+j)/8:Nat):Int):=by rw[td (by omega)];omega
  have m8:(((a+j:Nat):Int)).tmod 8=(((a+j)%8:Nat):Int):=by rw[tm (by omega)];omega
  have w8:wi (((a+j)/8:Nat):Int)=(((a+j)/8:Nat):Int):=aI (by omega) (by omega)
  have mt:min ((((a+j)%8:Nat):Int)).toNat IntKind.u8.bits=(a+j)%8:=S9 (by show (a+j)%8<=8;omega)
  have mj:min ((j:Int)).toNat IntKind.i64.bits=j:=S9 (by show j<=64;omega)
  have hg:=iw hb (((a+j)/8:Nat):Int)
  have hp:=YT (m:=(a+j)%8) (by omega)
  have hpj:=pw j (by omega)
  obtain⟨n0,n1⟩:=zW l a j (by omega)
  have h01:=VO l (a+j)
  have hv:wb (↑(BitVec.ofInt IntKind.u8.bits ((gt l (((a+j)/8:Nat):Int) 0).fdiv (2^((a+j)%8)))&&&BitVec.ofInt IntKind.u8.bits 1).toNat:Int)=Af l (a+j):=by
   rw[fd (by omega),als _ (Int.ediv_nonneg hg.1 (by omega))];rfl
  have e:nJ l a (j+1)=nJ l a j+Af l (a+j)*2^j:=rfl
  have next:=agS l hb hs a ha x2 x3 out sp R k (j+1) (by omega) hk
  rw[e] at next
  refine eL ((adr dd SQ ..).trans ?_)
  rw[au (by omega),e8,w8,m8,mt,mj,if_pos (by omega),if_pos (by omega),if_pos (by omega),if_pos (by omega),hv]
  have w1:wi (Af l (a+j))=Af l (a+j):=by rcases h01 with q|q<;>rw[q]<;>exact aI (by omega) (by omega)
  have w2:wi (Af l (a+j)*2^j)=Af l (a+j)*2^j:=by rcases h01 with q|q<;>rw[q]<;>exact aI (by omega) (by omega)
  rw[w1,w2,aqv _ _ j (by omega) n0 n1 h01,bf (by omega),bf (by omega)]
  exact next
theorem alM(l:List Int)(hb:fB l)(hs:l.length<=300):∀ (f j:Nat) (last:List Int) (met:List (List Int)) (out:List Int) (sp:List afb) (la:Int),f+j=l.length+1->PG last met out->Tn sp met out->(out≠[]->la=((out.length-last.length:Nat):Int))->
  SQ (Qb l l ((9*j:Nat):Int) false la (last.length:Int) out sp)=some (Fe l f (9*j) last met out)
 |0,j,last,met,out,sp,la,h,_,_,_=>by
  have hln:=bF l
  refine eL ((adq dd SQ ..).trans ?_)
  rw[cond_false,ay (by omega),aI (x:=8*ln l) (by omega) (by omega),aI (by omega) (by omega),au (by omega)]
  rfl
 |f+1,j,last,met,out,sp,la,h,hp,hsp,hla=>by
  have hln:=bF l
  refine eL ((adq dd SQ ..).trans ?_)
  rw[cond_false,ay (by omega),aI (x:=8*ln l) (by omega) (by omega),aI (by omega) (by omega)]
  by_cases c:9*j+9<=8*l.length
  rotate_left
  ·rw[au (by omega)]
   show _=some (if 9*j+9<=8*l.length then _ else _)
   rw[if_neg c]
  rw[ay (by omega)]
  obtain⟨n0,n1⟩:=zW l (9*j) 9 (by omega)
  have n1:nJ l (9*j) 9<512:=n1
  have st:Fe l (f+1) (9*j) last met out=(if nJ l (9*j) 9=256 then (if endOk l (9*j+9) then (out,true) else ([],false)) else
    match Qi met last (nJ l (9*j) 9) with
    |none=>([],false)
    |some b=>if out.length+b.length<=200 then Fe l f (9*j+9) b (Ag met last b) (out++b) else ([],false)):=by
   show (if 9*j+9<=8*l.length then _ else _)=_
   rw[if_pos c]
  refine agS l hb (by omega) (9*j) c la (last.length:Int) out sp _ 9 0 (by omega) ?_
  rw[st]
  refine eL ((adr dd SQ ..).trans ?_)
  rw[ay (by omega),cond_false]
  by_cases c2:nJ l (9*j) 9=256
  ·rw[aK c2,if_pos c2,aqs l hb (by omega) _ (by omega),abJ]
   cases endOk l (9*j+9)<;>rfl
  ·rw[aA c2,if_neg c2]
   have hD:=aqt hp hsp n0 n1 c2 la hla
   cases hg:Qi met last (nJ l (9*j) 9) with
   |none=>
    rw[hg] at hD
    obtain⟨R,hD⟩:=hD
    rw[hD,abJ];rfl
   |some b=>
    rw[hg] at hD
    dsimp only at hD⊢
    rw[hD,abJ]
    obtain⟨b1,b2,b3⟩:=Ti hp n0 n1 c2 hg
    by_cases c3:out.length+b.length<=200
    ·rw[if_pos c3,decide_eq_true c3]
     have:=alM l hb hs f (j+1) b (Ag met last b) (out++b) (Nk sp out last) (out.length:Int) (by omega) (hp.step b1 b2 c3) (hsp.step hp b2) (fun _=>by simp)
     rw[show 9*(j+1)=9*j+9 by omega] at this
     exact this
    ·rw[if_neg c3,decide_eq_false c3];rfl
def yS(l:List Int):List Int×Bool:=Fe l (l.length+1) 0 [] [] []
theorem aqw(l:List Int)(hb:fB l)(hs:l.length<=300):akY dd l=some (yS l):=by
 refine dL rfl ((ap4 dd SQ ..).trans ?_)
 exact alM l hb hs (l.length+1) 0 [] [] [] [] 0 (by omega) PG.nil ⟨rfl,fun i h=>absurd h (Nat.not_lt_zero _)⟩ (fun h=>absurd rfl h)
theorem Tq(l:List Int):∀ (f a:Nat) (last:List Int) (met:List (List Int)) (out:List Int),PG last met out->fB (Fe l f a last met out).1∧(Fe l f a last met out).1.length<=200
 |0,_,_,_,_,_=>⟨iC,Nat.zero_le _⟩
 |f+1,a,last,met,out,hp=>by
  have no:fB (([],false):List Int×Bool).1∧(([],false):List Int×Bool).1.length<=200:=⟨iC,Nat.zero_le _⟩
  have st:Fe l (f+1) a last met out=if a+9<=8*l.length then
   (if nJ l a 9=256 then (if endOk l (a+9) then (out,true) else ([],false)) else
    match Qi met last (nJ l a 9) with
    |none=>([],false)
    |some b=>if out.length+b.length<=200 then Fe l f (a+9) b (Ag met last b) (out++b) else ([],false))
   else ([],false):=rfl
  rw[st]
  obtain⟨n0,n1⟩:=zW l a 9 (by omega)
  have n1:nJ l a 9<512:=n1
  generalize nJ l a 9=c at*
  by_cases c1:a+9<=8*l.length
  ·rw[if_pos c1]
   by_cases c2:c=256
   ·rw[if_pos c2]
    cases endOk l (a+9) with
    |true=>exact⟨hp.o2,hp.o1⟩
    |false=>exact no
   ·rw[if_neg c2]
    cases hg:Qi met last c with
    |none=>exact no
    |some b=>
     dsimp only
     by_cases c3:out.length+b.length<=200
     ·rw[if_pos c3]
      obtain⟨b1,b2,b3⟩:=Ti hp n0 n1 c2 hg
      exact Tq l f _ _ _ _ (hp.step b1 b2 c3)
     ·rw[if_neg c3];exact no
  ·rw[if_neg c1];exact no
end T
end
section
namespace T
open Go Go.E Go.Proofs
theorem Tt{o:List (List Int)}{i:Nat}(h:i<o.length):gt o (i:Int) []=o[i]:=gB h
theorem alN(l:List Int)(hb:fB l)(hs:l.length<=300):∀ (f j:Nat) (last:List Int) (met:List (List Int)) (out:List Int),f+j=l.length+1->PG last met out->acM (pO l last ((9*j:Nat):Int) out met)=some (Fe l f (9*j) last met out)
 |0,j,last,met,out,h,_=>by
  refine eL ((acL dd acM ..).trans ?_);show (_:Option agj)=some _
  rw[au (by omega),alJ l hb (by omega) (9*j) (by omega),if_neg (by omega),abJ]
  rfl
 |f+1,j,last,met,out,h,hp=>by
  have hln:=bF l
  have hlm:=bF met
  have hll:=bF last
  have hlo:=bF out
  have ho1:=hp.o1
  have hm1:=hp.m1
  have hl1:=hp.l1
  refine eL ((acL dd acM ..).trans ?_);show (_:Option agj)=some _
  rw[au (by omega),alJ l hb (by omega) (9*j) (by omega),abJ]
  by_cases c:9*j+9<=8*l.length
  rotate_left
  ·rw[if_neg c]
   show _=some (if 9*j+9<=8*l.length then _ else _)
   rw[if_neg c];rfl
  rw[if_pos c]
  obtain⟨n0,n1⟩:=zW l (9*j) 9 (by omega)
  have n1:nJ l (9*j) 9<512:=n1
  have st:Fe l (f+1) (9*j) last met out=(if nJ l (9*j) 9=256 then (if endOk l (9*j+9) then (out,true) else ([],false)) else
    match Qi met last (nJ l (9*j) 9) with
    |none=>([],false)
    |some b=>if out.length+b.length<=200 then Fe l f (9*j+9) b (Ag met last b) (out++b) else ([],false)):=if_pos c
  rw[st]
  have next:∀ b,fB b->1<=b.length->out.length+b.length<=200->acM (pO l b ((9*j+9:Nat):Int) (out++b) (Ag met last b))=some (Fe l f (9*j+9) b (Ag met last b) (out++b)):=fun b b1 b2 b3=>by
   have:=alN l hb hs f (j+1) b (Ag met last b) (out++b) (by omega) (hp.step b1 b2 b3)
   rw[show 9*(j+1)=9*j+9 by omega] at this
   exact this
  have w9:wi (((9*j:Nat):Int)+9)=((9*j+9:Nat):Int):=by rw[aI (by omega) (by omega)];omega
  have wm:wi (257+ln met)=257+ln met:=aI (by omega) (by omega)
  generalize nJ l (9*j) 9=k at*
  dsimp only
  rw[Bool.not_true,cond_false,w9,wm]
  by_cases c2:k=256
  ·rw[aK c2,if_pos c2]
   have w7:(wi (((9*j+9:Nat):Int)+7)).tdiv 8=(((9*j+9+7)/8:Nat):Int):=by rw[aI (by omega) (by omega),td (by omega)];omega
   rw[w7,aI (by omega) (by omega)]
   by_cases c3:(9*j+9+7)/8=l.length
   ·rw[iM (by omega),aqr l hb (by omega) _ c3 (by omega),abJ]
    cases endOk l (9*j+9)<;>rfl
   ·rw[mD (by omega)]
    have:endOk l (9*j+9)=false:=decide_eq_false fun x=>c3 x.1
    rw[this];rfl
  rw[aA c2,if_neg c2]
  have w2:wi (k-257)=k-257:=aI (by omega) (by omega)
  have mG:∀ b:List Int,(0<last.length->met.length<255->Ag met last b=met++[last++[oO b]])∧(¬ (0<last.length∧met.length<255)->Ag met last b=met):=fun b=>by
   unfold Ag
   exact⟨fun q1 q2=>if_pos ⟨q1,q2⟩,fun q=>if_neg q⟩
  by_cases k1:k<256
  ·have hg:Qi met last k=some [k]:=if_pos k1
   have wb1:wb k=k:=jy n0 k1
   rw[au k1,hg,aI (by omega) (by omega),wb1]
   dsimp only
   by_cases k2:out.length+1<=200
   rotate_left
   ·rw[au (by omega),if_neg (by rw[List.length_singleton];omega)]
   have hk2:out.length+[k].length<=200:=k2
   rw[ay (by omega),if_pos (by omega),if_pos hk2]
   have nx:=next [k] (bV.2 ⟨⟨n0,k1⟩,iC⟩) (by simp) (by simp;omega)
   by_cases c4:0<last.length
   ·rw[au (by omega)]
    by_cases c5:met.length<255
    ·rw[au (by omega),if_pos (by omega),if_pos (by omega),if_pos (by omega)]
     rw[(mG [k]).1 c4 c5] at nx⊢
     exact nx
    ·rw[ay (by omega)]
     rw[(mG [k]).2 (fun x=>c5 x.2)] at nx⊢
     exact nx
   ·rw[ay (by omega)]
    rw[(mG [k]).2 (fun x=>c4 x.1)] at nx⊢
    exact nx
  rw[ay k1,w2]
  by_cases k2:k-257<met.length
  ·obtain⟨i,hi⟩:∃ i:Nat,k-257=i:=⟨(k-257).toNat,by omega⟩
   have him:i<met.length:=by omega
   have hg:Qi met last k=some met[i]:=by
    unfold Qi
    rw[if_neg k1,if_pos k2,hi,Tt him]
   have hm2:=hp.m2 i him
   obtain⟨h2,a,h3,h4⟩:=hm2
   have hbm:=hp.alL him
   have atU:=bF met[i]
   rw[au (by omega),hi,if_pos (by omega),if_pos (by omega),hg,Tt him,aA (by omega),aI (by omega) (by omega)]
   simp only[aeg,List.getElem?_eq_getElem him]
   by_cases k3:out.length+met[i].length<=200
   rotate_left
   ·rw[au (by omega),if_neg k3]
   rw[ay (by omega),if_pos (by omega),if_pos k3]
   have nx:=next met[i] hbm (by omega) k3
   by_cases c4:0<last.length
   ·rw[au (by omega)]
    by_cases c5:met.length<255
    ·rw[au (by omega),if_pos (by omega),if_pos (by omega),if_pos (by omega),if_pos (by omega)]
     rw[(mG met[i]).1 c4 c5] at nx⊢
     exact nx
    ·rw[ay (by omega)]
     rw[(mG met[i]).2 (fun x=>c5 x.2)] at nx⊢
     exact nx
   ·rw[ay (by omega)]
    rw[(mG met[i]).2 (fun x=>c4 x.1)] at nx⊢
    exact nx
  rw[ay (by omega)]
  by_cases k3:k-257=met.length
  rotate_left
  ·have hg:Qi met last k=none:=by
    unfold Qi
    rw[if_neg k1,if_neg k2,if_neg (fun x=>k3 x.1)]
   rw[aA (by omega),hg]
  rw[aK (by omega)]
  by_cases c4:0<last.length
  rotate_left
  ·have hg:Qi met last k=none:=by
    unfold Qi
    rw[if_neg k1,if_neg k2,if_neg (fun x=>c4 x.2.1)]
   rw[ay (by omega),hg]
  have c5:met.length<255:=by omega
  have hg:Qi met last k=some (last++[oO last]):=by
   unfold Qi
   rw[if_neg k1,if_neg k2,if_pos ⟨k3,c4,c5⟩]
  have hlen:(last.append [last.getD 0 0]).length=last.length+1:=by show (last++[_]).length=_;simp
  have atV:=bF (last.append [last.getD 0 0])
  rw[au (by omega),au (by omega),if_pos (by omega),if_pos (by omega),if_pos (by omega),aA (by omega),aI (by omega) (by omega),hg]
  dsimp only
  have hlen2:(last++[oO last]).length=last.length+1:=by simp
  by_cases k4:out.length+(last.length+1)<=200
  rotate_left
  ·rw[au (by omega),if_neg (by omega)]
  have nx:=next (last++[oO last]) (mg.2 ⟨hp.lastB,bV.2 ⟨Nj hp.lastB,iC⟩⟩) (by simp) (by omega)
  rw[ay (by omega),if_pos (by omega),au (by omega),au (by omega),if_pos (by omega),if_pos (by omega),if_pos (by omega),if_pos (by omega),if_pos (by omega)]
  rw[(mG (last++[oO last])).1 c4 c5] at nx⊢
  exact nx
theorem aqx(l:List Int)(hb:fB l)(hs:l.length<=300):ako dd l=some (yS l):=by
 refine dL rfl ((aoQ dd acM ..).trans ?_)
 exact alN l hb hs (l.length+1) 0 [] [] [] (by omega) PG.nil
end T
end
section
namespace T
open Go Go.E Go.Proofs
def Kw(r:nS):nS:=(r.1,r.2.1,jZ (r.2.1.toNat*r.1.toNat) (mJ r.1.toNat r.2.1.toNat r.2.2))
theorem DV{r:nS}{W H:Nat}(hn:lK r W H):Kw r=((W:Int),(H:Int),jZ (H*W) (mJ W H r.2.2)):=by
 unfold Kw
 rw[hn.w,hn.h,aeg,aeg]
theorem Xi{r:nS}{W H:Nat}(hn:lK r W H):lK (Kw r) W H:=by rw[DV hn];exact adB hn
def Gt(k:Int)(r:nS):List Int:=if k=68 then VH r else if k=85 then VH (Kw r) else if k=82 then Xg r else YW (VH r)
theorem Np(k:Int){r:nS}{W H:Nat}(hn:lK r W H):fB (Gt k r)∧(Gt k r).length<=230:=by
 unfold Gt
 split
 ·have:=DR hn;exact⟨this.1,by omega⟩
 split
 ·have:=DR (Xi hn);exact⟨this.1,by omega⟩
 split
 ·have:=YX hn;exact⟨this.1,by omega⟩
 ·exact adx (DR hn).1
def oW(k:Int)(note:List Int)(r:nS):List Int:=k::(note.length:Int)::(note++Gt k r++DK (sumP (Gt k r)))
instance (k:Int):Decidable (kindOk k):=inferInstanceAs (Decidable (k=68∨k=85∨k=82∨k=80))
def Ky(k:Int)(note:List Int)(r:nS):List Int:=if kindOk k∧note.length<=9∧AP r=true then oW k note r else []
theorem Tv{n:Int}(h:0<=n∧n<4294967296):fB (DK n):=by
 unfold DK
 exact bV.2 ⟨by omega,bV.2 ⟨by omega,bV.2 ⟨by omega,bV.2 ⟨by omega,iC⟩⟩⟩⟩
theorem Nq{k:Int}(hk:kindOk k){note:List Int}(hb:fB note)(hl:note.length<=9){r:nS}{W H:Nat}(hn:lK r W H):fB (oW k note r)∧(oW k note r).length<=250:=by
 obtain⟨b1,b2⟩:=Np k hn
 refine⟨bV.2 ⟨by rcases hk with q|q|q|q<;>omega,bV.2 ⟨by omega,mg.2 ⟨mg.2 ⟨hb,b1⟩,Tv (H9 b1)⟩⟩⟩,?_⟩
 unfold oW DK
 simp
 omega
theorem alO(k:Int):ahL dd k=some (decide (kindOk k)):=by
 refine dL rfl ((aom dd aon ..).trans ?_);show (_:Option Bool)=some _
 by_cases h1:k=68
 ·rw[aK h1,decide_eq_true (.inl h1)]
 rw[aA h1]
 by_cases h2:k=85
 ·rw[aK h2,decide_eq_true (.inr (.inl h2))]
 rw[aA h2]
 by_cases h3:k=82
 ·rw[aK h3,decide_eq_true (.inr (.inr (.inl h3)))]
 rw[aA h3]
 by_cases h4:k=80
 ·rw[decide_eq_true (.inr (.inr (.inr h4))),beq_iff_eq.2 h4]
 ·rw[decide_eq_false (fun h=>h.elim h1 fun h=>h.elim h2 fun h=>h.elim h3 h4),beq_eq_false_iff_ne.2 h4]
theorem aqy(k:Int){r:nS}{W H:Nat}(hn:lK r W H):akG dd (k,r)=some (Gt k r):=by
 have h9:=alz hn
 have hf:=ail hn
 have hf9:=alz (adB hn)
 have hr:=aqn hn
 have hp:=aqi (VH r) (DR hn).1
 have hfl:=DV hn
 obtain⟨w,h,l⟩:=r
 refine dL rfl ((apo dd apq ..).trans ?_);unfold Gt
 by_cases h1:k=68
 ·rw[aK h1,if_pos h1,h9];rfl
 rw[aA h1,if_neg h1]
 by_cases h2:k=85
 ·rw[aK h2,if_pos h2,hf,abJ,hf9,hfl];rfl
 rw[aA h2,if_neg h2]
 by_cases h3:k=82
 ·rw[aK h3,if_pos h3,hr];rfl
 rw[aA h3,if_neg h3,h9,abJ,hp];rfl
theorem alP{k:Int}{note:List Int}(hl:note.length<=9){r:nS}{W H:Nat}(hn:lK r W H):abL dd (k,note,r)=some (oW k note r):=by
 obtain⟨b1,b2⟩:=Np k hn
 have hln:=bF note
 have h8:=aqy k hn
 obtain⟨w,h,l⟩:=r
 refine dL rfl ((ao2 dd ao3 ..).trans ?_)
 rw[h8,abJ,jy (by omega) (by omega),if_pos (by omega),if_pos (by simp;omega),alo _ (by show (Gt k (w,h,l)).length<_;omega) b1,abJ,if_pos (by simp[DK];omega)]
 unfold oW
 rw[hln]
 rfl
theorem aqz(k:Int)(note:List Int)(hs:note.length<=100000)(r:nS)(hr:Sh r.2.2):ae2 dd (k,note,r)=some (Ky k note r):=by
 have ho:=afE r hr
 have hln:=bF note
 have h5:∀ W H,lK r W H->note.length<=9->abL dd (k,note,r)=some (oW k note r):=fun W H hn hl=>alP hl hn
 have key:ae2 dd (k,note,r)=some (Ky k note r):=by
  unfold Ky
  obtain⟨w,h,l⟩:=r
  refine dL rfl ((aoy dd aoz ..).trans ?_);show (_:Option (List Int))=some _
  rw[alO,abJ]
  by_cases c1:kindOk k
  rotate_left
  ·rw[decide_eq_false c1,if_neg (fun x=>c1 x.1)];rfl
  rw[decide_eq_true c1,Bool.not_true,cond_false]
  by_cases c2:note.length<=9
  rotate_left
  ·rw[au (by omega),if_neg (fun x=>c2 x.2.1)]
  rw[ay (by omega),ho,abJ]
  cases c3:AP (w,h,l) with
  |false=>rw[if_neg (fun x=>by simp at x)];rfl
  |true=>
   obtain⟨W,H,hn⟩:=zT.1 c3
   rw[Bool.not_true,cond_false,h5 W H hn c2,if_pos ⟨c1,c2,rfl⟩];rfl
 exact key
def VP(r:nS):List Int:=if AP r=true then oW 80 [] r else []
theorem aqA(r:nS)(hr:Sh r.2.2):ahX dd r=some (VP r):=by
 have ho:=afE r hr
 have h5:∀ W H,lK r W H->abL dd (80,[],r)=some (oW 80 [] r):=fun W H hn=>alP (by simp) hn
 unfold VP
 obtain⟨w,h,l⟩:=r
 refine dL rfl ((apw dd apx ..).trans ?_)
 rw[ho,abJ]
 cases c3:AP (w,h,l) with
 |false=>rfl
 |true=>
  obtain⟨W,H,hn⟩:=zT.1 c3
  rw[Bool.not_true,cond_false,h5 W H hn];rfl
end T
end
section
namespace T
open Go Go.E Go.Proofs
def badR:nS:=(0,0,[])
def qw(k:Int)(b:List Int):nS×Bool:=
 if k=68 then jQ b
 else if k=85 then (if (jQ b).2=true then (Kw (jQ b).1,true) else (badR,false))
 else if k=82 then qJ b
 else if (yS b).2=true then jQ (yS b).1 else (badR,false)
theorem yT{a:List Int}(hb:fB a)(h:(jQ a).2=true):∃ W H,lK (jQ a).1 W H:=by
 refine afL hb ?_
 unfold jQ at h
 cases c:DU a with
 |true=>rfl
 |false=>rw[c] at h;cases h
theorem Fj(l:List Int):fB (yS l).1∧(yS l).1.length<=200:=Tq l _ _ _ _ _ PG.nil
theorem Xj{k:Int}{b:List Int}(hb:fB b)(h:(qw k b).2=true):∃ W H,lK (qw k b).1 W H:=by
 unfold qw at h⊢
 split
 ·rename_i c;rw[if_pos c] at h;exact yT hb h
 rename_i c;rw[if_neg c] at h
 split
 ·rename_i c2;rw[if_pos c2] at h
  split
  ·rename_i c3
   obtain⟨W,H,hn⟩:=yT hb c3
   exact⟨W,H,Xi hn⟩
  ·rename_i c3;rw[if_neg c3] at h;cases h
 rename_i c2;rw[if_neg c2] at h
 split
 ·rename_i c3;rw[if_pos c3] at h;exact afO hb h
 rename_i c3;rw[if_neg c3] at h
 split
 ·rename_i c4;rw[if_pos c4] at h;exact yT (Fj b).1 h
 ·rename_i c4;rw[if_neg c4] at h;cases h
theorem aqB(k:Int)(b:List Int)(hb:fB b)(hs:b.length<=300):∃ out,ahM dd (k,b)=some out∧Fb out (qw k b):=by
 have h77:=alE b hb (by omega)
 unfold qw
 by_cases h1:k=68
 ·refine⟨jQ b,?_,by rw[if_pos h1];exact nU _⟩
  refine dL rfl ((YN dd YO ..).trans ?_)
  rw[aK h1,h77];rfl
 rw[if_neg h1]
 by_cases h2:k=85
 ·rw[if_pos h2]
  cases c:(jQ b).2 with
  |false=>
   refine⟨(badR,false),?_,nU _⟩
   refine dL rfl ((YN dd YO ..).trans ?_)
   rw[aA h1,aK h2,h77,abJ,c];rfl
  |true=>
   obtain⟨W,H,hn⟩:=yT hb c
   refine⟨(Kw (jQ b).1,true),?_,nU _⟩
   have hf:=ail hn
   rw[<- DV hn] at hf
   refine dL rfl ((YN dd YO ..).trans ?_)
   rw[aA h1,aK h2,h77,abJ,c,Bool.not_true,cond_false,hf];rfl
 rw[if_neg h2]
 by_cases h3:k=82
 ·rw[if_pos h3]
  obtain⟨out,o1,o2⟩:=aqp b hb (by omega)
  refine⟨out,?_,o2⟩
  refine dL rfl ((YN dd YO ..).trans ?_)
  rw[aA h1,aA h2,aK h3,o1];rfl
 rw[if_neg h3]
 have h80:=aqx b hb hs
 cases c:(yS b).2 with
 |false=>
  refine⟨(badR,false),?_,nU _⟩
  refine dL rfl ((YN dd YO ..).trans ?_)
  rw[aA h1,aA h2,aA h3,h80,abJ,c];rfl
 |true=>
  have hp:=Fj b
  refine⟨jQ (yS b).1,?_,nU _⟩
  refine dL rfl ((YN dd YO ..).trans ?_)
  rw[aA h1,aA h2,aA h3,h80,abJ,c,Bool.not_true,cond_false,alE _ hp.1 (by omega)];rfl
theorem aqD(b:List Int)(hb:fB b)(hs:b.length<=300):ahY dd ((),b)=some (qw 68 b):=by
 refine dL rfl ((apR dd apS ..).trans ?_)
 rw[ain b hb (by omega)];rfl
theorem aqE(b:List Int)(hb:fB b)(hs:b.length<=300):ahZ dd ((),b)=some (qw 85 b):=by
 refine dL rfl ((apW dd apX ..).trans ?_)
 show _=some (if (jQ b).2=true then (Kw (jQ b).1,true) else (badR,false))
 rw[ain b hb (by omega),abJ]
 cases c:(jQ b).2 with
 |false=>rfl
 |true=>
  obtain⟨W,H,hn⟩:=yT hb c
  have hf:=aql hn
  rw[<- DV hn] at hf
  rw[Bool.not_true,cond_false,hf];rfl
theorem alQ(b:List Int)(hb:fB b)(hs:b.length<=300):ae8 dd ((),b)=some (qw 82 b):=aqo b hb (by omega)
theorem aqF(b:List Int)(hb:fB b)(hs:b.length<=300):ah0 dd ((),b)=some (qw 80 b):=by
 have hp:=Fj b
 refine dL rfl ((ap2 dd ap3 ..).trans ?_)
 show _=some (if (yS b).2=true then jQ (yS b).1 else (badR,false))
 rw[aqw b hb hs,abJ]
 cases c:(yS b).2 with
 |false=>rfl
 |true=>rw[Bool.not_true,cond_false,ain _ hp.1 (by omega)];rfl
def qG(a:List Int):List Int:=(a.take (a.length-4)).drop (2+(a.getD 1 0).toNat)
def AQ(a:List Int):Bool:=decide (2<=a.length∧a.getD 1 0<=9∧6+(a.getD 1 0).toNat<=a.length)&&(decide (DK (sumP (qG a))=a.drop (a.length-4))&&(qw (a.getD 0 0) (qG a)).2)
def jk(a:List Int):nS×Int:=if a=[] then (badR,2) else if ¬ kindOk (a.getD 0 0) then (badR,2) else if AQ a=true then ((qw (a.getD 0 0) (qG a)).1,1) else (badR,3)
theorem alR(a:List Int)(hb:fB a)(hs:a.length<=300):aeX dd a=some (jk a):=by
 have hln:=bF a
 have b0:=iU hb 0
 have b1:=iU hb 1
 refine dL rfl ((anY dd anZ ..).trans ?_);unfold jk
 by_cases c0:a=[]
 ·rw[if_pos c0,aK (by rw[c0];rfl)];rfl
 have hpos:=List.length_pos_iff.2 c0
 rw[if_neg c0,aA (by omega),if_pos (by omega),alO,abJ]
 by_cases c1:kindOk (a.getD 0 0)
 rotate_left
 ·rw[decide_eq_false c1,if_pos c1];rfl
 have hk:¬ ¬ kindOk (a.getD 0 0):=fun h=>h c1
 rw[decide_eq_true c1,if_neg hk,Bool.not_true,cond_false]
 have no:¬ (2<=a.length∧a.getD 1 0<=9∧6+(a.getD 1 0).toNat<=a.length)->AQ a=false:=fun h=>by unfold AQ;rw[decide_eq_false h];rfl
 by_cases c2:2<=a.length
 rotate_left
 ·rw[au (by omega),no (fun h=>c2 h.1)];rfl
 rw[ay (by omega),if_pos (by omega),oL b1]
 by_cases c3:a.getD 1 0<=9
 rotate_left
 ·rw[au (by omega),no (fun h=>c3 h.2.1)];rfl
 rw[ay (by omega),if_pos (by omega),aI (x:=6+a.getD 1 0) (by omega) (by omega)]
 by_cases c4:6+(a.getD 1 0).toNat<=a.length
 rotate_left
 ·rw[au (by omega),no (fun h=>c4 h.2.2)];rfl
 have w1:wi (2+a.getD 1 0)=((2+(a.getD 1 0).toNat:Nat):Int):=by rw[aI (by omega) (by omega)];omega
 have w2:wi (ln a-4)=((a.length-4:Nat):Int):=by rw[aI (by omega) (by omega)];omega
 rw[ay (by omega),if_pos (by omega),w1,w2,if_pos (by omega),if_pos (by omega),if_pos (by omega),if_pos (by omega),aeg,aeg]
 have hmb:fB (qG a):=iV (jY hb _) _
 have hml:(qG a).length<=300:=by unfold qG;simp;omega
 obtain⟨out,o1,o2⟩:=aqB (a.getD 0 0) (qG a) hmb hml
 show (ahM dd (a.getD 0 0,qG a)).bind _=_
 rw[o1,abJ,same_eq (fun y hy=>by
  simp only[List.mem_cons,List.not_mem_nil,or_false] at hy
  rcases hy with h|h<;>exact h)]
 have hg:AQ a=(decide (DK (sumP (qG a))=a.drop (a.length-4))&&(qw (a.getD 0 0) (qG a)).2):=by
  unfold AQ;rw[decide_eq_true ⟨c2,c3,c4⟩,Bool.true_and]
 rw[hg]
 cases c5:(qw (a.getD 0 0) (qG a)).2 with
 |false=>
  rw[o2.1,c5,Bool.and_false];rfl
 |true=>
  have hout:=o2.2 c5
  subst hout
  rw[c5,Bool.not_true,cond_false,if_pos (by omega),if_pos (by omega)]
  show (YH dd (qG a)).bind _=_
  rw[alo _ (by show (qG a).length<_;omega) hmb,abJ,agI (Tv (H9 hmb)) (iV hb _),Bool.and_true]
  by_cases c6:DK (sumP (qG a))=a.drop (a.length-4)
  rotate_left
  ·rw[decide_eq_false c6];rfl
  obtain⟨W,H,hn⟩:=Xj hmb c5
  have hm:=qo hn.h6 hn.w6
  have hl:=hn.len
  rw[decide_eq_true c6,Bool.not_true,cond_false,afE _ (by show (qw (a.getD 0 0) (qG a)).1.2.2.length<_;omega),abJ,zT.2 ⟨W,H,hn⟩];rfl
theorem afP{x:List Int}(h:x.length=4){n:Int}:(n/16777216==x.getD 0 0&&(n/65536%256==x.getD 1 0&&(n/256%256==x.getD 2 0&&(n%256==x.getD 3 0&&true))))=decide (DK n=x):=by
 match x,h with
 |[a,b,c,d],_=>
  unfold DK
  show (n/16777216==a&&(n/65536%256==b&&(n/256%256==c&&(n%256==d&&true))))=_
  by_cases q:[n/16777216,n/65536%256,n/256%256,n%256]=[a,b,c,d]
  ·rw[decide_eq_true q]
   simp only[List.cons.injEq,and_true] at q
   obtain⟨q1,q2,q3,q4⟩:=q
   rw[q1,q2,q3,q4];simp
  ·rw[decide_eq_false q]
   cases h1:(n/16777216==a&&(n/65536%256==b&&(n/256%256==c&&(n%256==d&&true)))) with
   |false=>rfl
   |true=>
    simp only[Bool.and_eq_true,beq_iff_eq] at h1
    obtain⟨q1,q2,q3,q4,_⟩:=h1
    exact absurd (by rw[q1,q2,q3,q4]) q
theorem DW(a:List Int)(hb:fB a)(hs:a.length<=300)(c0:0<a.length)(c1:kindOk (a.getD 0 0))(rd:List Int->Option (nS×Bool))(hrd:∀ b,fB b->b.length<=300->rd b=some (qw (a.getD 0 0) b)):
  (bif decide (ln a<2) then some ((0,0,[]),3) else if 1<ln a then bif decide (wi (a.getD 1 0)>9) then some ((0,0,[]),3) else if 1<ln a then bif decide (wi (ln a-4)<wi (2+wi (a.getD 1 0))) then some ((0,0,[]),3) else if 0<=wi (2+wi (a.getD 1 0)) then if wi (2+wi (a.getD 1 0))<=wi (ln a-4) then if wi (ln a-4)<=ln a then if 0<=wi (ln a-4) then if wi (ln a-4)<=ln a then if 4<=(List.drop (wi (ln a-4)).toNat a).length then if 4<=(List.drop (wi (ln a-4)).toNat a).length then (Va dd (List.drop (wi (2+wi (a.getD 1 0))).toNat (List.take (wi (ln a-4)).toNat a))).bind fun (r:Int×Int×Int×Int)=>bif !(r.fst==(List.drop (wi (ln a-4)).toNat a).getD 0 0&&(r.snd.fst==(List.drop (wi (ln a-4)).toNat a).getD 1 0&&(r.snd.snd.fst==(List.drop (wi (ln a-4)).toNat a).getD 2 0&&(r.snd.snd.snd==(List.drop (wi (ln a-4)).toNat a).getD 3 0&&true)))) then some ((0,0,[]),3) else (rd (List.drop (wi (2+wi (a.getD 1 0))).toNat (List.take (wi (ln a-4)).toNat a))).bind fun (r:nS×Bool)=>bif !r.snd then some ((0,0,[]),3) else some (r.fst,1) else none else none else none else none else none else none else none else none else none)=some (jk a):=by
 have hln:=bF a
 have b1:=iU hb 1
 have ne:a≠[]:=fun x=>by rw[x] at c0;simp at c0
 unfold jk
 have hk:¬ ¬ kindOk (a.getD 0 0):=fun h=>h c1
 rw[if_neg ne,if_neg hk]
 have no:¬ (2<=a.length∧a.getD 1 0<=9∧6+(a.getD 1 0).toNat<=a.length)->AQ a=false:=fun h=>by unfold AQ;rw[decide_eq_false h];rfl
 by_cases c2:2<=a.length
 rotate_left
 ·rw[au (by omega),no (fun h=>c2 h.1)];rfl
 rw[ay (by omega),if_pos (by omega),oL b1]
 by_cases c3:a.getD 1 0<=9
 rotate_left
 ·rw[au (by omega),no (fun h=>c3 h.2.1)];rfl
 have w1:wi (2+a.getD 1 0)=((2+(a.getD 1 0).toNat:Nat):Int):=by rw[aI (by omega) (by omega)];omega
 rw[ay (by omega),if_pos (by omega),w1]
 by_cases c4:6+(a.getD 1 0).toNat<=a.length
 rotate_left
 ·have w2:wi (ln a-4)=ln a-4:=aI (by omega) (by omega)
  rw[w2,au (by omega),no (fun h=>c4 h.2.2)];rfl
 have w2:wi (ln a-4)=((a.length-4:Nat):Int):=by rw[aI (by omega) (by omega)];omega
 have hdl:(a.drop (a.length-4)).length=4:=by simp;omega
 have hmb:fB (qG a):=iV (jY hb _) _
 have hml:(qG a).length<=300:=by unfold qG;simp;omega
 rw[w2,ay (by omega),if_pos (by omega),if_pos (by omega),if_pos (by omega),if_pos (by omega),if_pos (by omega),aeg,aeg,if_pos (by omega),if_pos (by omega)]
 show (Va dd (qG a)).bind (fun r=>bif !(_&&_) then _ else (rd (qG a)).bind _)=_
 rw[aqc _ (by show (qG a).length<_;omega) hmb,abJ,hrd _ hmb hml,afP hdl]
 have hg:AQ a=(decide (DK (sumP (qG a))=a.drop (a.length-4))&&(qw (a.getD 0 0) (qG a)).2):=by
  unfold AQ;rw[decide_eq_true ⟨c2,c3,c4⟩,Bool.true_and]
 rw[hg]
 cases decide (DK (sumP (qG a))=a.drop (a.length-4)) with
 |false=>rfl
 |true=>
  rw[Bool.not_true,cond_false,abJ,Bool.true_and]
  cases (qw (a.getD 0 0) (qG a)).2<;>rfl
theorem aqG(a:List Int)(hb:fB a)(hs:a.length<=300):aj6 dd a=some (jk a):=by
 have hln:=bF a
 refine dL rfl ((an8 dd an9 ..).trans ?_)
 by_cases c0:a=[]
 ·rw[aK (by rw[c0];rfl)]
  unfold jk;rw[if_pos c0];rfl
 have hpos:=List.length_pos_iff.2 c0
 rw[aA (by omega),if_pos (by omega)]
 by_cases h1:a.getD 0 0=68
 ·rw[aK h1]
  exact DW a hb hs hpos (.inl h1) (fun b=>ahY dd ((),b)) fun b q1 q2=>by rw[h1];exact aqD b q1 q2
 rw[aA h1]
 by_cases h2:a.getD 0 0=85
 ·rw[aK h2]
  exact DW a hb hs hpos (.inr (.inl h2)) (fun b=>ahZ dd ((),b)) fun b q1 q2=>by rw[h2];exact aqE b q1 q2
 rw[aA h2]
 by_cases h3:a.getD 0 0=82
 ·rw[aK h3]
  exact DW a hb hs hpos (.inr (.inr (.inl h3))) (fun b=>ae8 dd ((),b)) fun b q1 q2=>by rw[h3];exact alQ b q1 q2
 rw[aA h3]
 by_cases h4:a.getD 0 0=80
 ·rw[aK h4]
  exact DW a hb hs hpos (.inr (.inr (.inr h4))) (fun b=>ah0 dd ((),b)) fun b q1 q2=>by rw[h4];exact aqF b q1 q2
 rw[aA h4]
 unfold jk
 rw[if_neg c0,if_pos (fun x=>x.elim h1 fun h=>h.elim h2 fun h=>h.elim h3 h4)];rfl
theorem VQ{a:List Int}(hb:fB a)(h:(jk a).2=1):∃ W H,lK (jk a).1 W H:=by
 unfold jk at h⊢
 split
 ·rename_i c;rw[if_pos c] at h;cases h
 rename_i c;rw[if_neg c] at h
 split
 ·rename_i c2;rw[if_pos c2] at h;cases h
 rename_i c2;rw[if_neg c2] at h
 split
 ·rename_i c3
  unfold AQ at c3
  rw[Bool.and_eq_true,Bool.and_eq_true] at c3
  exact Xj (iV (jY hb _) _) c3.2.2
 ·rename_i c3;rw[if_neg c3] at h;cases h
theorem Kz(a:List Int):((jk a).2=1)∨(jk a).2=2∨(jk a).2=3:=by
 unfold jk
 split
 ·exact .inr (.inl rfl)
 split
 ·exact .inr (.inl rfl)
 split
 ·exact .inl rfl
 ·exact .inr (.inr rfl)
end T
end
section
namespace T
open Go Go.E Go.Proofs
abbrev at'(l:List iF)(W x y:Nat):iF:=gt l ((y*W+x:Nat):Int) z4
def mk(W:Nat)(f:Nat->Nat->iF)(i:Nat):iF:=f (i%W) (i/W)
theorem Xk{W x y:Nat}{f:Nat->Nat->iF}(hx:x<W):mk W f (y*W+x)=f x y:=by
 obtain⟨d1,d2⟩:=VL (y:=y) hx
 unfold mk;rw[d1,d2]
theorem Ia{W H:Nat}(g:Nat->iF)(A:Nat->List iF->Prop)(B:Nat->Nat->List iF->Prop)
  (hA:∀ y l,y<H->l.length=y*W->B y 0 l->A y l)
  (hB:∀ y x l,y<H->x<W->l.length=y*W+x->B y (x+1) (l++[g (y*W+x)])->B y x l)
  (hE:∀ y l,y<H->A (y+1) l->B y W l)
  (h:A H (jZ (H*W) g)):A 0 []:=by
 have row:∀ y,y<H->A (y+1) (jZ ((y+1)*W) g)->∀ k x,x+k=W->B y x (jZ (y*W+x) g):=by
  intro y hy ha k
  induction k with
  |zero=>
   intro x hx;have:x=W:=by omega
   subst this;exact hE y _ hy (by rw[<- jD];exact ha)
  |succ k ih=>intro x hx;exact hB y x _ hy (by omega) lM (by rw[<- zV];exact ih (x+1) (by omega))
 have all:∀ k y,y+k=H->A y (jZ (y*W) g):=by
  intro k
  induction k with
  |zero=>
   intro y hy;have:y=H:=by omega
   subst this;exact h
  |succ k ih=>
   intro y hy
   exact hA y _ (by omega) lM (row y (by omega) (ih (y+1) (by omega)) W 0 (by omega))
 have:=all H 0 (by omega)
 rwa [Nat.zero_mul] at this
def yU(p:iF):Int:=wi ((wi (wi (wi (77*p.1)+wi (150*p.2.1))+wi (29*p.2.2.1))).tdiv 256)
def Xl(p:iF):iF:=(yU p,yU p,yU p,p.2.2.2)
theorem aqH(p:iF):akT dd p=some (Xl p):=by
 obtain⟨a,b,c,e⟩:=p
 refine dL rfl ((apM dd apN ..).trans ?_);rfl
def Nr(a b e:Int):Int:=wi ((wi (wi (a*e)+wi (b*wi (255-e)))).tdiv 255)
def Xm(o:Op)(p:iF):iF:=(Nr p.1 o.2.1 p.2.2.2,Nr p.2.1 o.2.2.1 p.2.2.2,Nr p.2.2.1 o.2.2.2.1 p.2.2.2,255)
theorem aqI(p:iF)(o:Op):akV dd (p,o)=some (Xm o p):=by
 obtain⟨a,b,c,e⟩:=p
 obtain⟨k,x,y,z,w⟩:=o
 refine dL rfl ((apP dd apQ ..).trans ?_);rfl
theorem afQ{p:iF}(h:fZ p=true):fZ (Xl p)=true:=by
 obtain⟨a,b,c,e⟩:=p
 obtain⟨h1,h2,h3,h4⟩:=jC.1 h
 dsimp only at h1 h2 h3 h4
 have:yU (a,b,c,e)=(77*a+150*b+29*c)/256:=by
  unfold yU
  show wi ((wi (wi (wi (77*a)+wi (150*b))+wi (29*c))).tdiv 256)=_
  rw[aI (x:=77*a) (by omega) (by omega),aI (x:=150*b) (by omega) (by omega),aI (x:=29*c) (by omega) (by omega),aI (x:=77*a+150*b) (by omega) (by omega),aI (x:=77*a+150*b+29*c) (by omega) (by omega),td (by omega),aI (by omega) (by omega)]
 refine jC.2 ?_
 show (0<=yU _∧yU _<=255)∧(0<=yU _∧yU _<=255)∧(0<=yU _∧yU _<=255)∧0<=e∧e<=255
 rw[this]
 omega
theorem agT{a e:Int}(h1:0<=a)(h2:a<=255)(h3:0<=e):0<=a*e∧a*e<=255*e:=
 ⟨Int.mul_nonneg h1 h3,Int.mul_le_mul_of_nonneg_right h2 h3⟩
theorem KA{a b e:Int}(ha:0<=a∧a<=255)(hb:0<=b∧b<=255)(he:0<=e∧e<=255):0<=Nr a b e∧Nr a b e<=255:=by
 unfold Nr
 obtain⟨x1,x2⟩:=agT ha.1 ha.2 he.1
 have he':0<=255-e:=by omega
 obtain⟨y1,y2⟩:=agT hb.1 hb.2 he'
 rw[aI (x:=255-e) (by omega) (by omega)]
 generalize a*e=A at*
 generalize b*(255-e)=B at*
 rw[aI (x:=A) (by omega) (by omega),aI (x:=B) (by omega) (by omega),aI (x:=A+B) (by omega) (by omega),td (by omega),aI (by omega) (by omega)]
 omega
theorem afR{o:Op}{p:iF}(h:fZ p=true)(ho:(0<=o.2.1∧o.2.1<=255)∧(0<=o.2.2.1∧o.2.2.1<=255)∧(0<=o.2.2.2.1∧o.2.2.2.1<=255)):fZ (Xm o p)=true:=by
 obtain⟨h1,h2,h3,h4⟩:=jC.1 h
 exact jC.2 ⟨KA h1 ho.1 h4,KA h2 ho.2.1 h4,KA h3 ho.2.2 h4,(by decide:(0:Int)<=255∧(255:Int)<=255)⟩
end T
end
section
namespace T
open Go Go.E Go.Proofs
theorem Ib{x W V:Nat}(hx:x<W)(hW:W<=6)(hV1:1<=V)(hV:V<=6):wi (2*(W:Int))=((2*W:Nat):Int)∧¬ (((2*W:Nat):Int)=0)∧wi ((wi (wi (wi (2*(x:Int))+1)*V)).tdiv ((2*W:Nat):Int))=(((2*x+1)*V/(2*W):Nat):Int)∧(2*x+1)*V/(2*W)<V:=by
 have h1:(2*x+1)*V<=11*6:=Nat.mul_le_mul (by omega) hV
 have h2:(2*x+1)*V/(2*W)<V:=Nat.div_lt_of_lt_mul (Nat.mul_lt_mul_of_pos_right (by omega) (by omega))
 refine⟨by rw[aI (by omega) (by omega)];omega,by omega,?_,h2⟩
 rw[aI (x:=2*(x:Int)) (by omega) (by omega),aI (x:=2*(x:Int)+1) (by omega) (by omega),show 2*(x:Int)+1=((2*x+1:Nat):Int) by omega,DT]
 generalize (2*x+1)*V=A at*
 rw[aI (x:=(A:Int)) (by omega) (by omega),td (by omega), <- Int.natCast_ediv]
 generalize A/(2*W)=B at*
 exact aI (by omega) (by omega)
end T
end
section
namespace T
open Go Go.E Go.Proofs
abbrev Acc:=Nat×Int×Int×Int×Int
def adE(acc:Acc)(p:iF):Acc:=(acc.1+1,wi (acc.2.1+p.1),wi (acc.2.2.1+p.2.1),wi (acc.2.2.2.1+p.2.2.1),wi (acc.2.2.2.2+p.2.2.2))
def rowA(l:List iF)(W y x k:Nat)(acc:Acc):Acc:=(List.range' x k).foldl (fun acc xx=>adE acc (at' l W xx y)) acc
def Gu(l:List iF)(W x n y k:Nat)(acc:Acc):Acc:=(List.range' y k).foldl (fun acc yy=>rowA l W yy x n acc) acc
def wide(x W:Nat):Nat:=min (x+1) (W-1)+1-(x-1)
def alS(a:Acc):iF:=(wi (a.2.1.tdiv a.1),wi (a.2.2.1.tdiv a.1),wi (a.2.2.2.1.tdiv a.1),wi (a.2.2.2.2.tdiv a.1))
def Tz(l:List iF)(W H x y:Nat):iF:=alS (Gu l W (x-1) (wide x W) (y-1) (wide y H) (0,0,0,0,0))
theorem Ns{l:List iF}{W y x k:Nat}{acc:Acc}:rowA l W y x (k+1) acc=rowA l W y (x+1) k (adE acc (at' l W x y)):=by unfold rowA;rfl
theorem Cb{l:List iF}{W x n y k:Nat}{acc:Acc}:Gu l W x n y (k+1) acc=Gu l W x n (y+1) k (rowA l W y x n acc):=by unfold Gu;rfl
theorem KC{l:List iF}{W y:Nat}:∀ {k x:Nat} {acc:Acc},(rowA l W y x k acc).1=acc.1+k
 |0,x,acc=>rfl
 |k+1,x,acc=>by rw[Ns,KC];show acc.1+1+k=_;omega
theorem Xn{l:List iF}{W x n:Nat}:∀ {k y:Nat} {acc:Acc},(Gu l W x n y k acc).1=acc.1+k*n
 |0,y,acc=>by rw[Nat.zero_mul];rfl
 |k+1,y,acc=>by rw[Cb,Xn,KC,Nat.add_mul];omega
def Gv(a:Acc):Prop:=a.1<=1000∧(0<=a.2.1∧a.2.1<=255*a.1)∧(0<=a.2.2.1∧a.2.2.1<=255*a.1)∧(0<=a.2.2.2.1∧a.2.2.2.1<=255*a.1)∧(0<=a.2.2.2.2∧a.2.2.2.2<=255*a.1)
theorem aip{a:Acc}{p:iF}(h:Gv a)(hp:fZ p=true)(hn:a.1<1000):Gv (adE a p):=by
 obtain⟨n,r,g,b,e⟩:=a
 obtain⟨h1,h2,h3,h4⟩:=jC.1 hp
 obtain⟨k0,k1,k2,k3,k4⟩:=h
 dsimp only at k0 k1 k2 k3 k4 hn
 unfold adE Gv
 dsimp only
 rw[aI (x:=r+p.1) (by omega) (by omega),aI (x:=g+p.2.1) (by omega) (by omega),aI (x:=b+p.2.2.1) (by omega) (by omega),aI (x:=e+p.2.2.2) (by omega) (by omega)]
 omega
theorem adF{l:List iF}{W H y:Nat}(hl:l.length=H*W)(hp:l.all fZ=true)(hy:y<H):∀ {k x:Nat} {acc:Acc},x+k<=W->acc.1+k<=1000->Gv acc->Gv (rowA l W y x k acc)
 |0,x,acc,_,_,h=>h
 |k+1,x,acc,hx,hn,h=>by
  rw[Ns]
  have hm:y*W+W<=H*W:=by rw[<- jD];exact Nat.mul_le_mul_right W hy
  exact adF hl hp hy (by omega) (by show acc.1+1+k<=_;omega) (aip h (uz hp (by omega)) (by omega))
theorem rows_ok{l:List iF}{W H x n:Nat}(hl:l.length=H*W)(hp:l.all fZ=true)(hx:x+n<=W)(hn:n<=6):∀ {k y:Nat} {acc:Acc},y+k<=H->acc.1+6*k<=1000->Gv acc->Gv (Gu l W x n y k acc)
 |0,y,acc,_,_,h=>h
 |k+1,y,acc,hy,hk,h=>by
  rw[Cb]
  exact rows_ok hl hp hx hn (by omega) (by rw[KC];omega) (adF hl hp (by omega) hx (by omega) h)
theorem Ic{x W:Nat}(hx:x<W)(hW:W<=6):x-1+wide x W<=W∧1<=wide x W∧wide x W<=6∧x-1+wide x W=min (x+1) (W-1)+1:=by
 unfold wide;omega
theorem Qj{s:Int}{n:Nat}(h0:0<=s)(h1:s<=255*n)(hn:1<=n)(h2:n<=1000):0<=wi (s.tdiv n)∧wi (s.tdiv n)<=255:=by
 rw[td h0]
 have a:0<=s/(n:Int):=Int.ediv_nonneg h0 (by omega)
 have b:s/(n:Int)<=255:=Int.ediv_le_of_le_mul (by omega) h1
 rw[aI (by omega) (by omega)]
 exact⟨a,b⟩
theorem afS{l:List iF}{W H x y:Nat}(hl:l.length=H*W)(hp:l.all fZ=true)(hx:x<W)(hy:y<H)(hW:W<=6)(hH:H<=6):fZ (Tz l W H x y)=true:=by
 obtain⟨a1,a2,a3,a4⟩:=Ic hx hW
 obtain⟨b1,b2,b3,b4⟩:=Ic hy hH
 have h:=rows_ok hl hp a1 a3 b1 (acc:=(0,0,0,0,0)) (by show 0+_<=_;omega) (by unfold Gv;dsimp only;omega)
 have hn:=Xn (l:=l) (W:=W) (x:=x-1) (n:=wide x W) (k:=wide y H) (y:=y-1) (acc:=(0,0,0,0,0))
 have h1:1<=wide y H*wide x W:=Nat.mul_le_mul b2 a2
 unfold Tz
 generalize Gu l W (x-1) (wide x W) (y-1) (wide y H) (0,0,0,0,0)=a at*
 obtain⟨k0,k1,k2,k3,k4⟩:=h
 have hn:1<=a.1:=by rw[hn];show 1<=0+_;omega
 exact jC.2 ⟨Qj k1.1 k1.2 hn k0,Qj k2.1 k2.2 hn k0,Qj k3.1 k3.2 hn k0,Qj k4.1 k4.2 hn k0⟩
theorem lo1{x:Nat}(h:x<1000):(if wi ((x:Int)-1)>0 then wi ((x:Int)-1) else 0)=((x-1:Nat):Int):=by
 rw[aI (by omega) (by omega)];split<;>omega
theorem hi1{x W:Nat}(h:x<1000)(hW:1<=W)(h6:W<=6):(if wi ((x:Int)+1)<wi ((W:Int)-1) then wi ((x:Int)+1) else wi ((W:Int)-1))=((min (x+1) (W-1):Nat):Int):=by
 rw[aI (x:=(x:Int)+1) (by omega) (by omega),aI (x:=(W:Int)-1) (by omega) (by omega)];split<;>omega
section spec
variable {l:List iF} {W H x y:Nat}
theorem agU(hl:l.length=H*W)(hx:x<W)(hW:W<=6)(hH:H<=6)(w y':Nat)(hy':w<H)(z0 z1 z2 z3:Int){v:iF}:∀ (k xx:Nat) (a:Acc),xx+k=min (x+1) (W-1)+1->a.1+k<=1000->
  SK (JZ x y' ((rowA l W w xx k a).1:Nat) ((w+1:Nat):Int) W H l z0 z1 z2 z3 (rowA l W w xx k a).2.1 (rowA l W w xx k a).2.2.1 (rowA l W w xx k a).2.2.2.1 (rowA l W w xx k a).2.2.2.2)=some v->
  SK (P7 x y' (a.1:Nat) w (xx:Nat) W H l z0 z1 z2 z3 a.2.1 a.2.2.1 a.2.2.2.1 a.2.2.2.2)=some v
 |0,xx,a,hk,hn,h=>by
  refine eL ((adg dd SK ..).trans ?_)
  rw[hi1 (by omega) (by omega) hW,ay (by omega),bf (by omega)]
  exact h
 |k+1,xx,a,hk,hn,h=>by
  have hm:=Ae hy' hH hW
  have hln:=bF l
  refine eL ((adg dd SK ..).trans ?_)
  rw[hi1 (by omega) (by omega) hW,au (by omega),DT,aI (x:=((w*W:Nat):Int)) (by omega) (by omega),show ((w*W:Nat):Int)+(xx:Int)=((w*W+xx:Nat):Int) by omega,aI (x:=((w*W+xx:Nat):Int)) (by omega) (by omega),if_pos (by omega),if_pos (by omega),bf (by omega),bf (by omega)]
  exact agU hl hx hW hH w y' hy' z0 z1 z2 z3 k (xx+1) (adE a (at' l W xx w)) (by omega) (by show a.1+1+k<=_;omega) h
theorem agV(hl:l.length=H*W)(hx:x<W)(hy:y<H)(hW:W<=6)(hH:H<=6)(z0 z1 z2 z3:Int):∀ (k yy:Nat) (a:Acc),yy+k=min (y+1) (H-1)+1->a.1+6*k<=1000->1<=a.1+k->
  SK (JZ x y (a.1:Nat) yy W H l z0 z1 z2 z3 a.2.1 a.2.2.1 a.2.2.2.1 a.2.2.2.2)=some (alS (Gu l W (x-1) (wide x W) yy k a))
 |0,yy,a,hk,hn,h1=>by
  refine eL ((adf dd SK ..).trans ?_)
  rw[hi1 (by omega) (by omega) hH,ay (by omega),if_pos (by omega),if_pos (by omega),if_pos (by omega),if_pos (by omega)]
  rfl
 |k+1,yy,a,hk,hn,h1=>by
  obtain⟨a1,a2,a3,a4⟩:=Ic hx hW
  refine eL ((adf dd SK ..).trans ?_)
  rw[hi1 (by omega) (by omega) hH,au (by omega),lo1 (by omega)]
  refine agU hl hx hW hH yy y (by omega) z0 z1 z2 z3 (wide x W) (x-1) a a4 (by omega) ?_
  rw[Cb]
  exact agV hl hx hy hW hH z0 z1 z2 z3 k (yy+1) _ (by omega) (by rw[KC];omega) (by rw[KC];omega)
theorem aqJ(hl:l.length=H*W)(hx:x<W)(hy:y<H)(hW:W<=6)(hH:H<=6):akU dd (((W:Int),(H:Int),l),(x:Int),(y:Int))=some (Tz l W H x y):=by
 obtain⟨b1,b2,b3,b4⟩:=Ic hy hH
 refine dL rfl ((apO dd SK ..).trans ?_)
 rw[lo1 (by omega)]
 exact agV hl hx hy hW hH 0 0 0 0 (wide y H) (y-1) (0,0,0,0,0) b4 (by show 0+_<=_;omega) (by show 1<=0+_;omega)
end spec
end T
end
section
namespace T
open Go Go.E Go.Proofs
section impl
variable {l:List iF} {W H:Nat}
end impl
end T
end
section
namespace T
open Go Go.E Go.Proofs
def KQ(W H:Nat)(f:Nat->Nat->iF):nS:=((W:Int),(H:Int),jZ (H*W) (mk W f))
theorem Ie{l:List iF}{W H y x:Nat}(hl:l.length=y*W+x)(hy:y<H)(hx:x<W)(hH:H<=6)(hW:W<=6):(l.length+1)*32<=140737488355328:=by
 have:=Ae hy hH hW
 omega
theorem aqK{l:List iF}{V U W H a b:Nat}(hs:l.length=U*V)(hV:V<=6)(hU:U<=6)(hW:W<=6)(hH:H<=6)(ha:a+W<=V)(hb:b+H<=U)(k:Int):akM dd (((V:Int),(U:Int),l),k,(a:Int),(b:Int),(W:Int),(H:Int))=some (KQ W H fun x y=>at' l V (a+x) (b+y)):=by
 refine dL rfl ((apE dd Vy ..).trans ?_)
 refine Ia (W:=W) (H:=H) (mk W fun x y=>at' l V (a+x) (b+y)) (fun y l'=>Vy (PU (y:Nat) V U l k a b W H 0 0 W H l')=some (KQ W H fun x y=>at' l V (a+x) (b+y))) (fun y x l'=>Vy (PV (y:Nat) (x:Nat) V U l k a b W H 0 0 W H l')=some (KQ W H fun x y=>at' l V (a+x) (b+y))) ?_ ?_ ?_ ?_
 ·intro y l' hy hl hq
  refine eL ((ac3 dd Vy ..).trans ?_)
  rw[au (by omega)]
  exact hq
 ·intro y x l' hy hx hl hq
  have hm:=Ae (show b+y<U by omega) hU hV
  have hln:=bF l
  rw[Xk hx] at hq
  refine eL ((ac4 dd Vy ..).trans ?_)
  rw[au (by omega),aI (x:=(b:Int)+y) (by omega) (by omega),show (b:Int)+y=((b+y:Nat):Int) by omega,DT,aI (x:=(((b+y)*V:Nat):Int)) (by omega) (by omega),aI (x:=(((b+y)*V:Nat):Int)+a) (by omega) (by omega),show (((b+y)*V:Nat):Int)+a+x=(((b+y)*V+(a+x):Nat):Int) by omega,aI (x:=(((b+y)*V+(a+x):Nat):Int)) (by omega) (by omega),if_pos (by omega),if_pos (by omega),if_pos (Ie hl hy hx hH hW),bf (by omega)]
  exact hq
 ·intro y l' hy hq
  refine eL ((ac4 dd Vy ..).trans ?_)
  rw[ay (by omega),bf (by omega)]
  exact hq
 ·refine eL ((ac3 dd Vy ..).trans ?_)
  rw[ay (by omega)]
  rfl
theorem aqL{l:List iF}{W H:Nat}(hs:l.length=H*W)(hW:W<=6)(hH:H<=6):akN dd ((W:Int),(H:Int),l)=some (KQ W H fun x y=>at' l W (W-1-x) y):=by
 refine dL rfl ((apF dd Vz ..).trans ?_)
 refine Ia (W:=W) (H:=H) (mk W fun x y=>at' l W (W-1-x) y) (fun y l'=>Vz (PW (y:Nat) W H l 0 0 W H l')=some (KQ W H fun x y=>at' l W (W-1-x) y)) (fun y x l'=>Vz (PX (y:Nat) ((W:Int)-1-(x:Nat)) W H l 0 0 W H l')=some (KQ W H fun x y=>at' l W (W-1-x) y)) ?_ ?_ ?_ ?_
 ·intro y l' hy hl hq
  refine eL ((ac5 dd Vz ..).trans ?_)
  rw[au (by omega),aI (x:=(W:Int)-1) (by omega) (by omega),show (W:Int)-1=(W:Int)-1-((0:Nat):Int) by omega]
  exact hq
 ·intro y x l' hy hx hl hq
  have hm:=Ae hy hH hW
  have hln:=bF l
  rw[Xk hx] at hq
  refine eL ((ac6 dd Vz ..).trans ?_)
  rw[au (by omega),DT,aI (x:=((y*W:Nat):Int)) (by omega) (by omega),show ((y*W:Nat):Int)+((W:Int)-1-(x:Int))=((y*W+(W-1-x):Nat):Int) by omega,aI (x:=((y*W+(W-1-x):Nat):Int)) (by omega) (by omega),if_pos (by omega),if_pos (by omega),if_pos (Ie hl hy hx hH hW),aI (x:=(W:Int)-1-x-1) (by omega) (by omega),show (W:Int)-1-x-1=(W:Int)-1-((x+1:Nat):Int) by omega]
  exact hq
 ·intro y l' hy hq
  refine eL ((ac6 dd Vz ..).trans ?_)
  rw[ay (by omega),bf (by omega)]
  exact hq
 ·refine eL ((ac5 dd Vz ..).trans ?_)
  rw[ay (by omega)]
  rfl
theorem aqM{l:List iF}{W H:Nat}(hs:l.length=W*H)(hW:W<=6)(hH:H<=6):akO dd ((H:Int),(W:Int),l)=some (KQ W H fun x y=>at' l H y (W-1-x)):=by
 refine dL rfl ((apG dd VA ..).trans ?_)
 refine Ia (W:=W) (H:=H) (mk W fun x y=>at' l H y (W-1-x)) (fun y l'=>VA (PY (y:Nat) H W l 0 0 W H l')=some (KQ W H fun x y=>at' l H y (W-1-x))) (fun y x l'=>VA (PZ (y:Nat) (x:Nat) H W l 0 0 W H l')=some (KQ W H fun x y=>at' l H y (W-1-x))) ?_ ?_ ?_ ?_
 ·intro y l' hy hl hq
  refine eL ((ac7 dd VA ..).trans ?_)
  rw[au (by omega)]
  exact hq
 ·intro y x l' hy hx hl hq
  have hm:=Ae (show W-1-x<W by omega) hW hH
  have hln:=bF l
  rw[Xk hx] at hq
  refine eL ((ac8 dd VA ..).trans ?_)
  rw[au (by omega),aI (x:=(W:Int)-1) (by omega) (by omega),aI (x:=(W:Int)-1-x) (by omega) (by omega),show (W:Int)-1-x=((W-1-x:Nat):Int) by omega,DT,aI (x:=(((W-1-x)*H:Nat):Int)) (by omega) (by omega),show (((W-1-x)*H:Nat):Int)+(y:Int)=(((W-1-x)*H+y:Nat):Int) by omega,aI (x:=(((W-1-x)*H+y:Nat):Int)) (by omega) (by omega),if_pos (by omega),if_pos (by omega),if_pos (Ie hl hy hx hH hW),bf (by omega)]
  exact hq
 ·intro y l' hy hq
  refine eL ((ac8 dd VA ..).trans ?_)
  rw[ay (by omega),bf (by omega)]
  exact hq
 ·refine eL ((ac7 dd VA ..).trans ?_)
  rw[ay (by omega)]
  rfl
theorem aqN{l:List iF}{V U W H:Nat}(hs:l.length=U*V)(hV1:1<=V)(hV:V<=6)(hU1:1<=U)(hU:U<=6)(hW:W<=6)(hH:H<=6)(k c d:Int):akP dd (((V:Int),(U:Int),l),k,(W:Int),(H:Int),c,d)=some (KQ W H fun x y=>at' l V ((2*x+1)*V/(2*W)) ((2*y+1)*U/(2*H))):=by
 refine dL rfl ((apH dd VB ..).trans ?_)
 refine Ia (W:=W) (H:=H) (mk W fun x y=>at' l V ((2*x+1)*V/(2*W)) ((2*y+1)*U/(2*H))) (fun y l'=>VB (P5 (y:Nat) V U l k W H c d 0 0 W H l')=some (KQ W H fun x y=>at' l V ((2*x+1)*V/(2*W)) ((2*y+1)*U/(2*H)))) (fun y x l'=>VB (P6 (y:Nat) (x:Nat) V U l k W H c d 0 0 W H l')=some (KQ W H fun x y=>at' l V ((2*x+1)*V/(2*W)) ((2*y+1)*U/(2*H)))) ?_ ?_ ?_ ?_
 ·intro y l' hy hl hq
  refine eL ((ac9 dd VB ..).trans ?_)
  rw[au (by omega)]
  exact hq
 ·intro y x l' hy hx hl hq
  obtain⟨s1,s2,s3,s4⟩:=Ib hx hW hV1 hV
  obtain⟨t1,t2,t3,t4⟩:=Ib hy hH hU1 hU
  rw[Xk hx] at hq
  refine eL ((ada dd VB ..).trans ?_)
  rw[au (by omega),s1,t1,if_pos t2,if_pos s2,s3,t3]
  generalize (2*x+1)*V/(2*W)=a at*
  generalize (2*y+1)*U/(2*H)=b at*
  have hm:=Ae t4 hU hV
  have hln:=bF l
  rw[DT,aI (x:=((b*V:Nat):Int)) (by omega) (by omega),show ((b*V:Nat):Int)+(a:Int)=((b*V+a:Nat):Int) by omega,aI (x:=((b*V+a:Nat):Int)) (by omega) (by omega),if_pos (by omega),if_pos (by omega),if_pos (Ie hl hy hx hH hW),bf (by omega)]
  exact hq
 ·intro y l' hy hq
  refine eL ((ada dd VB ..).trans ?_)
  rw[ay (by omega),bf (by omega)]
  exact hq
 ·refine eL ((ac9 dd VB ..).trans ?_)
  rw[ay (by omega)]
  rfl
def yV(o:Op)(l:List iF)(W H x y:Nat):iF:=if o.1=5 then Xl (at' l W x y) else if o.1=6 then Tz l W H x y else Xm o (at' l W x y)
theorem alT{l:List iF}{W H:Nat}(hs:l.length=H*W)(hW1:1<=W)(hW:W<=6)(hH:H<=6)(o:Op):∀ (k i:Nat),i+k=H*W->
  afC (Fa (i:Nat) W H l o.1 o.2.1 o.2.2.1 o.2.2.2.1 o.2.2.2.2 0 0 W H (jZ i (mk W (yV o l W H))))=some (KQ W H (yV o l W H))
 |0,i,h=>by
  have hln:=bF l
  refine eL ((adb dd afC ..).trans ?_)
  have:i=H*W:=by omega
  subst this
  rw[ay (by omega)]
  rfl
 |k+1,i,h=>by
  have hm:=qo hH hW
  have hln:=bF l
  have hg:(jZ i (mk W (yV o l W H))).length=i:=lM
  have hi:i/W*W+i%W=i:=by rw[Nat.mul_comm];exact Nat.div_add_mod i W
  have hx:i%W<W:=Nat.mod_lt _ hW1
  have hy:i/W<H:=Nat.div_lt_of_lt_mul (by rw[Nat.mul_comm];omega)
  have ha:gt l (i:Int) z4=at' l W (i%W) (i/W):=by show _=gt l ((i/W*W+i%W:Nat):Int) z4;rw[hi]
  have ih:=alT hs hW1 hW hH o k (i+1) (by omega)
  rw[zV] at ih
  have hd:=aqJ hs hx hy hW hH
  refine eL ((adb dd afC ..).trans ?_)
  rw[au (by omega),bf (by omega)]
  by_cases h5:o.1=5
  ·rw[aK h5,if_pos (by omega),if_pos (by omega),aqH,abJ,if_pos (by omega)]
   have:mk W (yV o l W H) i=Xl (gt l i z4):=by unfold mk yV;rw[if_pos h5,ha]
   rw[this] at ih
   exact ih
  ·rw[aA h5]
   by_cases h6:o.1=6
   ·rw[aK h6,if_pos (by omega),if_pos (by omega),tm (by omega),td (by omega), <- Int.natCast_emod, <- Int.natCast_ediv]
    have e1:wi ((i/W:Nat):Int)=((i/W:Nat):Int):=by
     generalize i/W=q at*
     exact aI (by omega) (by omega)
    rw[e1,hd,abJ,if_pos (by omega)]
    have:mk W (yV o l W H) i=Tz l W H (i%W) (i/W):=by unfold mk yV;rw[if_neg h5,if_pos h6]
    rw[this] at ih
    exact ih
   ·rw[aA h6,if_pos (by omega),if_pos (by omega),aqI,abJ,if_pos (by omega)]
    have:mk W (yV o l W H) i=Xm o (gt l i z4):=by unfold mk yV;rw[if_neg h5,if_neg h6,ha]
    rw[this] at ih
    exact ih
theorem aiq{l:List iF}{W H:Nat}(hs:l.length=H*W)(hW1:1<=W)(hW:W<=6)(hH:H<=6)(o:Op):akQ dd (((W:Int),(H:Int),l),o)=some (KQ W H (yV o l W H)):=by
 obtain⟨k,a,b,c,e⟩:=o
 refine dL rfl ((apI dd afC ..).trans ?_)
 exact alT hs hW1 hW hH (k,a,b,c,e) (H*W) 0 (by omega)
end T
end
section
namespace T
open Go Go.E Go.Proofs
def opP(o:Op)(l:List iF)(W H:Nat):Option nS:=
 if o.1=1 then if o.2.1+o.2.2.2.1>(W:Int) then none else if o.2.2.1+o.2.2.2.2>(H:Int) then none else some (KQ o.2.2.2.1.toNat o.2.2.2.2.toNat fun x y=>at' l W (o.2.1.toNat+x) (o.2.2.1.toNat+y))
 else if o.1=2 then some (KQ W H fun x y=>at' l W (W-1-x) y)
 else if o.1=3 then some (KQ W H fun x y=>at' l W x (H-1-y))
 else if o.1=4 then some (KQ H W fun x y=>at' l W y (H-1-x))
 else if o.1=7 then some (KQ o.2.1.toNat o.2.2.1.toNat fun x y=>at' l W ((2*x+1)*W/(2*o.2.1.toNat)) ((2*y+1)*H/(2*o.2.2.1.toNat)))
 else some (KQ W H (yV o l W H))
def Lr:List Op->nS->Option nS
 |[],r=>some r
 |o::os,r=>(opP o r.2.2 r.1.toNat r.2.1.toNat).bind (Lr os)
def adG:Option nS->nS×Bool
 |none=>((0,0,[]),false)
 |some r=>(r,true)
inductive OpC:Op->Prop where
 |air (a b c e:Nat) (ha:a<=5) (hb:b<=5) (hc1:1<=c) (hc:c<=6) (he1:1<=e) (he:e<=6):OpC (1,a,b,c,e)
 |adH:OpC (2,0,0,0,0)
 |adI:OpC (3,0,0,0,0)
 |turn:OpC (4,0,0,0,0)
 |gray:OpC (5,0,0,0,0)
 |mean:OpC (6,0,0,0,0)
 |size (a b:Nat) (ha1:1<=a) (ha:a<=6) (hb1:1<=b) (hb:b<=6):OpC (7,a,b,0,0)
 |flat (a b c:Int) (ha:0<=a∧a<=255) (hb:0<=b∧b<=255) (hc:0<=c∧c<=255):OpC (8,a,b,c,0)
theorem ais{o:Op}(h:qA o=true):OpC o:=by
 obtain⟨k,a,b,c,e⟩:=o
 unfold qA at h
 dsimp only at h
 split at h
 ·rename_i hk
  simp only[Bool.and_eq_true,gQ] at h
  obtain⟨h1,h2,h3,h4⟩:=h
  have:=OpC.air a.toNat b.toNat c.toNat e.toNat (by omega) (by omega) (by omega) (by omega) (by omega) (by omega)
  rw[Int.toNat_of_nonneg (by omega),Int.toNat_of_nonneg (by omega),Int.toNat_of_nonneg (by omega),Int.toNat_of_nonneg (by omega)] at this
  rw[hk];exact this
 ·split at h
  ·rename_i hk
   simp only[Bool.and_eq_true,gQ,beq_iff_eq] at h
   obtain⟨h1,h2,h3,h4⟩:=h
   have:=OpC.size a.toNat b.toNat (by omega) (by omega) (by omega) (by omega)
   rw[Int.toNat_of_nonneg (by omega),Int.toNat_of_nonneg (by omega)] at this
   rw[hk,h3,h4];exact this
  ·split at h
   ·rename_i hk
    simp only[Bool.and_eq_true,gQ,beq_iff_eq] at h
    obtain⟨h1,h2,h3,h4⟩:=h
    rw[hk,h4];exact OpC.flat a b c h1 h2 h3
   ·simp only[Bool.and_eq_true,gQ,beq_iff_eq] at h
    obtain⟨h0,h1,h2,h3,h4⟩:=h
    subst h1 h2 h3 h4
    have:k=2∨k=3∨k=4∨k=5∨k=6:=by omega
    rcases this with rfl|rfl|rfl|rfl|rfl
    ·exact .adH
    ·exact .adI
    ·exact .turn
    ·exact .gray
    ·exact .mean
theorem Gw{W H:Nat}{f:Nat->Nat->iF}(hW1:1<=W)(hW:W<=6)(hH1:1<=H)(hH:H<=6)(hf:∀ x y,x<W->y<H->fZ (f x y)=true):lK (KQ W H f) W H:=by
 refine⟨rfl,rfl,hW1,hW,hH1,hH,lM,?_⟩
 refine List.all_eq_true.2 fun p hp=> ?_
 have hp:p∈jZ (H*W) (mk W f):=hp
 unfold jZ at hp
 obtain⟨i,hi,rfl⟩:=List.mem_map.1 hp
 have hi:i<H*W:=by simpa using hi
 exact hf _ _ (Nat.mod_lt _ (by omega)) (Nat.div_lt_of_lt_mul (by rw[Nat.mul_comm];exact hi))
theorem KD{l:List iF}{W H x y:Nat}(hl:l.length=H*W)(hp:l.all fZ=true)(hx:x<W)(hy:y<H):fZ (at' l W x y)=true:=by
 have hm:y*W+W<=H*W:=by rw[<- jD];exact Nat.mul_le_mul_right W hy
 exact uz hp (by omega)
section eqs
variable {l:List iF} {W H:Nat}
theorem agX{a b c e:Nat}:opP (1,a,b,c,e) l W H=if (a:Int)+c>W then none else if (b:Int)+e>H then none else some (KQ c e fun x y=>at' l W (a+x) (b+y)):=by
 unfold opP;rw[if_pos rfl];rfl
end eqs
theorem agY{o:Op}{r:nS}{W H:Nat}(ho:OpC o)(hn:lK r W H){r':nS}(h:opP o r.2.2 W H=some r'):∃ W' H',lK r' W' H':=by
 have hl:=hn.len;have hp:=hn.pix;have hW1:=hn.w1;have hW:=hn.w6;have hH1:=hn.h1;have hH:=hn.h6
 cases ho with
 |air a b c e ha hb hc1 hc he1 he=>
  rw[agX] at h
  split at h
  ·cases h
  ·split at h
   ·cases h
   ·cases h
    exact⟨c,e,Gw hc1 hc he1 he fun x y hx hy=>KD hl hp (by omega) (by omega)⟩
 |adH=>cases h;exact⟨W,H,Gw hW1 hW hH1 hH fun x y hx hy=>KD hl hp (by omega) (by omega)⟩
 |adI=>cases h;exact⟨W,H,Gw hW1 hW hH1 hH fun x y hx hy=>KD hl hp (by omega) (by omega)⟩
 |turn=>cases h;exact⟨H,W,Gw hH1 hH hW1 hW fun x y hx hy=>KD hl hp (by omega) (by omega)⟩
 |gray=>cases h;exact⟨W,H,Gw hW1 hW hH1 hH fun x y hx hy=>afQ (KD hl hp (by omega) (by omega))⟩
 |mean=>cases h;exact⟨W,H,Gw hW1 hW hH1 hH fun x y hx hy=>afS hl hp hx hy hW hH⟩
 |size a b ha1 ha hb1 hb=>cases h;exact⟨a,b,Gw ha1 ha hb1 hb fun x y hx hy=>KD hl hp (Ib hx ha hW1 hW).2.2.2 (Ib hy hb hH1 hH).2.2.2⟩
 |flat a b c ha hb hc=>cases h;exact⟨W,H,Gw hW1 hW hH1 hH fun x y hx hy=>afR (KD hl hp (by omega) (by omega)) ⟨ha,hb,hc⟩⟩
theorem aqO{o:Op}{r:nS}{W H:Nat}(ho:OpC o)(hn:lK r W H):akL dd (r,o)=some (adG (opP o r.2.2 W H)):=by
 obtain⟨w,h,l⟩:=r
 have e1:w=W:=hn.w;have e2:h=H:=hn.h
 subst e1 e2
 have hl:l.length=H*W:=hn.len;have hp:=hn.pix;have hW1:=hn.w1;have hW:=hn.w6;have hH1:=hn.h1;have hH:=hn.h6
 cases ho with
 |air a b c e ha hb hc1 hc he1 he=>
  refine dL rfl ((SH dd SI ..).trans ?_)
  rw[aK rfl,aI (x:=(a:Int)+c) (by omega) (by omega),aI (x:=(b:Int)+e) (by omega) (by omega),agX,SS,SS]
  split
  ·rfl
  ·split
   ·rfl
   ·rw[aqK hl hW hH hc he (by omega) (by omega),abJ];rfl
 |adH=>refine dL rfl ((SH dd SI ..).trans ?_);rw[aA (by decide),aK rfl,aqL hl hW hH,abJ];rfl
 |adI=>refine dL rfl ((SH dd SI ..).trans ?_);rw[aA (by decide),aA (by decide),aK rfl,ail hn,abJ];rfl
 |turn=>refine dL rfl ((SH dd SI ..).trans ?_);rw[aA (by decide),aA (by decide),aA (by decide),aK rfl,aqM (W:=H) (H:=W) hl hH hW,abJ];rfl
 |gray=>refine dL rfl ((SH dd SI ..).trans ?_);rw[aA (by decide),aA (by decide),aA (by decide),aA (by decide),aA (by decide),aiq hl hW1 hW hH,abJ];rfl
 |mean=>refine dL rfl ((SH dd SI ..).trans ?_);rw[aA (by decide),aA (by decide),aA (by decide),aA (by decide),aA (by decide),aiq hl hW1 hW hH,abJ];rfl
 |size a b ha1 ha hb1 hb=>refine dL rfl ((SH dd SI ..).trans ?_);rw[aA (by decide),aA (by decide),aA (by decide),aA (by decide),aK rfl,aqN hl hW1 hW hH1 hH ha hb,abJ];rfl
 |flat a b c ha hb hc=>refine dL rfl ((SH dd SI ..).trans ?_);rw[aA (by decide),aA (by decide),aA (by decide),aA (by decide),aA (by decide),aiq hl hW1 hW hH,abJ];rfl
theorem aqP{r:nS}{W H:Nat}(hn:lK r W H):akK dd r=some r:=by
 obtain⟨w,h,l⟩:=r
 have hm:=qo hn.h6 hn.w6
 have hl:l.length=H*W:=hn.len
 refine dL rfl ((apB dd apC ..).trans ?_);show (_:Option Rs)=some _
 rw[if_pos (by omega)]
theorem alU{ops:List Op}(ho:ops.all qA=true)(hlen:ops.length<=5)(x y:Int):∀ (k i:Nat) (r:nS) (W H:Nat),i+k=ops.length->lK r W H->
  afA (PL ops i x y r.1 r.2.1 r.2.2)=some (adG (Lr (ops.drop i) r))
 |0,i,r,W,H,hi,hn=>by
  have hln:=bF ops
  refine eL ((acV dd afA ..).trans ?_)
  rw[ay (by omega),List.drop_eq_nil_of_le (by omega)]
  rfl
 |k+1,i,r,W,H,hi,hn=>by
  have hln:=bF ops
  have hlt:i<ops.length:=by omega
  have hc:=ais (uz (z:=(0,0,0,0,0)) ho hlt)
  refine eL ((acV dd afA ..).trans ?_)
  rw[au (by omega),if_pos (by omega),if_pos (by omega),aqO hc hn,abJ,eG (z:=(0,0,0,0,0)) hlt,bf (by omega)]
  show _=some (adG ((opP _ r.2.2 r.1.toNat r.2.1.toNat).bind (Lr _)))
  rw[hn.w,hn.h,aeg,aeg]
  cases hop:opP (gt ops (i:Int) (0,0,0,0,0)) r.2.2 W H with
  |none=>rfl
  |some r'=>
   obtain⟨W',H',hn'⟩:=agY hc hn hop
   exact alU ho hlen x y k (i+1) r' W' H' (by omega) hn'
theorem VT:∀ {ops:List Op} {r:nS} {W H:Nat},(∀ o∈ops,OpC o)->lK r W H->∀ {r':nS},Lr ops r=some r'->∃ W' H',lK r' W' H'
 |[],r,W,H,_,hn,r',h=>by cases h;exact⟨W,H,hn⟩
 |o::os,r,W,H,ho,hn,r',h=>by
  unfold Lr at h
  rw[hn.w,hn.h,aeg,aeg] at h
  cases hop:opP o r.2.2 W H with
  |none=>rw[hop] at h;cases h
  |some r1=>
   rw[hop] at h
   obtain⟨W',H',hn'⟩:=agY (ho o (aee ..)) hn hop
   exact VT (fun x hx=>ho x (aef _ hx)) hn' h
theorem aqQ{r:nS}{W H:Nat}{ops:List Op}(hn:lK r W H)(ho:nT ops=true):ahW dd (r,ops)=some (adG (Lr ops r)):=by
 obtain⟨h1,h2⟩:=Bool.and_eq_true _ _▸ho
 have h1:ops.length<=5:=of_decide_eq_true h1
 have hm:=qo hn.h6 hn.w6
 have hl:=hn.len
 have a1:=afE r (by show r.2.2.length<_;omega)
 rw[zT.2 ⟨W,H,hn⟩] at a1
 have a2:=D57 ops (by show ops.length<_;omega)
 rw[ho] at a2
 have a3:=aqP hn
 have a4:=alU h2 h1 0 0 ops.length 0 r W H (by omega) hn
 obtain⟨w,h,l⟩:=r
 refine dL rfl ((apv dd afA ..).trans ?_);show (_:Option zT9)=some _
 rw[a1,abJ]
 show (bif false then _ else _)=_
 rw[cond_false,a2,abJ]
 show (bif false then _ else _)=_
 rw[cond_false,a3,abJ]
 exact a4
end T
end
section
namespace T
open Go Go.E Go.Proofs
theorem Xo{l:List Int}(h:fB l){i:Nat}{b:Int}(hb:0<=b∧b<256):fB (l.set i b):=fun x hx=>by
 rcases List.mem_or_eq_of_mem_set hx with hx|rfl
 ·exact h x hx
 ·exact hb
theorem aqR{k:Int}{s:List Int×Int}{f:List Int}(hs:Rd k s)(hk:k<=800000000)(hb:fB f)(hf:f.length<=260):∃ f' s',ahO dd (s,f)=some (f',s')∧fB f'∧f'.length<=261∧Rd (k+10) s':=by
 have hln:=bF f
 obtain⟨b,p⟩:=s
 by_cases c0:ln f=0
 ·obtain⟨v,s1,h1,g1,g2,r1⟩:=lg 256 hs (by omega) (by omega)
  refine⟨[wb v],s1,?_,bV.2 ⟨oM v,iC⟩,by simp,r1.le (by omega)⟩
  refine dL rfl ((afo dd afp ..).trans ?_);show (_:Option agB)=some _
  rw[aK c0,h1,abJ]
 obtain⟨v,s1,h1,g1,g2,r1⟩:=lg (ln f) hs (by omega) (by omega)
 have g2:=g2 (by omega)
 obtain⟨v2,s2,h2,k1,k2,r2⟩:=lg 3 r1 (by omega) (by omega)
 have ht:(f.take v.toNat).length=v.toNat:=by rw[List.length_take];omega
 have hd:(f.drop v.toNat).length=f.length-v.toNat:=List.length_drop
 by_cases c1:v2=0
 ·refine⟨f.take v.toNat++f.drop (v+1).toNat,s2,?_,mg.2 ⟨jY hb _,iV hb _⟩,?_,r2.le (by omega)⟩
  ·refine dL rfl ((afo dd afp ..).trans ?_);show (_:Option agB)=some _
   rw[aA c0,h1,abJ]
   show ((iZ dd (s1,3)).bind _)=_
   rw[h2,abJ]
   show (bif v2==0 then _ else _)=_
   rw[aK c1]
   show (if 0<=v then if v<=ln f then if 0<=wi (v+1) then if wi (v+1)<=ln f then if (0+(List.take v.toNat f).length)*1<=140737488355328 then if ((List.take v.toNat f).length+(List.drop (wi (v+1)).toNat f).length)*1<=140737488355328 then some ((List.take v.toNat f).append (List.drop (wi (v+1)).toNat f),s2) else none else none else none else none else none else none)=_
   rw[aI (x:=v+1) (by omega) (by omega)]
   have hd':(f.drop (v+1).toNat).length=f.length-(v+1).toNat:=List.length_drop
   rw[if_pos (by omega),if_pos (by omega),if_pos (by omega),if_pos (by omega),if_pos (by omega),if_pos (by omega)]
   rfl
  ·rw[List.length_append,ht,List.length_drop];omega
 by_cases c2:v2=1
 ·obtain⟨v3,s3,h3,l1,l2,r3⟩:=lg 9 r2 (by omega) (by omega)
  refine⟨(f.take v.toNat++[wb v3])++f.drop v.toNat,s3,?_,mg.2 ⟨mg.2 ⟨jY hb _,bV.2 ⟨oM _,iC⟩⟩,iV hb _⟩,?_,r3.le (by omega)⟩
  ·refine dL rfl ((afo dd afp ..).trans ?_);show (_:Option agB)=some _
   rw[aA c0,h1,abJ]
   show ((iZ dd (s1,3)).bind _)=_
   rw[h2,abJ]
   show (bif v2==0 then _ else bif v2==1 then _ else _)=_
   rw[aA c1,aK c2]
   show (if 0<=v then if v<=ln f then if 0<=v then if v<=ln f then if (0+(List.take v.toNat f).length)*1<=140737488355328 then ((iZ dd (s2,9)).bind fun (gu:Int×List Int×Int)=>if ((List.take v.toNat f).length+1)*1<=140737488355328 then if (((List.take v.toNat f).append [wb gu.fst]).length+(List.drop v.toNat f).length)*1<=140737488355328 then some (((List.take v.toNat f).append [wb gu.fst]).append (List.drop v.toNat f),gu.snd) else none else none) else none else none else none else none else none)=_
   rw[if_pos (by omega),if_pos (by omega),if_pos (by omega),if_pos (by omega),if_pos (by omega),h3,abJ,if_pos (by omega)]
   have e:((List.take v.toNat f).append [wb v3]).length=v.toNat+1:=by show (List.take v.toNat f++[wb v3]).length=_;rw[List.length_append,ht];rfl
   have:(((List.take v.toNat f).append [wb v3]).length+(List.drop v.toNat f).length)*1<=140737488355328:=by rw[e,hd];omega
   exact if_pos this
  ·rw[List.length_append,List.length_append,ht,hd];simp;omega
 obtain⟨v3,s3,h3,l1,l2,r3⟩:=lg 255 r2 (by omega) (by omega)
 refine⟨f.set v.toNat (wb (↑(BitVec.ofInt IntKind.u8.bits (gt f v 0)^^^BitVec.ofInt IntKind.u8.bits (wb (wi (1+v3)))).toNat:Int)),s3,?_,Xo hb (oM _),by rw[List.length_set];omega,r3.le (by omega)⟩
 refine dL rfl ((afo dd afp ..).trans ?_);show (_:Option agB)=some _
 rw[aA c0,h1,abJ]
 show ((iZ dd (s1,3)).bind _)=_
 rw[h2,abJ]
 show (bif v2==0 then _ else bif v2==1 then _ else _)=_
 rw[aA c1,aA c2]
 show (if (0+f.length)*1<=140737488355328 then if 0<=v then if v<ln f then ((iZ dd (s2,255)).bind fun (gu:Int×List Int×Int)=>if 0<=v then if v<ln f then some (f.set v.toNat (wb (↑(BitVec.ofInt IntKind.u8.bits (gt f v 0)^^^BitVec.ofInt IntKind.u8.bits (wb (wi (1+gu.fst)))).toNat:Int)),gu.snd) else none else none) else none else none else none)=_
 rw[if_pos (by omega),if_pos (by omega),if_pos (by omega),h3,abJ,if_pos (by omega),if_pos (by omega)]
end T
end
section
namespace T
open Go Go.E Go.Proofs
def AU(f:List Int)(ops:List Op):List Int×Int:=
 if f.length>220 then ([],413) else if nT ops=false then ([],422) else if (jk f).2=2 then ([],415) else if (jk f).2=3 then ([],422) else match Lr ops (jk f).1 with|none=>([],422)|some r=>(VP r,200)
theorem Xp{ops:List Op}(h:nT ops=true):∀ o∈ops,OpC o:=by
 obtain⟨h1,h2⟩:=Bool.and_eq_true _ _▸h
 exact fun o ho=>ais (List.all_eq_true.1 h2 o ho)
theorem ait{r:nS}{W H:Nat}(hn:lK r W H):Sh r.2.2:=by
 have hm:=qo hn.h6 hn.w6
 have hl:=hn.len
 show r.2.2.length<_
 omega
theorem Y2(f:List Int)(ops:List Op)(hb:fB f)(hs:Sh f)
  (F:Option Bool) (G:Option (nS×Int)) (O:nS->Option (nS×Bool)) (P:nS->Option (List Int))
  (hF:F=some (nT ops)) (hG:f.length<=220->G=some (jk f)) (hO:∀ r W H,lK r W H->nT ops=true->O r=some (adG (Lr ops r))) (hP:∀ r W H,lK r W H->P r=some (VP r)):
  (bif decide (ln f>220) then some ([],413) else F.bind fun (r:Bool)=>bif !r then some ([],422) else G.bind fun (r:nS×Int)=>bif r.snd==2 then some ([],415) else bif r.snd==3 then some ([],422) else (O r.fst).bind fun (r:nS×Bool)=>bif !r.snd then some ([],422) else (P r.fst).bind fun (r:List Int)=>some (r,(200:Int)))=some (AU f ops):=by
 have hln:=bF f
 unfold AU
 by_cases c0:f.length>220
 ·rw[au (by omega),if_pos c0]
 rw[ay (by omega),if_neg c0,hF,abJ]
 cases ho:nT ops with
 |false=>rfl
 |true=>
  rw[Bool.not_true,cond_false,if_neg (by decide),hG (by omega),abJ]
  by_cases c2:(jk f).2=2
  ·rw[aK c2,if_pos c2]
  rw[aA c2,if_neg c2]
  by_cases c3:(jk f).2=3
  ·rw[aK c3,if_pos c3]
  rw[aA c3,if_neg c3]
  have c1:(jk f).2=1:=by rcases Kz f with h|h|h;exact h;exact absurd h c2;exact absurd h c3
  obtain⟨W,H,hn⟩:=VQ hb c1
  rw[hO _ W H hn ho,abJ]
  cases hp:Lr ops (jk f).1 with
  |none=>rfl
  |some r'=>
   obtain⟨W',H',hn'⟩:=VT (Xp ho) hn hp
   show (bif false then _ else _)=_
   rw[cond_false]
   show ((P r').bind _)=_
   rw[hP r' W' H' hn',abJ]
theorem alV(f:List Int)(ops:List Op)(hb:fB f)(hs:Sh f)(ho:Sh ops):YJ dd (f,ops)=some (AU f ops):=by
 refine dL rfl ((YR dd apk ..).trans ?_)
 exact Y2 f ops hb hs (r57 dd ops) (aeX dd f) (fun r=>ahW dd (r,ops)) (fun r=>ahX dd r) (D57 ops ho) (fun h=>alR f hb (by omega)) (fun r W H hn h=>aqQ hn h) (fun r W H hn=>aqA r (ait hn))
theorem D14:r14 dd ()=some true:=by
 refine dL rfl ((b14 dd l14 ..).trans ?_)
 rw[D60,abJ];rfl
end T
end
section
namespace T
open Go Go.E Go.Proofs
abbrev Str:=ByteArray
theorem rE(l:List Int):(bU l).size=l.length:=by
 show ((l.map fun n=>UInt8.ofNat n.toNat).toArray).size=l.length
 simp
theorem aN(a b:Str):(a++b).size=a.size+b.size:=ByteArray.size_append
theorem zX(a:Str)(i j:Nat):(a.extract i j).size=min j a.size-i:=ByteArray.size_extract
theorem yX(s:Str)(i:Int):0<=aW s i∧aW s i<256:=by
 unfold aW
 cases s[i.toNat]? with
 |none=>exact⟨Int.le_refl _,by show (0:Int)<256;decide⟩
 |some b=>exact⟨by show (0:Int)<=(b.toNat:Int);omega,by have:=b.toNat_lt;show (b.toNat:Int)<256;omega⟩
def okB(x:Int):Bool:=(decide (97<=x)&&decide (x<=122))||(decide (48<=x)&&decide (x<=57))
def Fp(s:Str):Nat->Nat->Bool
 |0,_=>true
 |k+1,i=>okB (aW s i)&&Fp s k (i+1)
def nameP(s:Str):Bool:=decide (1<=s.size)&&(decide (s.size<=6)&&Fp s s.size 0)
theorem L58(s:Str)(hs:s.size<=6):∀ (k i:Nat),i+k=s.size->l58 (MZ s i)=some (Fp s k i)
 |0,i,h=>by
  refine eL ((agt dd l58 ..).trans ?_);show (_:Option Bool)=some _
  rw[ay (by omega)];rfl
 |k+1,i,h=>by
  have ih:=L58 s hs k (i+1) (by omega)
  refine eL ((agt dd l58 ..).trans ?_);show (_:Option Bool)=some _
  have r:=yX s i
  unfold Fp okB
  rw[au (by omega),if_pos (by omega),if_pos (by omega),bf (by omega),ih]
  by_cases c1:aW s i<97
  ·rw[au c1,if_pos (by omega),if_pos (by omega),decide_eq_false (show ¬ 97<=aW s i by omega),Bool.false_and,Bool.false_or]
   by_cases c2:aW s i<48
   ·rw[au c2,decide_eq_false (show ¬ 48<=aW s i by omega)];rfl
   rw[ay c2,if_pos (by omega),if_pos (by omega),decide_eq_true (show 48<=aW s i by omega),Bool.true_and]
   by_cases c3:aW s i>57
   ·rw[au c3,decide_eq_false (show ¬ aW s i<=57 by omega)];rfl
   ·rw[ay c3,decide_eq_true (show aW s i<=57 by omega),Bool.true_and]
  ·rw[ay c1,if_pos (by omega),if_pos (by omega),decide_eq_true (show 97<=aW s i by omega),Bool.true_and]
   by_cases c2:aW s i>122
   ·rw[au c2,if_pos (by omega),if_pos (by omega),ay (by omega),if_pos (by omega),if_pos (by omega),au (by omega),decide_eq_false (show ¬ aW s i<=122 by omega),decide_eq_false (show ¬ aW s i<=57 by omega),Bool.and_false];rfl
   ·rw[ay c2,decide_eq_true (show aW s i<=122 by omega),Bool.true_or,Bool.true_and]
theorem D58(s:Str):r58 dd s=some (nameP s):=by
 refine dL rfl ((b58 dd l58 ..).trans ?_);unfold nameP
 by_cases c0:s.size=0
 ·rw[aK (by omega),decide_eq_false (by omega)];rfl
 rw[aA (by omega),decide_eq_true (show 1<=s.size by omega),Bool.true_and]
 by_cases c1:s.size>6
 ·rw[au (by omega),decide_eq_false (show ¬ s.size<=6 by omega)];rfl
 rw[ay (by omega),decide_eq_true (show s.size<=6 by omega),Bool.true_and]
 exact L58 s (by omega) s.size 0 (by omega)
theorem L92(s:Str)(hs:s.size<=6):∀ (k i:Nat),i+k=s.size->l92 (JJ s (s.size:Int) i)=some (Fp s k i)
 |0,i,h=>by
  refine eL ((agA dd l92 ..).trans ?_);show (_:Option Bool)=some _
  rw[ay (by omega)];rfl
 |k+1,i,h=>by
  have ih:=L92 s hs k (i+1) (by omega)
  refine eL ((agA dd l92 ..).trans ?_);show (_:Option Bool)=some _
  have r:=yX s i
  unfold Fp okB
  rw[au (by omega),if_pos (by omega),if_pos (by omega),bf (by omega),ih]
  by_cases c1:aW s i≥97
  ·rw[au c1,if_pos (by omega),if_pos (by omega),if_pos (by omega),if_pos (by omega),au (show aW s i≥48 by omega),if_pos (by omega),if_pos (by omega),decide_eq_true c1,Bool.true_and]
   by_cases c2:aW s i<=122
   ·rw[decide_eq_true c2,Bool.not_true,cond_false,Bool.true_or,Bool.true_and]
   ·rw[decide_eq_false c2,decide_eq_false (show ¬ aW s i<=57 by omega),Bool.and_false];rfl
  ·rw[ay c1,if_pos (by omega),if_pos (by omega),decide_eq_false (show ¬ 97<=aW s i by omega),Bool.false_and,Bool.false_or]
   by_cases c2:aW s i≥48
   ·rw[au c2,if_pos (by omega),if_pos (by omega),decide_eq_true (show 48<=aW s i by omega),Bool.true_and]
    by_cases c3:aW s i<=57
    ·rw[decide_eq_true c3,Bool.not_true,cond_false,Bool.true_and]
    ·rw[decide_eq_false c3];rfl
   ·rw[ay c2,decide_eq_false (show ¬ 48<=aW s i by omega)];rfl
theorem D92(s:Str):r92 dd s=some (nameP s):=by
 refine dL rfl ((b92 dd l92 ..).trans ?_);unfold nameP
 by_cases c0:s.size=0
 ·rw[au (by omega),decide_eq_false (show ¬ 1<=s.size by omega)];rfl
 rw[ay (by omega),decide_eq_true (show 1<=s.size by omega),Bool.true_and]
 by_cases c1:s.size>6
 ·rw[au (by omega),decide_eq_false (show ¬ s.size<=6 by omega)];rfl
 rw[ay (by omega),decide_eq_true (show s.size<=6 by omega),Bool.true_and]
 exact L92 s (by omega) s.size 0 (by omega)
end T
end
