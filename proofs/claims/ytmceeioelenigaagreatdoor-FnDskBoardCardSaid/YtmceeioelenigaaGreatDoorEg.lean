/- Cuts, moved slices, states, further. -/
import Derived.Test.YtmceeioelenigaaGreatDoorEf
section
namespace Go.E
section
variable {X:Ctx} {o:Ow} {E E1 Ec:Env} {mv:List Nat} {aG:Nat}
def Keys(l:bn)(A:Nat->Prop):Prop:=(l.map (·.1)).Nodup∧∀ q∈l,A q.1
theorem Keys.nil{A:Nat->Prop}:Keys [] A:=⟨List.nodup_nil,fun _ h=>(by cases h)⟩
theorem Keys.mono{l:bn}{A B:Nat->Prop}(h:Keys l A)(k:∀ i,A i->B i):Keys l B:=⟨h.1,fun q hq=>k _ (h.2 q hq)⟩
theorem Keys.app{l l':bn}{A B:Nat->Prop}(h:Keys l A)(h':Keys l' B)(hd:∀ i,A i->¬ B i):Keys (l++l') fun i=>A i∨B i:=by
 refine⟨?_,fun q hq=>(adh.1 hq).elim (fun x=> .inl (h.2 q x)) fun x=> .inr (h'.2 q x)⟩
 rw[List.map_append,List.nodup_append]
 refine⟨h.1,h'.1,fun a ha b hb e=> ?_⟩
 obtain⟨q,hq,rfl⟩:=List.mem_map.1 ha
 obtain⟨q',hq',rfl⟩:=List.mem_map.1 hb
 exact hd _ (h.2 q hq) (by rw[e];exact h'.2 q' hq')
theorem Keys.one{i:Nat}{a:AO}{A:Nat->Prop}(h:A i):Keys [(i,a)] A:=⟨by simp,fun q hq=>by obtain rfl:=List.mem_singleton.1 hq;exact h⟩
theorem BN:∀ {l:bn} {q:Nat×AO},(l.map (·.1)).Nodup->q∈l->look l q.1=some q.2
 |(i,a)::r,q,hn,hq=>by
  rw[List.map_cons,List.nodup_cons] at hn
  rcases List.mem_cons.1 hq with e|hq
  ·subst e;exact dA _ _ _
  ·have:i≠q.1:=fun e=>hn.1 (by rw[e];exact List.mem_map.2 ⟨q,hq,rfl⟩)
   rw[fU _ _ this]
   exact BN hn.2 hq
theorem uq{A:Nat->Prop}:∀ {l:bn} {i:Nat},(∀ q∈l,A q.1)->¬ A i->look l i=none
 |[],_,_,_=>rfl
 |(j,a)::r,i,h,hi=>by
  have:j≠i:=fun e=>hi (by rw[<- e];exact h (j,a) aee)
  rw[fU _ _ this]
  exact uq (fun q hq=>h q (aef _ hq)) hi
theorem lY(m:Md)(t:CT)(d:t.D)(n:Nat):n<=(gJ m t d n).2.2∧Keys (gJ m t d n).2.1 fun i=>n<=i∧i<(gJ m t d n).2.2:=by
 cases t with
 |sl ts=>
  cases m with
  |mv=>exact⟨Nat.le_succ n,Keys.one ⟨Nat.le_refl _,Nat.lt_succ_self n⟩⟩
  |ro=>exact⟨Nat.le_refl n,Keys.nil⟩
  |leak=>exact⟨Nat.le_refl n,Keys.nil⟩
 | _=>cases m<;>exact⟨Nat.le_refl n,Keys.nil⟩
theorem Rw{t:CT}{ts:aC}{ms:List Md}(ht:jH t=true):∃ m ms',∀ (d:(aC.cons t ts).D) (n:Nat),dP (.cons t ts) ms d n=
  ((gJ m t d.1 n).1::(dP ts ms' d.2 (gJ m t d.1 n).2.2).1,(dP ts ms' d.2 (gJ m t d.1 n).2.2).2.1++(gJ m t d.1 n).2.1,(dP ts ms' d.2 (gJ m t d.1 n).2.2).2.2):=by
 cases ms with
 |nil=>exact⟨.ro,[],fun d n=>by show (bif jH t then _ else _)=_;rw[ht];rfl⟩
 |cons m ms'=>exact⟨m,ms',fun d n=>by show (bif jH t then _ else _)=_;rw[ht];rfl⟩
theorem jw:∀ (ts:aC) (ms:List Md) (d:ts.D) (n:Nat),n<=(dP ts ms d n).2.2∧Keys (dP ts ms d n).2.1 fun i=>n<=i∧i<(dP ts ms d n).2.2
 | .one t,ms,d,n=>lY _ t d n
 | .cons t ts,ms,d,n=>by
  cases ht:jH t with
  |false=>
   have e:dP (.cons t ts) ms d n=(t.av d.1::(dP ts ms d.2 n).1,(dP ts ms d.2 n).2.1,(dP ts ms d.2 n).2.2):=by
    show (bif jH t then _ else _)=_
    rw[ht];rfl
   rw[e]
   exact jw ts ms d.2 n
  |true=>
   obtain⟨m,ms',e⟩:=Rw (ts:=ts) (ms:=ms) ht
   rw[e]
   obtain⟨a1,a2⟩:=lY m t d.1 n
   obtain⟨b1,b2⟩:=jw ts ms' d.2 (gJ m t d.1 n).2.2
   refine⟨Nat.le_trans a1 b1,(b2.app a2 fun i hi hi'=> ?_).mono fun i hi=> ?_⟩
   ·omega
   ·dsimp only at hi ⊢;omega
theorem F7(p:PT)(d:p.sh.D)(b n:Nat):n<=(fK p d b n).2.2∧(b<n->Keys (fK p d b n).2.1 fun i=>(fQ p=true∧i=b)∨(n<=i∧i<(fK p d b n).2.2)):=by
 match p,d with
 |⟨.one t,ms⟩,d=>exact⟨(lY _ t d n).1,fun _=>(lY _ t d n).2.mono fun i=> .inr⟩
 |⟨.agg ts,ms⟩,d=>exact⟨(jw ts ms d n).1,fun _=>(jw ts ms d n).2.mono fun i=> .inr⟩
 |⟨.rP,ms⟩,d=>exact⟨Nat.le_refl n,fun _=>Keys.nil⟩
 |⟨.st ts,ms⟩,d=>
  refine⟨(jw ts ms d n).1,fun hb=> ?_⟩
  refine ((Keys.one (i:=b) (a:= .box (dP ts ms d n).1) (A:=fun i=>fQ ⟨.st ts,ms⟩=true∧i=b) ⟨rfl,rfl⟩).app (jw ts ms d n).2 fun i hi hi'=> ?_)
  omega
theorem F8:∀ (ps:List PT) (d:He ps) (b n:Nat),n<=(gY ps d b n).2.2∧(b+jh ps<=n->Keys (gY ps d b n).2.1 fun i=>(b<=i∧i<b+jh ps)∨(n<=i∧i<(gY ps d b n).2.2))
 |[],d,b,n=>⟨Nat.le_refl n,fun _=>Keys.nil⟩
 |[p],d,b,n=>by
  obtain⟨k1,k2⟩:=F7 p d b n
  refine⟨k1,fun hb=> ?_⟩
  cases hp:fQ p with
  |true=>
   have e:jh [p]=1:=by show (bif fQ p then 0+1 else 0)=1;rw[hp];rfl
   rw[e] at hb⊢
   exact (k2 (by omega)).mono fun i hi=>by
    show _∨(n<=i∧i<(fK p d b n).2.2)
    omega
  |false=>
   have:Keys (fK p d b n).2.1 fun i=>(n<=i∧i<(fK p d b n).2.2):=by
    match p,d,hp with
    |⟨.one t,ms⟩,d,_=>exact (lY _ t d n).2
    |⟨.agg ts,ms⟩,d,_=>exact (jw ts ms d n).2
    |⟨.rP,ms⟩,d,_=>exact Keys.nil
   exact this.mono fun i=> .inr
 |p::q::r,d,b,n=>by
  have e:gY (p::q::r) d b n=((fK p d.1 b n).1::(gY (q::r) d.2 (bif fQ p then b+1 else b) (fK p d.1 b n).2.2).1,(gY (q::r) d.2 (bif fQ p then b+1 else b) (fK p d.1 b n).2.2).2.1++(fK p d.1 b n).2.1,
   (gY (q::r) d.2 (bif fQ p then b+1 else b) (fK p d.1 b n).2.2).2.2):=rfl
  obtain⟨k1,k2⟩:=F7 p d.1 b n
  obtain⟨g1,g2⟩:=F8 (q::r) d.2 (bif fQ p then b+1 else b) (fK p d.1 b n).2.2
  cases hp:fQ p with
  |true=>
   have hb':(bif fQ p then b+1 else b)=b+1:=by rw[hp];rfl
   rw[hb'] at e g1 g2
   rw[e]
   refine⟨Nat.le_trans k1 g1,fun hb=> ?_⟩
   have e:jh (p::q::r)=jh (q::r)+1:=by show (bif fQ p then jh (q::r)+1 else jh (q::r))=_;rw[hp];rfl
   rw[e] at hb⊢
   refine ((g2 (by omega)).app (k2 (by omega)) fun i hi hi'=> ?_).mono fun i hi=> ?_
   ·omega
   ·dsimp only at hi ⊢;omega
  |false=>
   have hb':(bif fQ p then b+1 else b)=b:=by rw[hp];rfl
   rw[hb'] at e g1 g2
   rw[e]
   refine⟨Nat.le_trans k1 g1,fun hb=> ?_⟩
   have e:jh (p::q::r)=jh (q::r):=by show (bif fQ p then jh (q::r)+1 else jh (q::r))=_;rw[hp];rfl
   rw[e] at hb⊢
   have k2:Keys (fK p d.1 b n).2.1 fun i=>(n<=i∧i<(fK p d.1 b n).2.2):=by
    match p,d,hp with
    |⟨.one t,ms⟩,d,_=>exact (lY _ t d.1 n).2
    |⟨.agg ts,ms⟩,d,_=>exact (jw ts ms d.1 n).2
    |⟨.rP,ms⟩,d,_=>exact Keys.nil
   refine ((g2 (by omega)).app k2 fun i hi hi'=> ?_).mono fun i hi=> ?_
   ·omega
   ·dsimp only at hi ⊢;omega
end
end Go.E
end
section
namespace Go.E
section
variable {X:Ctx} {o:Ow} {E E1 Ec:Env} {mv:List Nat} {aG:Nat}
def jF(O:bn):PT->AV->List (Option Nat)
 |⟨.one t,ms⟩,x=>bH [t] ms [x]
 |⟨.agg ts,ms⟩,.agg cs=>bH ts.list ms cs
 |⟨.st ts,ms⟩,.ptr id _=>match look O id with
  |some (.box cs)=>bH ts.list ms cs
  | _=>[]
 | _,_=>[]
def ji(O:bn):List PT->List AV->List (Option Nat)
 |p::ps,x::xs=>jF O p x++ji O ps xs
 | _,_=>[]
theorem wK{O:bn}:∀ {l:List Nat} {es:List Eff} {i:Nat},kY O l=some es->aQ i es=true->i∈l
 |[],es,i,h,hi=>by cases h;cases hi
 |id::r,es,i,h,hi=>by
  unfold kY at h
  split at h
  ·rename_i ts rows wr l h1 h2
   cases h
   have hi:(Nat.beq id i||aQ i l)=true:=hi
   simp only[Bool.or_eq_true] at hi
   rcases hi with hi|hi
   ·rw[aeh hi];exact aee
   ·exact aef _ (wK h2 hi)
  ·cases h
theorem F9{O:bn}{ts:aC}{m:Md}{x:AV}{d:List ts.D}{es:List Eff}{mo us:List Nat}(hd:CT.jq O (.sl ts) x=some d)(hu:rW m O x=some (es,mo,us)):
  Lets O es mo∧mo=(eu m (.sl ts) x).filterMap id∧∀ i,aQ i es=true->i∈us:=by
 cases m with
 |ro=>
  rcases oC hd with ⟨rfl,rfl⟩|⟨deps,rfl⟩|⟨id,wr,rfl,hl⟩<;>(cases hu;exact⟨.nil,rfl,fun i hi=>(by cases hi)⟩)
 |leak=>
  unfold rW at hu
  obtain⟨e,he,hq⟩:=Option.map_eq_some_iff.1 hu
  cases hq
  refine⟨(wz he).1.lets,rfl,fun i hi=> ?_⟩
  rcases oC hd with ⟨rfl,rfl⟩|⟨deps,rfl⟩|⟨id,wr,rfl,hl⟩
  ·cases he;cases hi
  ·exact wK he hi
  ·exact wK he hi
 |mv=>
  rcases oC hd with ⟨rfl,rfl⟩|⟨deps,rfl⟩|⟨id,wr,rfl,hl⟩
  ·cases hu;exact⟨.nil,rfl,fun i hi=>(by cases hi)⟩
  ·cases hu
  ·cases hu;exact⟨.gone hl .nil,rfl,fun i hi=>(by cases hi)⟩
theorem oI{O:bn}:∀ (ts:aC) (ms:List Md) (xs:List AV) (d:ts.D) {es:List Eff} {mo us:List Nat},ts.iL O xs=some d->iG O ts.list ms xs=some (es,mo,us)->
  Lets O es mo∧mo=(bH ts.list ms xs).filterMap id∧∀ i,aQ i es=true->i∈us
 | .one t,ms,xs,d,es,mo,us,hd,hu=>by
  match xs,hd,hu with
  |[x],hd,hu=>
   have hd:t.jq O x=some d:=hd
   cases ht:jH t with
   |false=>
    have hu:(bif jH t then _ else some ([],[],[]))=some (es,mo,us):=hu
    have e2:bH [t] ms [x]=[]:=by show (bif jH t then _ else _)=_;rw[ht];rfl
    rw[ht] at hu
    cases hu
    show _∧_=(bH [t] ms [x]).filterMap id∧_
    rw[e2]
    exact⟨.nil,rfl,fun i hi=>(by cases hi)⟩
   |true=>
    cases t with
    |sl ts=>
     cases ms with
     |nil=>cases hu
     |cons m ms=>
      have hu:(match rW m O x,(some ([],[],[]):Option (List Eff×List Nat×List Nat)) with|some (a,b,c),some (a',b',c')=>some (a++a',b++b',c++c')| _,_=>none)=some (es,mo,us):=hu
      split at hu
      ·rename_i a b c a' b' c' Uy e
       cases e
       cases hu
       obtain⟨h1,h2,h3⟩:=F9 hd Uy
       show _∧_=(eu m (.sl ts) x++[]).filterMap id∧_
       simp only[List.append_nil]
       exact⟨h1,h2,h3⟩
      ·cases hu
    | _=>cases ht
  |[],hd,_=>cases hd
  |x::y::r,hd,_=>cases hd
 | .cons t ts,ms,xs,d,es,mo,us,hd,hu=>by
  match xs,hd,hu with
  |[],hd,_=>cases hd
  |x::xs,hd,hu=>
   have hd:(match t.jq O x,ts.iL O xs with|some d,some e=>some (d,e)| _,_=>none)=some d:=hd
   split at hd
   case h_2=>cases hd
   rename_i d1 d2 g1 g2
   cases hd
   cases ht:jH t with
   |false=>
    have e2:bH (t::ts.list) ms (x::xs)=bH ts.list ms xs:=by show (bif jH t then _ else _)=_;rw[ht];rfl
    have hu:(bif jH t then _ else iG O ts.list ms xs)=some (es,mo,us):=hu
    rw[ht] at hu
    show _∧_=(bH (t::ts.list) ms (x::xs)).filterMap id∧_
    rw[e2]
    exact oI ts ms xs d2 g2 hu
   |true=>
    cases t with
    |sl vV=>
     cases ms with
     |nil=>cases hu
     |cons m ms=>
      have hu:(match rW m O x,iG O ts.list ms xs with|some (a,b,c),some (a',b',c')=>some (a++a',b++b',c++c')| _,_=>none)=some (es,mo,us):=hu
      split at hu
      case h_2=>cases hu
      rename_i a b c a' b' c' Uy hub
      cases hu
      obtain⟨h1,h2,h3⟩:=F9 g1 Uy
      obtain⟨k1,k2,k3⟩:=oI ts ms xs d2 g2 hub
      refine⟨h1.append k1,?_,fun i hi=> ?_⟩
      ·show _=(eu m (.sl vV) x++bH ts.list ms xs).filterMap id
       rw[List.filterMap_append, <- h2, <- k2]
      ·rw[iH,Bool.or_eq_true] at hi
       exact adh.2 (hi.imp (h3 i) (k3 i))
    | _=>cases ht
structure aap (O:bn) (p:PT) (x:AV) (es:List Eff) (mo us bs:List Nat):Prop where
 lets:Lets O es mo
 src:mo=(jF O p x).filterMap id
 used:∀ i,aQ i es=true->i∈us
 boxes:(fQ p=false∧bs=[])∨(fQ p=true∧∃ id cs,bs=[id]∧look O id=some (.box cs))
theorem rD{O:bn}{p:PT}{x:AV}{d:p.sh.D}{es:List Eff}{mo us bs:List Nat}(hg:getArg O p x=some (d,es,mo,us,bs)):aap O p x es mo us bs:=by
 match p,d,hg with
 |⟨.one t,ms⟩,d,hg=>
  have hg:(match t.jq O x,iG O [t] ms [x] with|some d,some (a,b,c)=>some (d,a,b,c,([]:List Nat))| _,_=>none)=some (d,es,mo,us,bs):=hg
  split at hg
  ·rename_i d' a b c h1 h2
   cases hg
   obtain⟨k1,k2,k3⟩:=oI (.one t) ms [x] d h1 h2
   exact⟨k1,k2,k3,.inl ⟨rfl,rfl⟩⟩
  ·cases hg
 |⟨.agg ts,ms⟩,d,hg=>
  cases x with
  |agg cs=>
   have hg:(match ts.iL O cs,iG O ts.list ms cs with|some d,some (a,b,c)=>some (d,a,b,c,([]:List Nat))| _,_=>none)=some (d,es,mo,us,bs):=hg
   split at hg
   ·rename_i d' a b c h1 h2
    cases hg
    obtain⟨k1,k2,k3⟩:=oI ts ms cs d h1 h2
    exact⟨k1,k2,k3,.inl ⟨rfl,rfl⟩⟩
   ·cases hg
  | _=>cases hg
 |⟨.rP,ms⟩,d,hg=>
  cases x with
  |agg cs=>
   cases cs with
   |nil=>cases hg;exact⟨.nil,rfl,fun i hi=>(by cases hi),.inl ⟨rfl,rfl⟩⟩
   |cons _ _=>cases hg
  | _=>cases hg
 |⟨.st ts,ms⟩,d,hg=>
  cases x with
  |ptr id off=>
   cases off with
   |succ _=>cases hg
   |zero=>
    have hg:(match look O id with
     |some (.box cs)=>match ts.iL O cs,iG O ts.list ms cs with
      |some d,some (a,b,c)=>some (d,a,b,c,[id])
      | _,_=>none
     | _=>none)=some (d,es,mo,us,bs):=hg
    split at hg
    ·rename_i cs hl
     split at hg
     ·rename_i d' a b c h1 h2
      cases hg
      obtain⟨k1,k2,k3⟩:=oI ts ms cs d h1 h2
      refine⟨k1,?_,k3,.inr ⟨rfl,id,cs,rfl,hl⟩⟩
      show _=(match look O id with|some (.box cs)=>bH ts.list ms cs| _=>[]).filterMap _
      rw[hl];exact k2
     ·cases hg
    ·cases hg
  | _=>cases hg
theorem Uz{t:CT}{ms:List Md}{d:t.D}{b n:Nat}:dP (.one t) ms d n=([(fK ⟨.one t,ms⟩ d b n).1],(fK ⟨.one t,ms⟩ d b n).2.1,(fK ⟨.one t,ms⟩ d b n).2.2):=by
 cases ms<;>rfl
theorem Rx(h:OK X o E aG)(L:Ux E E1 Ec mv){p:PT}{x:AV}{d:p.sh.D}{v:Value}{b n:Nat}{es:List Eff}{mo us bs:List Nat}(hg:getArg E.O p x=some (d,es,mo,us,bs))(hv:VR E x v)(hus:∀ i∈us,i∉mv)(hsh:oH E E1 es)
  (gW:∀ q∈(fK p d b n).2.1,look Ec.O q.1=some q.2) (hρ:∀ k q,(jF E.O p x)[k]? =some q->Ec.ρ (n+k)=qI E q) (hb:∀ id∈bs,Ec.ρ b=E.ρ id):
  VR Ec (fK p d b n).1 v∧(∀ q∈(fK p d b n).2.1,fV Ec q.1 q.2)∧(fK p d b n).2.2=n+(jF E.O p x).length:=by
 match p,d,hg,gW,hρ with
 |⟨.one t,ms⟩,d,hg,gW,hρ=>
  have hg:(match t.jq E.O x,iG E.O [t] ms [x] with|some d,some (a,b,c)=>some (d,a,b,c,([]:List Nat))| _,_=>none)=some (d,es,mo,us,bs):=hg
  split at hg
  ·rename_i d' a b c h1 h2
   cases hg
   have e:=Uz (ms:=ms) (d:=d) (b:=b) (n:=n)
   have k:=sW (Ec:=Ec) h L (.one t) ms [x] d [v] n h1 (by unfold dG;exact⟨v,[],rfl,hv,by unfold dG;rfl⟩) h2 hus hsh
   rw[e] at k
   obtain⟨k1,k2,k3⟩:=k gW hρ
   refine⟨?_,k2,k3⟩
   have k1:dG Ec [(fK ⟨.one t,ms⟩ d b n).1] [v]:=k1
   unfold dG at k1
   obtain⟨u,r,e,k1,_⟩:=k1
   cases e
   exact k1
  ·cases hg
 |⟨.agg ts,ms⟩,d,hg,gW,hρ=>
  cases x with
  |agg cs=>
   have hg:(match ts.iL E.O cs,iG E.O ts.list ms cs with|some d,some (a,b,c)=>some (d,a,b,c,([]:List Nat))| _,_=>none)=some (d,es,mo,us,bs):=hg
   split at hg
   ·rename_i d' a b c h1 h2
    cases hg
    unfold VR at hv
    obtain⟨l,rfl,hv⟩:=hv
    obtain⟨k1,k2,k3⟩:=sW h L ts ms cs d l n h1 hv h2 hus hsh gW hρ
    refine⟨?_,k2,k3⟩
    show VR Ec (.agg (dP ts ms d n).1) _
    unfold VR;exact⟨l,rfl,k1⟩
   ·cases hg
  | _=>cases hg
 |⟨.rP,ms⟩,d,hg,gW,hρ=>
  cases x with
  |agg cs=>
   cases cs with
   |nil=>
    cases hg
    refine⟨?_,fun q hq=>(by cases hq),rfl⟩
    show VR Ec (.agg []) v
    unfold VR at hv⊢
    obtain⟨l,rfl,hv⟩:=hv
    refine⟨l,rfl,?_⟩
    unfold dG at hv ⊢;exact hv
   |cons _ _=>cases hg
  | _=>cases hg
 |⟨.st ts,ms⟩,d,hg,gW,hρ=>
  cases x with
  |ptr id off=>
   cases off with
   |succ _=>cases hg
   |zero=>
    have hg:(match look E.O id with
     |some (.box cs)=>match ts.iL E.O cs,iG E.O ts.list ms cs with
      |some d,some (a,b,c)=>some (d,a,b,c,[id])
      | _,_=>none
     | _=>none)=some (d,es,mo,us,bs):=hg
    split at hg
    ·rename_i cs hl
     split at hg
     ·rename_i d' a b' c h1 h2
      cases hg
      have hb:=hb id aee
      unfold VR at hv
      obtain⟨cs',blk,e1,e2,e3⟩:=hv
      rw[hl] at e1;cases e1
      obtain⟨blk',c',t',f',q1,q2,q3,q4⟩:=h.obj id _ hl
      rw[e2] at q1;cases q1
      have hs:jF E.O ⟨.st ts,ms⟩ (.ptr id 0)=bH ts.list ms cs:=by
       show (match look E.O id with|some (.box cs)=>bH ts.list ms cs| _=>[])=_
       rw[hl]
      rw[hs] at hρ⊢
      obtain⟨k1,k2,k3⟩:=sW h L ts ms cs d c'.toList n h1 q4 h2 hus hsh (fun q hq=>gW q (aef _ hq)) hρ
      refine⟨?_,fun q hq=> ?_,k3⟩
      ·show VR Ec (.ptr b 0) v
       unfold VR
       exact⟨_,blk,gW (b,.box (dP ts ms d n).1) aee,by rw[hb];exact e2,e3⟩
      ·rcases List.mem_cons.1 hq with e|hq
       ·subst e
        exact⟨blk,c',t',f',by rw[hb];exact e2,by rw[L.w];exact q2,q3,k1⟩
       ·exact k2 q hq
     ·cases hg
    ·cases hg
  | _=>cases hg
end
end Go.E
end
section
namespace Go.E
section
variable {X:Ctx} {o:Ow} {E E1 Ec:Env} {mv:List Nat} {aG:Nat}
theorem nodup_iff:∀ {l:List Nat},nodup l=true↔l.Nodup
 |[]=>by simp[nodup]
 |x::r=>by
  unfold nodup
  rw[Bool.and_eq_true,List.nodup_cons,nodup_iff (l:=r),Bool.not_eq_true']
  constructor
  ·rintro⟨a,b⟩;exact⟨fun h=>(by rw[eX.2 h] at a;cases a),b⟩
  ·rintro⟨a,b⟩
   refine⟨?_,b⟩
   cases h:dN x r with
   |false=>rfl
   |true=>exact absurd (eX.1 h) a
theorem zM:∀ {a b:List Nat},apart a b=true->∀ i∈a,i∉b
 |x::r,b,h,i,hi=>by
  unfold apart at h
  rw[Bool.and_eq_true,Bool.not_eq_true'] at h
  rcases List.mem_cons.1 hi with e|hi
  ·subst e;intro hb;rw[eX.2 hb] at h;cases h.1
  ·exact zM h.2 i hi
structure X0 (O:bn) (ps:List PT) (xs:List AV) (es:List Eff) (mo us bs:List Nat):Prop where
 lets:Lets O es mo
 src:mo=(ji O ps xs).filterMap id
 used:∀ i,aQ i es=true->i∈us
 boxes:∀ id∈bs,∃ cs,look O id=some (.box cs)
 len:bs.length=jh ps
theorem pV{O:bn}:∀ (ps:List PT) (xs:List AV) (d:He ps) {es:List Eff} {mo us bs:List Nat},getArgs O ps xs=some (d,es,mo,us,bs)->X0 O ps xs es mo us bs
 |[],[],d,es,mo,us,bs,h=>by cases h;exact⟨.nil,rfl,fun i hi=>(by cases hi),fun i hi=>(by cases hi),rfl⟩
 |[p],[x],d,es,mo,us,bs,h=>by
  obtain⟨k1,k2,k3,k4⟩:=rD (p:=p) (d:=d) h
  refine⟨k1,?_,k3,?_,?_⟩
  ·show _=(jF O p x++[]).filterMap _
   rw[List.append_nil];exact k2
  ·rcases k4 with ⟨_,rfl⟩|⟨_,id,cs,rfl,hl⟩
   ·intro i hi;cases hi
   ·intro i hi;obtain rfl:=List.mem_singleton.1 hi;exact⟨cs,hl⟩
  ·show _=(bif fQ p then 0+1 else 0)
   rcases k4 with ⟨e,rfl⟩|⟨e,id,cs,rfl,hl⟩<;>rw[e]<;>rfl
 |p::q::r,x::y::xs,d,es,mo,us,bs,h=>by
  have h:(match getArg O p x,getArgs O (q::r) (y::xs) with
   |some (d,a,b,c,e),some (d',a',b',c',e')=>some ((d,d'),a++a',b++b',c++c',e++e')
   | _,_=>none)=some (d,es,mo,us,bs):=h
  split at h
  ·rename_i d1 a b c e d2 a' b' c' e' h1 h2
   cases h
   obtain⟨k1,k2,k3,k4⟩:=rD h1
   obtain⟨g1,g2,g3,g4,g5⟩:=pV (q::r) (y::xs) d2 h2
   refine⟨k1.append g1,?_,fun i hi=> ?_,fun i hi=> ?_,?_⟩
   ·show _=(jF O p x++ji O (q::r) (y::xs)).filterMap _
    rw[List.filterMap_append, <- k2, <- g2]
   ·rw[iH,Bool.or_eq_true] at hi
    exact adh.2 (hi.imp (k3 i) (g3 i))
   ·rcases adh.1 hi with hi|hi
    ·rcases k4 with ⟨_,rfl⟩|⟨_,id,cs,rfl,hl⟩
     ·cases hi
     ·obtain rfl:=List.mem_singleton.1 hi;exact⟨cs,hl⟩
    ·exact g4 i hi
   ·show _=(bif fQ p then jh (q::r)+1 else jh (q::r))
    rw[List.length_append,g5]
    rcases k4 with ⟨e,rfl⟩|⟨e,id,cs,rfl,hl⟩<;>rw[e]
    ·exact Nat.zero_add _
    ·exact Nat.add_comm _ _
  ·cases h
 |[],_::_,d,es,mo,us,bs,h=>by cases h
 |[_],[],d,es,mo,us,bs,h=>by cases h
 |[_],_::_::_,d,es,mo,us,bs,h=>by cases h
 | _::_::_,[],d,es,mo,us,bs,h=>by cases h
 | _::_::_,[_],d,es,mo,us,bs,h=>by cases h
theorem Ry(h:OK X o E aG)(L:Ux E E1 Ec mv):∀ (ps:List PT) (xs:List AV) (d:He ps) (l:List Value) (b n:Nat) {es:List Eff} {mo us bs:List Nat},getArgs E.O ps xs=some (d,es,mo,us,bs)->dG E xs l->(∀ i∈us,i∉mv)->oH E E1 es->
  (∀ q∈(gY ps d b n).2.1,look Ec.O q.1=some q.2)->(∀ k q,(ji E.O ps xs)[k]? =some q->Ec.ρ (n+k)=qI E q)->(∀ k id,bs[k]? =some id->Ec.ρ (b+k)=E.ρ id)->
  dG Ec (gY ps d b n).1 l∧(∀ q∈(gY ps d b n).2.1,fV Ec q.1 q.2)∧(gY ps d b n).2.2=n+(ji E.O ps xs).length
 |[],[],d,l,b,n,es,mo,us,bs,hg,hv,hus,hsh,gW,hρ,hb=>by
  refine⟨?_,fun q hq=>(by cases hq),rfl⟩
  show dG Ec [] l
  unfold dG at hv ⊢;exact hv
 |[p],[x],d,l,b,n,es,mo,us,bs,hg,hv,hus,hsh,gW,hρ,hb=>by
  unfold dG at hv
  obtain⟨v,q,rfl,h1,h2⟩:=hv
  unfold dG at h2;subst h2
  obtain⟨k1,k2,k3⟩:=Rx (p:=p) (d:=d) (b:=b) (n:=n) h L hg h1 hus hsh gW (fun k q hq=>hρ k q (by show (jF E.O p x++[])[k]? =_;rw[List.append_nil];exact hq)) fun id hid=>by
   obtain⟨k,hk⟩:=List.getElem?_of_mem hid
   have hk0:k=0:=by
    rcases (rD (p:=p) (d:=d) hg).boxes with ⟨_,rfl⟩|⟨_,id,cs,rfl,hl⟩
    ·simp at hk
    ·cases k with
     |zero=>rfl
     |succ k=>simp at hk
   subst hk0
   exact hb 0 id hk
  refine⟨?_,k2,?_⟩
  ·show dG Ec [(fK p d b n).1] [v]
   unfold dG;exact⟨v,[],rfl,k1,by unfold dG;rfl⟩
  ·show (fK p d b n).2.2=n+(jF E.O p x++[]).length
   rw[List.append_nil];exact k3
 |p::q::r,x::y::xs,d,l,b,n,es,mo,us,bs,hg,hv,hus,hsh,gW,hρ,hb=>by
  have hg:(match getArg E.O p x,getArgs E.O (q::r) (y::xs) with
   |some (d,a,b,c,e),some (d',a',b',c',e')=>some ((d,d'),a++a',b++b',c++c',e++e')
   | _,_=>none)=some (d,es,mo,us,bs):=hg
  split at hg
  ·rename_i d1 a bb c e d2 a' b' c' e' h1 h2
   cases hg
   unfold dG at hv
   obtain⟨v,vr,rfl,v1,v2⟩:=hv
   have hx:gY (p::q::r) (d1,d2) b n=((fK p d1 b n).1::(gY (q::r) d2 (bif fQ p then b+1 else b) (fK p d1 b n).2.2).1,(gY (q::r) d2 (bif fQ p then b+1 else b) (fK p d1 b n).2.2).2.1++(fK p d1 b n).2.1,
    (gY (q::r) d2 (bif fQ p then b+1 else b) (fK p d1 b n).2.2).2.2):=rfl
   rw[hx] at gW⊢
   have hs:ji E.O (p::q::r) (x::y::xs)=jF E.O p x++ji E.O (q::r) (y::xs):=rfl
   rw[hs] at hρ⊢
   have bx:=(rD h1).boxes
   obtain⟨k1,k2,k3⟩:=Rx (b:=b) (n:=n) h L h1 v1 (fun i hi=>hus i (adh.2 (.inl hi))) hsh.left (fun q hq=>gW q (adh.2 (.inr hq))) (fun k q' hq=>hρ k q' (by
     rw[List.getElem?_append_left]
     ·exact hq
     ·rcases Nat.lt_or_ge k (jF E.O p x).length with y|y
      ·exact y
      ·rw[List.getElem?_eq_none y] at hq;cases hq)) fun id hid=>by
    rcases bx with ⟨_,rfl⟩|⟨_,id',cs,rfl,hl⟩
    ·cases hid
    ·obtain rfl:=List.mem_singleton.1 hid
     exact hb 0 id rfl
   obtain⟨g1,g2,g3⟩:=Ry h L (q::r) (y::xs) d2 vr (bif fQ p then b+1 else b) (fK p d1 b n).2.2 h2 v2 (fun i hi=>hus i (adh.2 (.inr hi))) hsh.right (fun q hq=>gW q (adh.2 (.inl hq))) (fun k q' hq=>by
     rw[k3,Nat.add_assoc]
     refine hρ _ q' ?_
     rw[List.getElem?_append_right (by omega),Nat.add_sub_cancel_left];exact hq) fun k id hk=>by
    rcases bx with ⟨e0,rfl⟩|⟨e0,id',cs,rfl,hl⟩
    ·rw[e0];exact hb k id hk
    ·rw[e0]
     show Ec.ρ (b+1+k)=_
     rw[Nat.add_assoc,Nat.add_comm 1 k]
     exact hb (k+1) id hk
   refine⟨?_,fun q hq=>(adh.1 hq).elim (g2 q) (k2 q),?_⟩
   ·unfold dG;exact⟨v,vr,rfl,k1,g1⟩
   ·show (gY (q::r) d2 _ (fK p d1 b n).2.2).2.2=n+_
    rw[List.length_append, <- Nat.add_assoc, <- k3];exact g3
  ·cases hg
 |[],_::_,d,l,b,n,es,mo,us,bs,hg,_,_,_,_,_,_=>by cases hg
 |[_],[],d,l,b,n,es,mo,us,bs,hg,_,_,_,_,_,_=>by cases hg
 |[_],_::_::_,d,l,b,n,es,mo,us,bs,hg,_,_,_,_,_,_=>by cases hg
 | _::_::_,[],d,l,b,n,es,mo,us,bs,hg,_,_,_,_,_,_=>by cases hg
 | _::_::_,[_],d,l,b,n,es,mo,us,bs,hg,_,_,_,_,_,_=>by cases hg
end
end Go.E
end
section
namespace Go.E
section
variable {X:Ctx} {o:Ow} {E:Env} {aG:Nat}
theorem BO:∀ (ps:List PT) (d:He ps) (b n k:Nat),k<jh ps->∃ cs,(b+k,AO.box cs)∈(gY ps d b n).2.1
 |[],d,b,n,k,hk=>by cases hk
 |[p],d,b,n,k,hk=>by
  match p,d,hk with
  |⟨.st ts,ms⟩,d,hk=>
   have hk:k<0+1:=hk
   obtain rfl:k=0:=by omega
   exact⟨_,aee⟩
  |⟨.one t,ms⟩,d,hk=>cases hk
  |⟨.agg ts,ms⟩,d,hk=>cases hk
  |⟨.rP,ms⟩,d,hk=>cases hk
 |p::q::r,d,b,n,k,hk=>by
  have hx:(gY (p::q::r) d b n).2.1=(gY (q::r) d.2 (bif fQ p then b+1 else b) (fK p d.1 b n).2.2).2.1++(fK p d.1 b n).2.1:=rfl
  rw[hx]
  cases hp:fQ p with
  |false=>
   have hk:k<(bif fQ p then jh (q::r)+1 else jh (q::r)):=hk
   rw[hp] at hk
   obtain⟨cs,h⟩:=BO (q::r) d.2 b (fK p d.1 b n).2.2 k hk
   exact⟨cs,adh.2 (.inl h)⟩
  |true=>
   cases k with
   |zero=>
    match p,d,hp with
    |⟨.st ts,ms⟩,d,_=>exact⟨_,adh.2 (.inr aee)⟩
   |succ k=>
    have hk:k+1<(bif fQ p then jh (q::r)+1 else jh (q::r)):=hk
    rw[hp] at hk
    obtain⟨cs,h⟩:=BO (q::r) d.2 (b+1) (fK p d.1 b n).2.2 k (Nat.lt_of_succ_lt_succ hk)
    refine⟨cs,adh.2 (.inl ?_)⟩
    show (b+(k+1),AO.box cs)∈_
    rw[show b+(k+1)=b+1+k by omega];exact h
theorem Lets.mem{O:bn}{es:List Eff}{mv:List Nat}(h:Lets O es mv):∀ id∈mv,∃ ts rows wr,look O id=some (.arr ts rows wr):=by
 induction h with
 |nil=>intro i hi;cases hi
 |shut _ _ ih=>exact ih
 |gone a _ ih=>
  intro i hi
  rcases List.mem_cons.1 hi with e|hi
  ·subst e;exact⟨_,_,_,a⟩
  ·exact ih i hi
theorem Lets.sealed{O:bn}{es:List Eff}{mv:List Nat}(h:Lets O es mv):∀ i,aQ i es=true->∃ ts rows wr,look O i=some (.arr ts rows wr):=by
 induction h with
 |nil=>intro i hi;cases hi
 | @shut id _ _ _ r _ a _ ih=>
  intro i hi
  have hi:(Nat.beq id i||aQ i r)=true:=hi
  rw[Bool.or_eq_true] at hi
  rcases hi with hi|hi
  ·rw[<- aeh hi];exact⟨_,_,_,a⟩
  ·exact ih i hi
 |gone a _ ih=>exact ih
theorem Og:∀ {l:List (Option Nat)} {a b i:Nat},(l.filterMap id).Nodup->l[a]? =some (some i)->l[b]? =some (some i)->a=b
 |[],a,b,i,_,h,_=>by simp at h
 |x::l,a,b,i,hn,ha,hb=>by
  have mem:∀ k,l[k]? =some (some i)->i∈l.filterMap id:=fun k hk=>List.mem_filterMap.2 ⟨some i,List.mem_of_getElem? hk,rfl⟩
  cases a with
  |zero=>
   cases b with
   |zero=>rfl
   |succ b=>
    obtain rfl:x=some i:=by simpa using ha
    rw[List.filterMap_cons] at hn
    exact absurd (mem b (by simpa using hb)) (List.nodup_cons.1 hn).1
  |succ a=>
   cases b with
   |zero=>
    obtain rfl:x=some i:=by simpa using hb
    rw[List.filterMap_cons] at hn
    exact absurd (mem a (by simpa using ha)) (List.nodup_cons.1 hn).1
   |succ b=>
    have hn':(l.filterMap id).Nodup:=by
     cases x with
     |none=>exact hn
     |some y=>rw[List.filterMap_cons] at hn;exact (List.nodup_cons.1 hn).2
    have ha:l[a]? =some (some i):=by simpa using ha
    have hb:l[b]? =some (some i):=by simpa using hb
    rw[Og hn' ha hb]
theorem filterMap_some(l:List Nat):(l.map some).filterMap id=l:=by
 induction l with
 |nil=>rfl
 |cons a l ih=>simp
def UA(E:Env):List Nat->Nat->List (Nat×Nat)
 |[],_=>[]
 |id::r,n=>(n,((E.ρ id).b).getD 0)::UA E r (n+1)
theorem Jv{E:Env}:∀ (l:List Nat) (n:Nat),(UA E l n).map (·.1)=jE n l.length
 |[],n=>rfl
 |id::r,n=>by show n::(UA E r (n+1)).map (·.1)=n::jE (n+1) r.length;rw[Jv r]
theorem Rz{E:Env}:∀ (l:List Nat) (n:Nat) (q:Nat×Nat),q∈UA E l n->∃ k id,l[k]? =some id∧q.1=n+k∧q.2=((E.ρ id).b).getD 0
 |id::r,n,q,h=>by
  rcases List.mem_cons.1 h with e|h
  ·subst e;exact⟨0,id,rfl,rfl,rfl⟩
  ·obtain⟨k,id',h1,h2,h3⟩:=Rz r (n+1) q h
   exact⟨k+1,id',by simpa using h1,by omega,h3⟩
theorem RD{E:Env}:∀ (l:List Nat) (n k id:Nat),l[k]? =some id->(n+k,((E.ρ id).b).getD 0)∈UA E l n
 |[],n,k,id,h=>by simp at h
 |a::r,n,0,id,h=>by
  obtain rfl:a=id:=by simpa using h
  exact aee
 |a::r,n,k+1,id,h=>by
  have:=RD (E:=E) r (n+1) k id (by simpa using h)
  rw[show n+(k+1)=n+1+k by omega]
  exact aef _ this
def uw(g:FuncId)(E E1:Env)(o:Ow)(ano boxes:List Nat):Ctx:=
 ⟨fun b=>b<E.w.heap.size∧o.s b∧∀ i∈ano,(E.ρ i).b≠some b,E.w,E1.N,UA E boxes 1,g⟩
theorem RF(g:FuncId)(h:OK X o E aG){ps:List PT}{xs:List AV}{d:He ps}{es:List Eff}{mo us bs:List Nat}{vals:List Value}(hg:getArgs E.O ps xs=some (d,es,mo,us,bs))(hv:dG E xs vals)(hn:(mo++bs).Nodup)(ha:apart mo us=true):
  ∃ E1 Ec:Env,E1.w=E.w∧E1.ρ=E.ρ∧E1.F=E.F∧OK X o E1 aG∧Step E E1 es∧(∀ i,look E1.O i=if i∈mo∨aQ i es=true then (look E.O i).map fun _=> .dead else (look E.O i).map (jd es))∧
   (∀ i∈mo++bs,∀ b,(E.ρ i).b=some b->¬ E1.N b)∧Ec.w=E.w∧Ec.N=E1.N∧Ec.O=(gY ps d 1 (1+jh ps)).2.1∧OK (uw g E E1 o (mo++bs) bs) o Ec (gY ps d 1 (1+jh ps)).2.2∧dG Ec (gY ps d 1 (1+jh ps)).1 vals:=by
 obtain⟨f1,f2,f3,f4,f5⟩:=pV ps xs d hg
 have hmo:∀ i∈mo,aQ i es=false:=fun i hi=>by
  cases hs:aQ i es with
  |false=>rfl
  |true=>exact absurd (f3 i hs) (zM ha i hi)
 have hnm:mo.Nodup:=(List.nodup_append.1 hn).1
 obtain⟨E1,w1,r1,ff1,ok1,st1,n1,l1,m1,b1⟩:=Jt f1 h (fun _ _ _ _ hx _=> .inl hx) (fun i hi=>by obtain⟨ts,rows,wr,hl⟩:=f1.mem i hi;exact⟨ts,rows,wr,hl,hl⟩) hnm hmo
 have hall:(bs.map some++ji E.O ps xs).filterMap id=bs++mo:=by rw[List.filterMap_append,filterMap_some, <- f2]
 have hnd:((bs.map some++ji E.O ps xs).filterMap id).Nodup:=by
  rw[hall]
  have:=List.nodup_append.1 hn
  exact List.nodup_append.2 ⟨this.2.1,this.1,fun a hb b hm e=>this.2.2 b hm a hb e.symm⟩
 obtain⟨k1,k2⟩:=F8 ps d 1 (1+jh ps)
 have k2:=k2 (Nat.le_refl _)
 let Ec:Env:=⟨E.w,fun n=>qI E (((bs.map some++ji E.O ps xs)[n-1]?).getD none),E1.N,(uw g E E1 o (mo++bs) bs).G,(gY ps d 1 (1+jh ps)).2.1⟩
 have live:∀ i∈mo++bs,∃ a,look E.O i=some a∧live a=true:=fun i hi=>by
  rcases adh.1 hi with hi|hi
  ·obtain⟨_,_,_,hl⟩:=f1.mem i hi;exact⟨_,hl,rfl⟩
  ·obtain⟨_,hl⟩:=f4 i hi;exact⟨_,hl,rfl⟩
 have L:Ux E E1 Ec mo:=by
  refine⟨rfl,w1,n1,fun b hb=>hb,fun b hb=> ?_,fun i ts rows wr b hl him hb=> ?_⟩
  ·have hk:=h.kept b (h.fg b hb)
   refine⟨h.ltN (.inr (h.fg b hb)),hk.2.2,fun j hj hjb=> ?_⟩
   exact (h.own j b (live j hj) hjb).2.2.1 (h.fg b hb)
  ·have ho:=h.own i b ⟨_,hl,rfl⟩ hb
   refine⟨ho.1,h.us b ho.2.2.2,fun j hj hjb=> ?_⟩
   have:=h.inj i j b ⟨_,hl,rfl⟩ (live j hj) hb hjb
   subst this
   rcases adh.1 hj with hj|hj
   ·exact him hj
   ·obtain⟨cs,hc⟩:=f4 i hj
    rw[hl] at hc;cases hc
 have hsh:oH E E1 es:=fun i hi=>by
  obtain⟨ts,rows,wr,hl⟩:=f1.sealed i hi
  refine⟨(h.num i _ hl).2,fun b ts' rows' wr' hl' hb=>⟨m1 i ts' rows' wr' b hi hl' hb,by rw[w1]⟩⟩
 have aga:∀ q∈(gY ps d 1 (1+jh ps)).2.1,look Ec.O q.1=some q.2:=fun q hq=>BN k2.1 hq
 obtain⟨a1,a2,a3⟩:=Ry (Ec:=Ec) h L ps xs d vals 1 (1+jh ps) hg hv (fun i hi hm=>zM ha i hm hi) hsh aga (fun k q hq=>by
   show qI E (((bs.map some++ji E.O ps xs)[1+jh ps+k-1]?).getD none)=_
   rw[List.getElem?_append_right (by rw[List.length_map,f5];omega),List.length_map,f5,show 1+jh ps+k-1-jh ps=k by omega,hq];rfl) (fun k id hk=>by
   show qI E (((bs.map some++ji E.O ps xs)[1+k-1]?).getD none)=_
   have hlt:k<bs.length:=by
    rcases Nat.lt_or_ge k bs.length with y|y
    ·exact y
    ·rw[List.getElem?_eq_none y] at hk;cases hk
   rw[show 1+k-1=k by omega,List.getElem?_append_left (by rw[List.length_map];exact hlt),List.getElem?_map,hk];rfl)
 have X3:∀ i∈mo++bs,∀ b,(E.ρ i).b=some b->¬ E1.N b:=fun i hi b hb hN=>by
  have ho:=h.own i b (live i hi) hb
  rcases b1 b hN with hN|⟨i',ts,rows,wr,s1,s2,s3⟩
  ·exact ho.2.1 hN
  ·have:=h.inj i' i b ⟨_,s2,rfl⟩ (live i hi) s3 hb
   subst this
   rcases adh.1 hi with hm|hm
   ·rw[hmo i' hm] at s1;cases s1
   ·obtain⟨cs,hc⟩:=f4 i' hm
    rw[s2] at hc;cases hc
 have from_:∀ i a b,look Ec.O i=some a->(Ec.ρ i).b=some b->1<=i∧∃ id,(bs.map some++ji E.O ps xs)[i-1]? =some (some id)∧id∈mo++bs∧(E.ρ id).b=some b:=by
  intro i a b hi hb
  have hk:=k2.2 _ (qm hi)
  dsimp only at hk
  refine⟨by omega,?_⟩
  have hb:(qI E (((bs.map some++ji E.O ps xs)[i-1]?).getD none)).b=some b:=hb
  cases hx:(bs.map some++ji E.O ps xs)[i-1]? with
  |none=>rw[hx] at hb;cases hb
  |some q=>
   rw[hx] at hb
   cases q with
   |none=>cases hb
   |some id=>
    refine⟨id,rfl,?_,hb⟩
    have:id∈(bs.map some++ji E.O ps xs).filterMap _root_.id:=List.mem_filterMap.2 ⟨some id,List.mem_of_getElem? hx,rfl⟩
    rw[hall] at this
    exact (adh.1 this).elim (fun x=>adh.2 (.inr x)) fun x=>adh.2 (.inl x)
 refine⟨E1,Ec,w1,r1,ff1,ok1,st1,l1,X3,rfl,rfl,rfl,?_,a1⟩
 refine⟨by omega,fun i a hi=> ?_,fun i a hi=>a2 _ (qm hi),fun i j b hi hj hbi hbj=> ?_,fun i b hi hbi=> ?_,fun b hb=> ?_,fun b hb=>⟨hb.1,rfl,hb.2.1⟩,Nat.le_refl _,fun b hb=>hb,h.us,fun q hq=> ?_⟩
 ·have hk:=k2.2 _ (qm hi)
  dsimp only at hk
  exact⟨by omega,fun e=>by rw[e] at hk;unfold foreign at hk;omega⟩
 ·obtain⟨a,ha1,_⟩:=hi
  obtain⟨a',ha2,_⟩:=hj
  obtain⟨p1,id,p2,p3,p4⟩:=from_ i a b ha1 hbi
  obtain⟨q1,id',q2,q3,q4⟩:=from_ j a' b ha2 hbj
  have:=h.inj id id' b (live id p3) (live id' q3) p4 q4
  subst this
  have:=Og hnd p2 q2
  omega
 ·obtain⟨a,ha1,_⟩:=hi
  obtain⟨p1,id,p2,p3,p4⟩:=from_ i a b ha1 hbi
  have ho:=h.own id b (live id p3) p4
  exact⟨ho.1,X3 id p3 b p4,fun hG=>hG.2.2 id p3 p4,ho.2.2.2⟩
 ·have:=ok1.zx b hb
  rw[w1] at this
  exact⟨this.1,this.2.1,fun _=>hb⟩
 ·obtain⟨k,id,hk,q1,q2⟩:=Rz bs 1 q hq
  have hlt:k<bs.length:=by
   rcases Nat.lt_or_ge k bs.length with y|y
   ·exact y
   ·rw[List.getElem?_eq_none y] at hk;cases hk
  obtain⟨cs0,hcs0⟩:=f4 id (List.mem_of_getElem? hk)
  obtain⟨blk,_,_,_,hblk,_⟩:=h.obj id _ hcs0
  obtain⟨cs,hc⟩:=BO ps d 1 (1+jh ps) k (by rw[<- f5];exact hlt)
  unfold VR
  refine⟨cs,blk,by rw[q1];exact aga _ hc,?_,by rw[q2,hblk];rfl⟩
  show (qI E (((bs.map some++ji E.O ps xs)[q.1-1]?).getD none)).b=_
  rw[q1,show 1+k-1=k by omega,List.getElem?_append_left (by rw[List.length_map];exact hlt),List.getElem?_map,hk]
  exact hblk
end
end Go.E
end
section
namespace Go.E
section
variable {X:Ctx} {o:Ow} {E Es E2:Env} {aG:Nat}
structure Back (E Es E2:Env):Prop where
 w:E2.w=E.w
 ws:Es.w=E.w
 n:∀ b,E.N b->Es.N b
 n2:∀ b,Es.N b->E2.N b
def zN(E Es:Env)(sn:List Nat):Prop:=∀ i∈sn,i≠foreign∧∀ b ts rows wr,look E.O i=some (.arr ts rows wr)->(E.ρ i).b=some b->Es.N b∧Es.w.heap[b]? =E.w.heap[b]?
theorem UC{m:Md}{x:AV}{mo sn:List Nat}(hu:LH m x=some (mo,sn))(hs:zN E Es sn)(hm:m= .ro∨m= .leak):Shut E Es x:=by
 intro i hi
 refine hs i ?_
 cases x with
 |own id=>rcases hm with rfl|rfl<;>(cases hu;exact hi)
 |ro ts rows deps=>rcases hm with rfl|rfl<;>(cases hu;exact hi)
 | _=>cases hi
theorem MO(h:OK X o E aG)(L:Back E Es E2){ts:aC}{m:Md}{x:AV}{d:List ts.D}{v:Value}{n:Nat}{mo sn:List Nat}(hd:CT.jq E.O (.sl ts) x=some d)(hv:VR E x v)(hu:LH m x=some (mo,sn))(hs:zN E Es sn)
  (gW:∀ p∈(dI m (.sl ts) d n).2.1,look E2.O p.1=some p.2) (hρ:∀ q∈eu m (.sl ts) x,E2.ρ n=qI E q):
  VR E2 (dI m (.sl ts) d n).1 v∧∀ p∈(dI m (.sl ts) d n).2.1,fV E2 p.1 p.2:=by
 have hn:uX E.N E2.N E.w E2.w:=fun b hb=>⟨L.n2 b (L.n b hb),by rw[L.w]⟩
 have plain:(m= .ro∨m= .leak)->VR E2 (.ro ts d []) v:=fun hm=>by
  have h1:=zC (E':=Es) h (fun b hb=>⟨L.n b hb,by rw[L.ws]⟩) (.sl ts) x d v hd hv (UC hu hs hm)
  have h2:=CT.jI (w':=E2.w) (N':=E2.N) (fun b hb=>⟨L.n2 b hb,by rw[L.w,L.ws]⟩) (.sl ts) d v h1
  exact Wh (E:=E2) (.sl ts) d v h2
 cases m with
 |ro=>exact⟨plain (.inl rfl),fun p hp=>by cases hp⟩
 |leak=>exact⟨plain (.inr rfl),fun p hp=>by cases hp⟩
 |mv=>
  have hlook:look E2.O n=some (.arr ts d true):=gW (n,.arr ts d true) aee
  show VR E2 (.own n) v∧_
  rcases oC hd with ⟨rfl,rfl⟩|⟨deps,rfl⟩|⟨id,wr,rfl,hl⟩
  ·have hp:E2.ρ n=⟨none,0⟩:=hρ none aee
   unfold VR at hv;subst hv
   refine⟨?_,fun p hpm=> ?_⟩
   ·unfold VR;exact⟨ts,[],true,hlook,by rw[hp];rfl⟩
   ·obtain rfl:p=(n,.arr ts [] true):=by simpa [dI] using hpm
    unfold fV;rw[hp];exact⟨rfl,rfl⟩
  ·cases hu
  ·have hp:E2.ρ n=E.ρ id:=hρ (some id) aee
   unfold VR at hv
   obtain⟨ts',rows',wr',g1,g2⟩:=hv
   rw[hl] at g1;cases g1
   refine⟨?_,fun p hpm=> ?_⟩
   ·unfold VR;exact⟨ts,d,true,hlook,by rw[hp];exact g2⟩
   ·obtain rfl:p=(n,.arr ts d true):=by simpa [dI] using hpm
    have ho:=h.obj id _ hl
    unfold fV at ho⊢
    rw[hp]
    cases hb:(E.ρ id).b with
    |none=>rw[hb] at ho;exact ho
    |some b=>
     rw[hb] at ho
     obtain⟨c,t,f,k1,k2,k3,k4,k5⟩:=ho
     exact⟨c,t,f,by rw[L.w];exact k1,k2,k3,k4,fJ (fun d l=>aC.jI hn ts d l) _ _ k5⟩
theorem MP{O:bn}{ts:aC}{m:Md}{x:AV}{d:List ts.D}{mo sn:List Nat}(hd:CT.jq O (.sl ts) x=some d)(hu:LH m x=some (mo,sn)):mo=(eu m (.sl ts) x).filterMap id:=by
 cases m<;>(rcases oC hd with ⟨rfl,rfl⟩|⟨deps,rfl⟩|⟨id,wr,rfl,hl⟩<;>(cases hu;try rfl))
theorem MQ(m:Md)(t:CT)(d:t.D)(x:AV)(n:Nat):(dI m t d n).2.2=n+(eu m t x).length:=by
 cases t<;>cases m<;>first|rfl|(cases x<;>rfl)
theorem Jw{ms:List Md}{t:CT}{d:t.D}{n:Nat}(ht:jH t=false):putCells (.one t) ms d n=([t.av d],[],n):=by
 cases t<;>first|rfl|cases ht
theorem sZ(h:OK X o E aG)(L:Back E Es E2):∀ (ts:aC) (ms:List Md) (xs:List AV) (d:ts.D) (l:List Value) (n:Nat) {mo sn:List Nat},ts.iL E.O xs=some d->dG E xs l->oq ts.list ms xs=some (mo,sn)->zN E Es sn->
  (∀ p∈(putCells ts ms d n).2.1,look E2.O p.1=some p.2)->(∀ k q,(bH ts.list ms xs)[k]? =some q->E2.ρ (n+k)=qI E q)->
  dG E2 (putCells ts ms d n).1 l∧(∀ p∈(putCells ts ms d n).2.1,fV E2 p.1 p.2)∧(putCells ts ms d n).2.2=n+(bH ts.list ms xs).length∧mo=(bH ts.list ms xs).filterMap id
 | .one t,ms,xs,d,l,n,mo,sn,hd,hv,hu,hsh,gW,hρ=>by
  match xs,hd,hv,hu,hρ with
  |[x],hd,hv,hu,hρ=>
   have hd:t.jq E.O x=some d:=hd
   unfold dG at hv
   obtain⟨v,q,rfl,h1,h2⟩:=hv
   unfold dG at h2;subst h2
   cases ht:jH t with
   |false=>
    have e:=Jw (ms:=ms) (d:=d) (n:=n) ht
    have e2:bH [t] ms [x]=[]:=by show (bif jH t then _ else _)=_;rw[ht];rfl
    have hu:(bif jH t then _ else some ([],[]))=some (mo,sn):=hu
    rw[ht] at hu
    cases hu
    rw[e]
    refine⟨?_,fun p hp=>(by cases hp),?_,?_⟩
    ·unfold dG;exact⟨v,[],rfl,H7 ht hd h1,by unfold dG;rfl⟩
    ·show n=n+(bH [t] ms [x]).length;rw[e2,List.length_nil,Nat.add_zero]
    ·show _=(bH [t] ms [x]).filterMap id;rw[e2];rfl
   |true=>
    cases t with
    |sl ts=>
     cases ms with
     |nil=>cases hu
     |cons m ms=>
      have hu:(match LH m x,(some ([],[]):Option (List Nat×List Nat)) with|some (a,b),some (a',b')=>some (a++a',b++b')| _,_=>none)=some (mo,sn):=hu
      split at hu
      ·rename_i a b a' b' Uy e
       cases e
       cases hu
       simp only[List.append_nil] at*
       have:=MO h L (n:=n) hd h1 Uy hsh gW fun q hq=>by
        obtain⟨k,hk⟩:=List.getElem?_of_mem hq
        have hk0:k=0:=by
         have:(eu m (.sl ts) x).length<=1:=by cases m<;>first|exact Nat.zero_le _|(cases x<;>exact Nat.le_refl _)
         have hlt:k<(eu m (.sl ts) x).length:=by
          rcases Nat.lt_or_ge k (eu m (.sl ts) x).length with y|y
          ·exact y
          ·rw[List.getElem?_eq_none y] at hk;cases hk
         omega
        subst hk0
        exact hρ 0 q (by show (eu m (.sl ts) x++[])[0]? =some q;rw[List.append_nil];exact hk)
       refine⟨?_,this.2,?_,?_⟩
       ·show dG E2 [(dI m (.sl ts) d n).1] [v]
        unfold dG;exact⟨v,[],rfl,this.1,by unfold dG;rfl⟩
       ·show (dI m (.sl ts) d n).2.2=n+(eu m (.sl ts) x++[]).length
        rw[List.append_nil];exact MQ m (.sl ts) d x n
       ·show _=(eu m (.sl ts) x++[]).filterMap id
        rw[List.append_nil];exact MP hd Uy
      ·cases hu
    | _=>cases ht
  |[],hd,_,_,_=>cases hd
  |x::y::r,hd,_,_,_=>cases hd
 | .cons t ts,ms,xs,d,l,n,mo,sn,hd,hv,hu,hsh,gW,hρ=>by
  match xs,hd,hv,hu,hρ with
  |[],hd,_,_,_=>cases hd
  |x::xs,hd,hv,hu,hρ=>
   unfold dG at hv
   obtain⟨v,q,rfl,h1,h2⟩:=hv
   have hd:(match t.jq E.O x,ts.iL E.O xs with|some d,some e=>some (d,e)| _,_=>none)=some d:=hd
   split at hd
   case h_2=>cases hd
   rename_i d1 d2 g1 g2
   cases hd
   cases ht:jH t with
   |false=>
    have e:putCells (.cons t ts) ms (d1,d2) n=(t.av d1::(putCells ts ms d2 n).1,(putCells ts ms d2 n).2.1,(putCells ts ms d2 n).2.2):=by
     show (bif jH t then _ else _)=_
     rw[ht];rfl
    have e2:bH (t::ts.list) ms (x::xs)=bH ts.list ms xs:=by show (bif jH t then _ else _)=_;rw[ht];rfl
    have hu:(bif jH t then _ else oq ts.list ms xs)=some (mo,sn):=hu
    rw[ht] at hu
    rw[e] at gW⊢
    have:=sZ h L ts ms xs d2 q n g2 h2 hu hsh gW (fun k q' hq=>hρ k q' (by show (bH (t::ts.list) ms (x::xs))[k]? =_;rw[e2];exact hq))
    refine⟨?_,this.2.1,?_,?_⟩
    ·unfold dG;exact⟨v,q,rfl,H7 ht g1 h1,this.1⟩
    ·show _=n+(bH (t::ts.list) ms (x::xs)).length;rw[e2];exact this.2.2.1
    ·show _=(bH (t::ts.list) ms (x::xs)).filterMap id;rw[e2];exact this.2.2.2
   |true=>
    cases t with
    |sl vV=>
     cases ms with
     |nil=>cases hu
     |cons m ms=>
      have hu:(match LH m x,oq ts.list ms xs with|some (a,b),some (a',b')=>some (a++a',b++b')| _,_=>none)=some (mo,sn):=hu
      split at hu
      case h_2=>cases hu
      rename_i a b a' b' Uy hub
      cases hu
      have e:putCells (.cons (.sl vV) ts) (m::ms) (d1,d2) n=((dI m (.sl vV) d1 n).1::(putCells ts ms d2 (dI m (.sl vV) d1 n).2.2).1,(putCells ts ms d2 (dI m (.sl vV) d1 n).2.2).2.1++(dI m (.sl vV) d1 n).2.1,(putCells ts ms d2 (dI m (.sl vV) d1 n).2.2).2.2):=rfl
      have hn:=MQ m (.sl vV) d1 x n
      rw[e] at gW⊢
      have k1:=MO h L (n:=n) g1 h1 Uy (fun i hi=>hsh i (adh.2 (.inl hi))) (fun p hp=>gW p (adh.2 (.inr hp))) fun q' hq=>by
       obtain⟨k,hk⟩:=List.getElem?_of_mem hq
       have hlt:k<(eu m (.sl vV) x).length:=by
        rcases Nat.lt_or_ge k (eu m (.sl vV) x).length with y|y
        ·exact y
        ·rw[List.getElem?_eq_none y] at hk;cases hk
       have hk0:k=0:=by
        have:(eu m (.sl vV) x).length<=1:=by cases m<;>first|exact Nat.zero_le _|(cases x<;>exact Nat.le_refl _)
        omega
       subst hk0
       exact hρ 0 q' (by show (eu m (.sl vV) x++bH ts.list ms xs)[0]? =_;rw[List.getElem?_append_left hlt];exact hk)
      have k2:=sZ h L ts ms xs d2 q (dI m (.sl vV) d1 n).2.2 g2 h2 hub (fun i hi=>hsh i (adh.2 (.inr hi))) (fun p hp=>gW p (adh.2 (.inl hp))) fun k q' hq=>by
       rw[hn,Nat.add_assoc]
       refine hρ _ q' ?_
       show (eu m (.sl vV) x++bH ts.list ms xs)[_]? =_
       rw[List.getElem?_append_right (by omega),Nat.add_sub_cancel_left];exact hq
      refine⟨?_,fun p hp=>(adh.1 hp).elim (k2.2.1 p) (k1.2 p),?_,?_⟩
      ·unfold dG;exact⟨v,q,rfl,k1.1,k2.1⟩
      ·show _=n+(eu m (.sl vV) x++bH ts.list ms xs).length
       rw[List.length_append, <- Nat.add_assoc, <- hn];exact k2.2.2.1
      ·show _=(eu m (.sl vV) x++bH ts.list ms xs).filterMap id
       rw[List.filterMap_append, <- MP g1 Uy, <- k2.2.2.2]
    | _=>cases ht
theorem wL(m:Md)(t:CT)(d:t.D)(n:Nat):n<=(dI m t d n).2.2∧Keys (dI m t d n).2.1 fun i=>n<=i∧i<(dI m t d n).2.2:=by
 cases t with
 |sl ts=>
  cases m with
  |mv=>exact⟨Nat.le_succ n,Keys.one ⟨Nat.le_refl _,Nat.lt_succ_self n⟩⟩
  |ro=>exact⟨Nat.le_refl n,Keys.nil⟩
  |leak=>exact⟨Nat.le_refl n,Keys.nil⟩
 | _=>cases m<;>exact⟨Nat.le_refl n,Keys.nil⟩
theorem Gf{t:CT}{ts:aC}{ms:List Md}(ht:jH t=true):∃ m ms',∀ (d:(aC.cons t ts).D) (n:Nat),putCells (.cons t ts) ms d n=
  ((dI m t d.1 n).1::(putCells ts ms' d.2 (dI m t d.1 n).2.2).1,(putCells ts ms' d.2 (dI m t d.1 n).2.2).2.1++(dI m t d.1 n).2.1,(putCells ts ms' d.2 (dI m t d.1 n).2.2).2.2):=by
 cases ms with
 |nil=>exact⟨.ro,[],fun d n=>by show (bif jH t then _ else _)=_;rw[ht];rfl⟩
 |cons m ms'=>exact⟨m,ms',fun d n=>by show (bif jH t then _ else _)=_;rw[ht];rfl⟩
theorem fA:∀ (ts:aC) (ms:List Md) (d:ts.D) (n:Nat),n<=(putCells ts ms d n).2.2∧Keys (putCells ts ms d n).2.1 fun i=>n<=i∧i<(putCells ts ms d n).2.2
 | .one t,ms,d,n=>wL _ t d n
 | .cons t ts,ms,d,n=>by
  cases ht:jH t with
  |false=>
   have e:putCells (.cons t ts) ms d n=(t.av d.1::(putCells ts ms d.2 n).1,(putCells ts ms d.2 n).2.1,(putCells ts ms d.2 n).2.2):=by
    show (bif jH t then _ else _)=_
    rw[ht];rfl
   rw[e]
   exact fA ts ms d.2 n
  |true=>
   obtain⟨m,ms',e⟩:=Gf (ts:=ts) (ms:=ms) ht
   rw[e]
   obtain⟨a1,a2⟩:=wL m t d.1 n
   obtain⟨b1,b2⟩:=fA ts ms' d.2 (dI m t d.1 n).2.2
   refine⟨Nat.le_trans a1 b1,(b2.app a2 fun i hi hi'=> ?_).mono fun i hi=> ?_⟩
   ·omega
   ·dsimp only at hi ⊢;omega
end
end Go.E
end
section
namespace Go.E
section
variable {X:Ctx} {o:Ow} {E Es E2:Env} {aG:Nat}
theorem BP{t:CT}{ms:List Md}{d:t.D}{b:List Nat}{n:Nat}:eU b ⟨.one t,ms⟩ d n=putCells (.one t) ms d n:=by
 cases ms<;>rfl
theorem RG(h:OK X o E aG)(L:Back E Es E2){p:PT}{x:AV}{d:p.sh.D}{v:Value}{boxes:List Nat}{n:Nat}{mo sn:List Nat}(hg:vZ E.O p x=some (d,mo,sn))(hv:VR E x v)(hsh:zN E Es sn)
  (gW:∀ q∈(eU boxes p d n).2.1,look E2.O q.1=some q.2) (hρ:∀ k q,(jF E.O p x)[k]? =some q->E2.ρ (n+k)=qI E q) (hb:fQ p=true->∃ b bs id,boxes=b::bs∧x= .ptr id 0∧(E2.ρ b).b=(E.ρ id).b):
  dG E2 (eU boxes p d n).1 (bif fQ p then [] else [v])∧(∀ q∈(eU boxes p d n).2.1,fV E2 q.1 q.2)∧(eU boxes p d n).2.2=n+(jF E.O p x).length∧mo=(jF E.O p x).filterMap id:=by
 match p,d,hg,gW,hρ,hb with
 |⟨.one t,ms⟩,d,hg,gW,hρ,_=>
  have hg:(match t.jq E.O x,oq [t] ms [x] with|some d,some (a,b)=>some (d,a,b)| _,_=>none)=some (d,mo,sn):=hg
  split at hg
  ·rename_i d' a b h1 h2
   cases hg
   have e:eU boxes ⟨.one t,ms⟩ d n=putCells (.one t) ms d n:=BP
   rw[e] at gW⊢
   obtain⟨k1,k2,k3,k4⟩:=sZ h L (.one t) ms [x] d [v] n h1 (by unfold dG;exact⟨v,[],rfl,hv,by unfold dG;rfl⟩) h2 hsh gW hρ
   exact⟨k1,k2,k3,k4⟩
  ·cases hg
 |⟨.agg ts,ms⟩,d,hg,gW,hρ,_=>
  cases x with
  |agg cs=>
   have hg:(match ts.iL E.O cs,oq ts.list ms cs with|some d,some (a,b)=>some (d,a,b)| _,_=>none)=some (d,mo,sn):=hg
   split at hg
   ·rename_i d' a b h1 h2
    cases hg
    unfold VR at hv
    obtain⟨l,rfl,hv⟩:=hv
    obtain⟨k1,k2,k3,k4⟩:=sZ h L ts ms cs d l n h1 hv h2 hsh gW hρ
    refine⟨?_,k2,k3,k4⟩
    show dG E2 [.agg (putCells ts ms d n).1] [_]
    unfold dG
    refine⟨_,[],rfl,?_,by unfold dG;rfl⟩
    unfold VR;exact⟨l,rfl,k1⟩
   ·cases hg
  | _=>cases hg
 |⟨.rP,ms⟩,d,hg,gW,hρ,_=>
  cases x with
  |agg cs=>
   cases cs with
   |nil=>
    cases hg
    refine⟨?_,fun q hq=>(by cases hq),rfl,rfl⟩
    show dG E2 [.agg []] [v]
    unfold dG
    refine⟨v,[],rfl,?_,by unfold dG;rfl⟩
    unfold VR at hv⊢
    obtain⟨l,rfl,hv⟩:=hv
    refine⟨l,rfl,?_⟩
    unfold dG at hv ⊢;exact hv
   |cons _ _=>cases hg
  | _=>cases hg
 |⟨.st ts,ms⟩,d,hg,gW,hρ,hb=>
  obtain⟨b,bs,id,rfl,rfl,hbb⟩:=hb rfl
  have hg:(match look E.O id with
   |some (.box cs)=>match ts.iL E.O cs,oq ts.list ms cs with
    |some d,some (a,b)=>some (d,a,b)
    | _,_=>none
   | _=>none)=some (d,mo,sn):=hg
  split at hg
  ·rename_i cs hl
   split at hg
   ·rename_i d' a b' h1 h2
    cases hg
    unfold VR at hv
    obtain⟨cs',blk,e1,e2,e3⟩:=hv
    rw[hl] at e1;cases e1
    obtain⟨blk',c',t',f',q1,q2,q3,q4⟩:=h.obj id _ hl
    rw[e2] at q1;cases q1
    have hs:jF E.O ⟨.st ts,ms⟩ (.ptr id 0)=bH ts.list ms cs:=by
     show (match look E.O id with|some (.box cs)=>bH ts.list ms cs| _=>[])=_
     rw[hl]
    rw[hs] at hρ⊢
    obtain⟨k1,k2,k3,k4⟩:=sZ h L ts ms cs d c'.toList n h1 q4 h2 hsh (fun q hq=>gW q (aef _ hq)) hρ
    refine⟨?_,fun q hq=> ?_,k3,k4⟩
    ·show dG E2 [] []
     unfold dG;rfl
    ·have hq:q∈(b,AO.box (putCells ts ms d n).1)::(putCells ts ms d n).2.1:=hq
     rcases List.mem_cons.1 hq with e|hq
     ·subst e
      exact⟨blk,c',t',f',by rw[hbb];exact e2,by rw[L.w];exact q2,q3,k1⟩
     ·exact k2 q hq
   ·cases hg
  ·cases hg
def Dv:List PT->List Value->List Value
 |p::ps,v::vs=>bif fQ p then Dv ps vs else v::Dv ps vs
 | _,_=>[]
def ajp:AV->List Nat
 | .ptr id _=>[id]
 | _=>[]
def nR:List PT->List AV->List Nat
 |p::ps,x::xs=>bif fQ p then ajp x++nR ps xs else nR ps xs
 | _,_=>[]
theorem EJ{O:bn}{p:PT}{x:AV}{d:p.sh.D}{mo sn:List Nat}(hg:vZ O p x=some (d,mo,sn))(hp:fQ p=true):∃ id,x= .ptr id 0:=by
 match p,d,hp,hg with
 |⟨.st ts,ms⟩,d,_,hg=>
  cases x with
  |ptr id off=>
   cases off with
   |zero=>exact⟨id,rfl⟩
   |succ _=>cases hg
  | _=>cases hg
theorem RH(h:OK X o E aG)(L:Back E Es E2):∀ (ps:List PT) (xs:List AV) (d:He ps) (l:List Value) (boxes:List Nat) (n:Nat) {mo sn:List Nat},uG E.O ps xs=some (d,mo,sn)->dG E xs l->zN E Es sn->
  (∀ q∈(cO boxes ps d n).2.1,look E2.O q.1=some q.2)->(∀ k q,(ji E.O ps xs)[k]? =some q->E2.ρ (n+k)=qI E q)->(nR ps xs).length<=boxes.length->(∀ (k id b:Nat),(nR ps xs)[k]? =some id->boxes[k]? =some b->(E2.ρ b).b=(E.ρ id).b)->
  dG E2 (cO boxes ps d n).1 (Dv ps l)∧(∀ q∈(cO boxes ps d n).2.1,fV E2 q.1 q.2)∧(cO boxes ps d n).2.2=n+(ji E.O ps xs).length∧mo=(ji E.O ps xs).filterMap id
 |[],[],d,l,boxes,n,mo,sn,hg,hv,hsh,gW,hρ,hl,hb=>by
  cases hg
  refine⟨?_,fun q hq=>(by cases hq),rfl,rfl⟩
  show dG E2 [] []
  unfold dG;rfl
 |[p],[x],d,l,boxes,n,mo,sn,hg,hv,hsh,gW,hρ,hl,hb=>by
  unfold dG at hv
  obtain⟨v,q,rfl,h1,h2⟩:=hv
  unfold dG at h2;subst h2
  have hg:vZ E.O p x=some (d,mo,sn):=hg
  obtain⟨k1,k2,k3,k4⟩:=RG (p:=p) (d:=d) (boxes:=boxes) (n:=n) h L hg h1 hsh gW (fun k q hq=>hρ k q (by show (jF E.O p x++[])[k]? =_;rw[List.append_nil];exact hq)) fun hp=>by
   obtain⟨id,rfl⟩:=EJ hg hp
   have hx:nR [p] [.ptr id 0]=[id]:=by show (bif fQ p then [id]++[] else [])=_;rw[hp];rfl
   rw[hx] at hl hb
   cases boxes with
   |nil=>simp at hl
   |cons b bs=>exact⟨b,bs,id,rfl,rfl,hb 0 id b rfl rfl⟩
  refine⟨?_,k2,?_,?_⟩
  ·show dG E2 (eU boxes p d n).1 (bif fQ p then [] else [v])
   exact k1
  ·show (eU boxes p d n).2.2=n+(jF E.O p x++[]).length
   rw[List.append_nil];exact k3
  ·show _=(jF E.O p x++[]).filterMap _
   rw[List.append_nil];exact k4
 |p::q::r,x::y::xs,d,l,boxes,n,mo,sn,hg,hv,hsh,gW,hρ,hl,hb=>by
  have hg:(match vZ E.O p x,uG E.O (q::r) (y::xs) with
   |some (d,a,b),some (d',a',b')=>some ((d,d'),a++a',b++b')
   | _,_=>none)=some (d,mo,sn):=hg
  split at hg
  ·rename_i d1 a c d2 a' c' h1 h2
   cases hg
   unfold dG at hv
   obtain⟨v,vr,rfl,v1,v2⟩:=hv
   have hx:cO boxes (p::q::r) (d1,d2) n=((eU boxes p d1 n).1++(cO (bif fQ p then mM boxes else boxes) (q::r) d2 (eU boxes p d1 n).2.2).1,
    (cO (bif fQ p then mM boxes else boxes) (q::r) d2 (eU boxes p d1 n).2.2).2.1++(eU boxes p d1 n).2.1,(cO (bif fQ p then mM boxes else boxes) (q::r) d2 (eU boxes p d1 n).2.2).2.2):=rfl
   rw[hx] at gW⊢
   have hs:ji E.O (p::q::r) (x::y::xs)=jF E.O p x++ji E.O (q::r) (y::xs):=rfl
   rw[hs] at hρ⊢
   have hst:nR (p::q::r) (x::y::xs)=bif fQ p then ajp x++nR (q::r) (y::xs) else nR (q::r) (y::xs):=rfl
   obtain⟨k1,k2,k3,k4⟩:=RG (boxes:=boxes) (n:=n) h L h1 v1 (fun i hi=>hsh i (adh.2 (.inl hi))) (fun q hq=>gW q (adh.2 (.inr hq))) (fun k q' hq=>hρ k q' (by
     rw[List.getElem?_append_left]
     ·exact hq
     ·rcases Nat.lt_or_ge k (jF E.O p x).length with y|y
      ·exact y
      ·rw[List.getElem?_eq_none y] at hq;cases hq)) fun hp=>by
    obtain⟨id,rfl⟩:=EJ h1 hp
    rw[hp] at hst
    have hst:nR (p::q::r) (.ptr id 0::y::xs)=id::nR (q::r) (y::xs):=hst
    rw[hst] at hl hb
    cases boxes with
    |nil=>simp at hl
    |cons b bs=>exact⟨b,bs,id,rfl,rfl,hb 0 id b rfl rfl⟩
   have rest:(nR (q::r) (y::xs)).length<=(bif fQ p then mM boxes else boxes).length∧∀ (k id b:Nat),(nR (q::r) (y::xs))[k]? =some id->(bif fQ p then mM boxes else boxes)[k]? =some b->(E2.ρ b).b=(E.ρ id).b:=by
    cases hp:fQ p with
    |false=>
     rw[hp] at hst
     have hst:nR (p::q::r) (x::y::xs)=nR (q::r) (y::xs):=hst
     rw[hst] at hl hb
     exact⟨hl,hb⟩
    |true=>
     obtain⟨id,rfl⟩:=EJ h1 hp
     rw[hp] at hst
     have hst:nR (p::q::r) (.ptr id 0::y::xs)=id::nR (q::r) (y::xs):=hst
     rw[hst] at hl hb
     cases boxes with
     |nil=>simp at hl
     |cons b bs=>
      refine⟨?_,fun k id' b' hk hk'=> ?_⟩
      ·show _<=bs.length
       simpa using hl
      ·exact hb (k+1) id' b' (by simpa using hk) (by have hk':bs[k]? =some b':=hk';simpa using hk')
   obtain⟨g1,g2,g3,g4⟩:=RH h L (q::r) (y::xs) d2 vr (bif fQ p then mM boxes else boxes) (eU boxes p d1 n).2.2 h2 v2 (fun i hi=>hsh i (adh.2 (.inr hi))) (fun q hq=>gW q (adh.2 (.inl hq))) (fun k q' hq=>by
     rw[k3,Nat.add_assoc]
     refine hρ _ q' ?_
     rw[List.getElem?_append_right (by omega),Nat.add_sub_cancel_left];exact hq) rest.1 rest.2
   refine⟨?_,fun q hq=>(adh.1 hq).elim (g2 q) (k2 q),?_,?_⟩
   ·have:=pI k1 g1
    show dG E2 _ (bif fQ p then Dv (q::r) vr else v::Dv (q::r) vr)
    cases hp:fQ p<;>rw[hp] at this<;>exact this
   ·show (cO _ (q::r) d2 (eU boxes p d1 n).2.2).2.2=n+_
    rw[List.length_append, <- Nat.add_assoc, <- k3];exact g3
   ·rw[List.filterMap_append, <- k4, <- g4]
  ·cases hg
 |[],_::_,d,l,boxes,n,mo,sn,hg,_,_,_,_,_,_=>by cases hg
 |[_],[],d,l,boxes,n,mo,sn,hg,_,_,_,_,_,_=>by cases hg
 |[_],_::_::_,d,l,boxes,n,mo,sn,hg,_,_,_,_,_,_=>by cases hg
 | _::_::_,[],d,l,boxes,n,mo,sn,hg,_,_,_,_,_,_=>by cases hg
 | _::_::_,[_],d,l,boxes,n,mo,sn,hg,_,_,_,_,_,_=>by cases hg
end
end Go.E
end
section
namespace Go.E
section
variable {X:Ctx} {o:Ow} {E Es E2:Env} {aG:Nat}
theorem oJ{O:bn}:∀ (ts:aC) (ms:List Md) (xs:List AV) (d:ts.D) (i:Nat),ts.iL O xs=some d->some i∈bH ts.list ms xs->∃ ts rows wr,look O i=some (.arr ts rows wr)
 | .one t,ms,xs,d,i,hd,hi=>by
  match xs,hd,hi with
  |[x],hd,hi=>
   have hd:t.jq O x=some d:=hd
   cases t with
   |sl ts=>
    cases ms with
    |nil=>cases hi
    |cons m ms=>
     have hi:some i∈eu m (.sl ts) x++[]:=hi
     rw[List.append_nil] at hi
     cases m with
     |mv=>
      rcases oC hd with ⟨rfl,rfl⟩|⟨deps,rfl⟩|⟨id,wr,rfl,hl⟩
      ·have hi:some i∈[none]:=hi
       simp at hi
      ·have hi:some i∈[none]:=hi
       simp at hi
      ·have hi:some i∈[some id]:=hi
       simp at hi;subst hi;exact⟨_,_,_,hl⟩
     | _=>cases hi
   | _=>cases hi
  |[],hd,_=>cases hd
  |x::y::r,hd,_=>cases hd
 | .cons t ts,ms,xs,d,i,hd,hi=>by
  match xs,hd,hi with
  |[],hd,_=>cases hd
  |x::xs,hd,hi=>
   have hd:(match t.jq O x,ts.iL O xs with|some d,some e=>some (d,e)| _,_=>none)=some d:=hd
   split at hd
   case h_2=>cases hd
   rename_i d1 d2 g1 g2
   cases hd
   cases t with
   |sl vV=>
    cases ms with
    |nil=>cases hi
    |cons m ms=>
     have hi:some i∈eu m (.sl vV) x++bH ts.list ms xs:=hi
     rcases adh.1 hi with hi|hi
     ·cases m with
      |mv=>
       rcases oC g1 with ⟨rfl,rfl⟩|⟨deps,rfl⟩|⟨id,wr,rfl,hl⟩
       ·have hi:some i∈[none]:=hi
        simp at hi
       ·have hi:some i∈[none]:=hi
        simp at hi
       ·have hi:some i∈[some id]:=hi
        simp at hi;subst hi;exact⟨_,_,_,hl⟩
      | _=>cases hi
     ·exact oJ ts ms xs d2 i g2 hi
   | _=>exact oJ ts ms xs d2 i g2 hi
theorem Jy{O:bn}{p:PT}{x:AV}{d:p.sh.D}{mo sn:List Nat}(hg:vZ O p x=some (d,mo,sn))(i:Nat)(hi:some i∈jF O p x):∃ ts rows wr,look O i=some (.arr ts rows wr):=by
 match p,d,hg,hi with
 |⟨.one t,ms⟩,d,hg,hi=>
  have hg:(match t.jq O x,oq [t] ms [x] with|some d,some (a,b)=>some (d,a,b)| _,_=>none)=some (d,mo,sn):=hg
  split at hg
  ·rename_i d' a b h1 h2
   exact oJ (.one t) ms [x] d' i h1 hi
  ·cases hg
 |⟨.agg ts,ms⟩,d,hg,hi=>
  cases x with
  |agg cs=>
   have hg:(match ts.iL O cs,oq ts.list ms cs with|some d,some (a,b)=>some (d,a,b)| _,_=>none)=some (d,mo,sn):=hg
   split at hg
   ·rename_i d' a b h1 h2
    exact oJ ts ms cs d' i h1 hi
   ·cases hg
  | _=>cases hg
 |⟨.rP,ms⟩,d,hg,hi=>cases x<;>cases hi
 |⟨.st ts,ms⟩,d,hg,hi=>
  cases x with
  |ptr id off=>
   have hi:some i∈(match look O id with|some (.box cs)=>bH ts.list ms cs| _=>[]):=hi
   split at hi
   ·rename_i cs hl
    have hi':=hi
    cases off with
    |succ _=>cases hg
    |zero=>
     have hg:(match look O id with
      |some (.box cs)=>match ts.iL O cs,oq ts.list ms cs with
       |some d,some (a,b)=>some (d,a,b)
       | _,_=>none
      | _=>none)=some (d,mo,sn):=hg
     rw[hl] at hg
     dsimp only at hg
     split at hg
     ·rename_i d' a b h1 h2
      exact oJ ts ms cs d' i h1 (by simpa using hi')
     ·cases hg
   ·cases hi
  | _=>cases hg
theorem Jz{O:bn}:∀ (ps:List PT) (xs:List AV) (d:He ps) {mo sn:List Nat},uG O ps xs=some (d,mo,sn)->∀ i,some i∈ji O ps xs->∃ ts rows wr,look O i=some (.arr ts rows wr)
 |[],[],d,mo,sn,hg,i,hi=>by cases hi
 |[p],[x],d,mo,sn,hg,i,hi=>by
  have hi:some i∈jF O p x++[]:=hi
  rw[List.append_nil] at hi
  exact Jy (p:=p) (d:=d) hg i hi
 |p::q::r,x::y::xs,d,mo,sn,hg,i,hi=>by
  have hg:(match vZ O p x,uG O (q::r) (y::xs) with
   |some (d,a,b),some (d',a',b')=>some ((d,d'),a++a',b++b')
   | _,_=>none)=some (d,mo,sn):=hg
  split at hg
  ·rename_i d1 a c d2 a' c' h1 h2
   have hi:some i∈jF O p x++ji O (q::r) (y::xs):=hi
   rcases adh.1 hi with hi|hi
   ·exact Jy h1 i hi
   ·exact Jz (q::r) (y::xs) d2 h2 i hi
  ·cases hg
 |[],_::_,d,mo,sn,hg,_,_=>by cases hg
 |[_],[],d,mo,sn,hg,_,_=>by cases hg
 |[_],_::_::_,d,mo,sn,hg,_,_=>by cases hg
 | _::_::_,[],d,mo,sn,hg,_,_=>by cases hg
 | _::_::_,[_],d,mo,sn,hg,_,_=>by cases hg
theorem JA{O:bn}:∀ (ps:List PT) (xs:List AV) (d:He ps) {mo sn:List Nat},uG O ps xs=some (d,mo,sn)->ps.length=xs.length
 |[],[],d,mo,sn,hg=>rfl
 |[p],[x],d,mo,sn,hg=>rfl
 |p::q::r,x::y::xs,d,mo,sn,hg=>by
  have hg:(match vZ O p x,uG O (q::r) (y::xs) with
   |some (d,a,b),some (d',a',b')=>some ((d,d'),a++a',b++b')
   | _,_=>none)=some (d,mo,sn):=hg
  split at hg
  ·rename_i d1 a c d2 a' c' h1 h2
   rw[List.length_cons,List.length_cons (a:=x),JA (q::r) (y::xs) d2 h2]
  ·cases hg
 |[],_::_,d,mo,sn,hg=>by cases hg
 |[_],[],d,mo,sn,hg=>by cases hg
 |[_],_::_::_,d,mo,sn,hg=>by cases hg
 | _::_::_,[],d,mo,sn,hg=>by cases hg
 | _::_::_,[_],d,mo,sn,hg=>by cases hg
theorem Gg{O:bn}:∀ {l:List Nat},Ei O l=true->∃ es,kY O l=some es
 |[],_=>⟨[],rfl⟩
 |i::r,h=>by
  unfold Ei at h
  rw[Bool.and_eq_true] at h
  obtain⟨es,he⟩:=Gg h.2
  unfold kY
  split at h
  ·rename_i ts rows wr hl
   rw[hl,he];exact⟨_,rfl⟩
  ·cases h.1
theorem JB:∀ {xs:List AV} {l:List Nat},zu xs l=true->xs=l.map fun i=>AV.ptr i 0
 |[],[],_=>rfl
 | .ptr i 0::r,j::l,h=>by
  have h:(Nat.beq i j&&zu r l)=true:=h
  rw[Bool.and_eq_true] at h
  rw[aeh h.1,JB h.2];rfl
 |[],_::_,h=>by cases h
 |x::_,[],h=>by
  cases x with
  |ptr i off=>cases off<;>cases h
  | _=>cases h
 | .ptr i (_+1)::r,_::_,h=>by cases h
 | .int .. ::_,_::_,h| .bool _::_,_::_,h| .str _::_,_::_,h| .aT::_,_::_,h| .ro .. ::_,_::_,h| .own _::_,_::_,h| .kF::_,_::_,h| .gX .. ::_,_::_,h| .iE .. ::_,_::_,h
 | .jo::_,_::_,h| .func .. ::_,_::_,h| .nZ::_,_::_,h| .iface .. ::_,_::_,h| .agg _::_,_::_,h| .AY _::_,_::_,h| .undef::_,_::_,h| .dead::_,_::_,h| .mp _::_,_::_,h| .raw _::_,_::_,h| .sub .. ::_,_::_,h=>by cases h
theorem JC:∀ {ps:List PT} {l:List Nat},pF ps 0=true->ps.length=l.length->nR ps (l.map fun i=>AV.ptr i 0)=l∧∀ v:List Value,Dv ps v=[]
 |[],[],_,_=>⟨rfl,fun v=>rfl⟩
 |p::r,i::l,h,hl=>by
  have h:(fQ p&&pF r 0)=true:=h
  rw[Bool.and_eq_true] at h
  obtain⟨k1,k2⟩:=JC (l:=l) h.2 (by simpa using hl)
  refine⟨?_,fun v=> ?_⟩
  ·show (bif fQ p then [i]++nR r (l.map fun i=>AV.ptr i 0) else _)=_
   rw[h.1,k1];rfl
  ·cases v with
   |nil=>rfl
   |cons a v=>show (bif fQ p then Dv r v else _)=_;rw[h.1];exact k2 v
theorem RI:∀ {ps:List PT} {vs:List AV} {l:List Nat},pF ps vs.length=true->ps.length=(vs++l.map fun i=>AV.ptr i 0).length->nR ps (vs++l.map fun i=>AV.ptr i 0)=l∧∀ lv lb:List Value,lv.length=vs.length->Dv ps (lv++lb)=lv
 |ps,[],l,h,hl=>by
  obtain⟨k1,k2⟩:=JC (ps:=ps) (l:=l) h (by simpa using hl)
  refine⟨k1,fun lv lb e=> ?_⟩
  obtain rfl:lv=[]:=List.length_eq_zero_iff.1 e
  exact k2 _
 |[],x::vs,l,h,hl=>by simp at hl
 |p::ps,x::vs,l,h,hl=>by
  have h:(!fQ p&&pF ps vs.length)=true:=h
  rw[Bool.and_eq_true,Bool.not_eq_true'] at h
  obtain⟨k1,k2⟩:=RI (ps:=ps) (vs:=vs) (l:=l) h.2 (by simpa using hl)
  refine⟨?_,fun lv lb e=> ?_⟩
  ·show (bif fQ p then _ else nR ps (vs++l.map fun i=>AV.ptr i 0))=_
   rw[h.1];exact k1
  ·cases lv with
   |nil=>cases e
   |cons a lv=>
    show (bif fQ p then _ else a::Dv ps (lv++lb))=_
    rw[h.1,k2 lv lb (by simpa using e)];rfl
def JD:Eff->Nat
 | .kill i| .shut i _ _| .dO i=>i
theorem JE{x:AV}:∀ {es:List Eff},(∀ e∈es,e.av x=x)->fF es x=x
 |[],_=>rfl
 |e::r,h=>by show fF r (e.av x)=x;rw[h e aee];exact JE fun e he=>h e (aef _ he)
theorem rJ(es:List Eff):∀ (t:CT) (d:t.D),fF es (t.av d)=t.av d
 | .int k,d=>ig (fun e=>by cases e<;>rfl) es
 | .bool,d=>ig (fun e=>by cases e<;>rfl) es
 | .str,d=>ig (fun e=>by cases e<;>rfl) es
 | .sl ts,d=>ig (fun e=>by cases e<;>rfl) es
theorem Dw{es:List Eff}{n:Nat}(h:∀ e∈es,JD e<n)(m:Md)(t:CT)(d:t.D):fF es (dI m t d n).1=(dI m t d n).1∧∀ q∈(dI m t d n).2.1,jd es q.2=q.2:=by
 cases t with
 |sl ts=>
  cases m with
  |mv=>
   refine⟨?_,fun q hq=> ?_⟩
   ·show fF es (.own n)= .own n
    refine JE fun e he=> ?_
    have hne:JD e≠n:=Nat.ne_of_lt (h e he)
    cases e with
    |kill j=>show (bif Nat.beq n j then AV.dead else .own n)=_;rw[cZ (j:=j) (fun x=>hne x.symm)];rfl
    |shut j ts rows=>show (bif Nat.beq n j then AV.ro ts rows [] else .own n)=_;rw[cZ (j:=j) (fun x=>hne x.symm)];rfl
    |dO j=>rfl
   ·obtain rfl:q=(n,.arr ts d true):=by simpa [dI] using hq
    rfl
  |ro=>exact⟨rJ es (.sl ts) d,fun q hq=>by cases hq⟩
  |leak=>exact⟨rJ es (.sl ts) d,fun q hq=>by cases hq⟩
 |int k=>cases m<;>exact⟨rJ es _ d,fun q hq=>by cases hq⟩
 |bool=>cases m<;>exact⟨rJ es _ d,fun q hq=>by cases hq⟩
 |str=>cases m<;>exact⟨rJ es _ d,fun q hq=>by cases hq⟩
theorem mZ{es:List Eff}:∀ (ts:aC) (ms:List Md) (d:ts.D) (n:Nat),(∀ e∈es,JD e<n)->gK es (putCells ts ms d n).1=(putCells ts ms d n).1∧∀ q∈(putCells ts ms d n).2.1,jd es q.2=q.2
 | .one t,ms,d,n,h=>by
  have gen:∀ m,gK es [(dI m t d n).1]=[(dI m t d n).1]∧∀ q∈(dI m t d n).2.1,jd es q.2=q.2:=fun m=>by
   have:=Dw h m t d
   refine⟨?_,this.2⟩
   rw[lU,tV,this.1]
  cases ms with
  |nil=>exact gen .ro
  |cons m _=>exact gen m
 | .cons t ts,ms,d,n,h=>by
  cases ht:jH t with
  |false=>
   have e:putCells (.cons t ts) ms d n=(t.av d.1::(putCells ts ms d.2 n).1,(putCells ts ms d.2 n).2.1,(putCells ts ms d.2 n).2.2):=by
    show (bif jH t then _ else _)=_
    rw[ht];rfl
   rw[e]
   have:=mZ ts ms d.2 n h
   refine⟨?_,this.2⟩
   rw[lU,rJ,this.1]
  |true=>
   obtain⟨m,ms',e⟩:=Gf (ts:=ts) (ms:=ms) ht
   rw[e]
   have h1:=Dw h m t d.1
   have h2:=mZ ts ms' d.2 (dI m t d.1 n).2.2 fun e he=>Nat.lt_of_lt_of_le (h e he) (wL m t d.1 n).1
   refine⟨?_,fun q hq=>(adh.1 hq).elim (h2.2 q) (h1.2 q)⟩
   rw[lU,h1.1,h2.1]
theorem Gh{es:List Eff}{boxes:List Nat}{p:PT}{d:p.sh.D}{n:Nat}(h:∀ e∈es,JD e<n):n<=(eU boxes p d n).2.2∧∀ q∈(eU boxes p d n).2.1,jd es q.2=q.2:=by
 match p,d with
 |⟨.one t,ms⟩,d=>
  have e:eU boxes ⟨.one t,ms⟩ d n=putCells (.one t) ms d n:=BP
  rw[e]
  exact⟨(fA (.one t) ms d n).1,(mZ (.one t) ms d n h).2⟩
 |⟨.agg ts,ms⟩,d=>exact⟨(fA ts ms d n).1,(mZ ts ms d n h).2⟩
 |⟨.rP,ms⟩,d=>exact⟨Nat.le_refl n,fun q hq=>by cases hq⟩
 |⟨.st ts,ms⟩,d=>
  have k:=mZ ts ms d n h
  cases boxes with
  |nil=>exact⟨(fA ts ms d n).1,k.2⟩
  |cons b bs=>
   refine⟨(fA ts ms d n).1,fun q hq=> ?_⟩
   have hq:q∈(b,AO.box (putCells ts ms d n).1)::(putCells ts ms d n).2.1:=hq
   rcases List.mem_cons.1 hq with e|hq
   ·subst e;show AO.box (gK es _)=_;rw[k.1]
   ·exact k.2 q hq
theorem Gi{es:List Eff}:∀ (ps:List PT) (boxes:List Nat) (d:He ps) (n:Nat),(∀ e∈es,JD e<n)->∀ q∈(cO boxes ps d n).2.1,jd es q.2=q.2
 |[],boxes,d,n,h,q,hq=>by cases hq
 |[p],boxes,d,n,h,q,hq=>(Gh (p:=p) (d:=d) h).2 q hq
 |p::p'::r,boxes,d,n,h,q,hq=>by
  have hq:q∈(cO (bif fQ p then mM boxes else boxes) (p'::r) d.2 (eU boxes p d.1 n).2.2).2.1++(eU boxes p d.1 n).2.1:=hq
  have k:=Gh (boxes:=boxes) (p:=p) (d:=d.1) h
  rcases adh.1 hq with hq|hq
  ·exact Gi (p'::r) _ d.2 _ (fun e he=>Nat.lt_of_lt_of_le (h e he) k.1) q hq
  ·exact k.2 q hq
end
end Go.E
end
section
namespace Go.E
section
variable {P:Program} {main:Bool} {Rl:Ow->World->World->Prop}
theorem Via.weaken{S S':Ow->Frame->List Frame->World->Prop}{o:Ow}{fr:Frame}{cs:List Frame}{w:World}(h:Via P main Rl S o fr cs w)(k:∀ o fr cs w,S o fr cs w->S' o fr cs w):Via P main Rl S' o fr cs w:=
 h.trans fun o fr cs w x=> .stop (k o fr cs w x)
theorem Via.grow{S:Ow->Frame->List Frame->World->Prop}{o:Ow}{fr:Frame}{cs:List Frame}{w:World}(h:Via P main Rl S o fr cs w):
  Via P main Rl (fun o' fr cs w=>S o' fr cs w∧(∀ b,o.u b->o'.u b)∧∀ b,o.s b->o'.s b) o fr cs w:=by
 induction h with
 |stop h=>exact .stop ⟨h,fun _ x=>x,fun _ x=>x⟩
 |step a b _ ih=>exact .step a b fun w2 hw=>(ih w2 hw).weaken fun o' fr cs w x=>⟨x.1,fun b hb=>x.2.1 b (.inl hb),fun b hb=>x.2.2 b (.inl hb)⟩
theorem Gj{boxes:List Nat}{p:PT}{d:p.sh.D}{n:Nat}:n<=(eU boxes p d n).2.2∧((∀ b∈boxes,b<n)->Keys (eU boxes p d n).2.1 fun i=>(fQ p=true∧∃ r,boxes=i::r)∨(n<=i∧i<(eU boxes p d n).2.2)):=by
 match p,d with
 |⟨.one t,ms⟩,d=>
  have e:eU boxes ⟨.one t,ms⟩ d n=putCells (.one t) ms d n:=BP
  rw[e]
  exact⟨(fA (.one t) ms d n).1,fun _=>(fA (.one t) ms d n).2.mono fun i=> .inr⟩
 |⟨.agg ts,ms⟩,d=>exact⟨(fA ts ms d n).1,fun _=>(fA ts ms d n).2.mono fun i=> .inr⟩
 |⟨.rP,ms⟩,d=>exact⟨Nat.le_refl n,fun _=>Keys.nil⟩
 |⟨.st ts,ms⟩,d=>
  cases boxes with
  |nil=>exact⟨(fA ts ms d n).1,fun _=>(fA ts ms d n).2.mono fun i=> .inr⟩
  |cons b bs=>
   refine⟨(fA ts ms d n).1,fun hb=> ?_⟩
   refine ((Keys.one (i:=b) (a:= .box (putCells ts ms d n).1) (A:=fun i=>fQ ⟨.st ts,ms⟩=true∧∃ r,b::bs=i::r) ⟨rfl,bs,rfl⟩).app (fA ts ms d n).2 fun i hi hi'=> ?_)
   obtain⟨_,r,e⟩:=hi
   cases e
   have:=hb b aee
   omega
theorem Gl:∀ (ps:List PT) (boxes:List Nat) (d:He ps) (n:Nat),n<=(cO boxes ps d n).2.2∧((∀ b∈boxes,b<n)->boxes.Nodup->Keys (cO boxes ps d n).2.1 fun i=>i∈boxes∨(n<=i∧i<(cO boxes ps d n).2.2))
 |[],boxes,d,n=>⟨Nat.le_refl n,fun _ _=>Keys.nil⟩
 |[p],boxes,d,n=>by
  obtain⟨k1,k2⟩:=Gj (boxes:=boxes) (p:=p) (d:=d) (n:=n)
  refine⟨k1,fun hb _=>(k2 hb).mono fun i hi=> ?_⟩
  rcases hi with ⟨_,r,rfl⟩|hi
  ·exact .inl aee
  ·exact .inr hi
 |p::q::r,boxes,d,n=>by
  have hx:cO boxes (p::q::r) d n=((eU boxes p d.1 n).1++(cO (bif fQ p then mM boxes else boxes) (q::r) d.2 (eU boxes p d.1 n).2.2).1,
    (cO (bif fQ p then mM boxes else boxes) (q::r) d.2 (eU boxes p d.1 n).2.2).2.1++(eU boxes p d.1 n).2.1,(cO (bif fQ p then mM boxes else boxes) (q::r) d.2 (eU boxes p d.1 n).2.2).2.2):=rfl
  rw[hx]
  obtain⟨k1,k2⟩:=Gj (boxes:=boxes) (p:=p) (d:=d.1) (n:=n)
  obtain⟨g1,g2⟩:=Gl (q::r) (bif fQ p then mM boxes else boxes) d.2 (eU boxes p d.1 n).2.2
  refine⟨Nat.le_trans k1 g1,fun hb hn=> ?_⟩
  have sub:∀ i,i∈(bif fQ p then mM boxes else boxes)->i∈boxes:=fun i hi=>by
   cases hp:fQ p<;>rw[hp] at hi
   ·exact hi
   ·cases boxes with
    |nil=>cases hi
    |cons b bs=>exact aef _ hi
  have ndp:(bif fQ p then mM boxes else boxes).Nodup:=by
   cases fQ p
   ·exact hn
   ·cases boxes with
    |nil=>exact hn
    |cons b bs=>exact (List.nodup_cons.1 hn).2
  refine ((g2 (fun b hb'=>Nat.lt_of_lt_of_le (hb b (sub b hb')) k1) ndp).app (k2 hb) fun i hi hi'=> ?_).mono fun i hi=> ?_
  ·rcases hi' with ⟨hp,r',rfl⟩|hi'
   ·rcases hi with hi|hi
    ·rw[hp] at hi
     have hi:i∈r':=hi
     exact (List.nodup_cons.1 hn).1 hi
    ·have:=hb i aee
     omega
   ·rcases hi with hi|hi
    ·have:=hb i (sub i hi);omega
    ·omega
  ·rcases hi with (hi|hi)|⟨_,r',rfl⟩|hi
   ·exact .inl (sub i hi)
   ·dsimp only;omega
   ·exact .inl aee
   ·dsimp only;omega
theorem BQ:∀ (ps:List PT) (boxes:List Nat) (d:He ps) (n:Nat),boxes.length=jh ps->∀ b∈boxes,∃ cs,(b,AO.box cs)∈(cO boxes ps d n).2.1
 |[],boxes,d,n,hl,b,hb=>by
  obtain rfl:boxes=[]:=List.length_eq_zero_iff.1 hl
  cases hb
 |[p],boxes,d,n,hl,b,hb=>by
  match p,d,hl with
  |⟨.st ts,ms⟩,d,hl=>
   have hl:boxes.length=0+1:=hl
   match boxes,hl,hb with
   |[b'],_,hb=>
    obtain rfl:=List.mem_singleton.1 hb
    exact⟨_,aee⟩
  |⟨.one t,ms⟩,d,hl=>obtain rfl:boxes=[]:=List.length_eq_zero_iff.1 hl;cases hb
  |⟨.agg ts,ms⟩,d,hl=>obtain rfl:boxes=[]:=List.length_eq_zero_iff.1 hl;cases hb
  |⟨.rP,ms⟩,d,hl=>obtain rfl:boxes=[]:=List.length_eq_zero_iff.1 hl;cases hb
 |p::q::r,boxes,d,n,hl,b,hb=>by
  have hx:(cO boxes (p::q::r) d n).2.1=(cO (bif fQ p then mM boxes else boxes) (q::r) d.2 (eU boxes p d.1 n).2.2).2.1++(eU boxes p d.1 n).2.1:=rfl
  rw[hx]
  have hl:boxes.length=bif fQ p then jh (q::r)+1 else jh (q::r):=hl
  cases hp:fQ p with
  |false=>
   rw[hp] at hl
   obtain⟨cs,h⟩:=BQ (q::r) boxes d.2 (eU boxes p d.1 n).2.2 hl b hb
   exact⟨cs,adh.2 (.inl h)⟩
  |true=>
   rw[hp] at hl
   cases boxes with
   |nil=>cases hb
   |cons b' bs=>
    rcases List.mem_cons.1 hb with e|hb
    ·subst e
     match p,d,hp with
     |⟨.st ts,ms⟩,d,_=>exact⟨_,adh.2 (.inr aee)⟩
    ·obtain⟨cs,h⟩:=BQ (q::r) bs d.2 (eU (b'::bs) p d.1 n).2.2 (by simpa using hl) b hb
     exact⟨cs,adh.2 (.inl h)⟩
theorem JF:∀ {ps:List PT} {n:Nat},pF ps n=true->ps.length=n+jh ps
 |[],0,_=>rfl
 |[],_+1,h=>by cases h
 |p::r,0,h=>by
  have h:(fQ p&&pF r 0)=true:=h
  rw[Bool.and_eq_true] at h
  have:=JF h.2
  show r.length+1=0+(bif fQ p then jh r+1 else jh r)
  rw[h.1,cond_true];omega
 |p::r,n+1,h=>by
  have h:(!fQ p&&pF r n)=true:=h
  rw[Bool.and_eq_true,Bool.not_eq_true'] at h
  have:=JF h.2
  show r.length+1=n+1+(bif fQ p then jh r+1 else jh r)
  rw[h.1,cond_false];omega
theorem aeM{E:Env}{vs:List AV}{v:Value}(h:VR E (jr vs) v):∃ lv,dG E vs lv∧∀ (E2:Env) vs2,dG E2 vs2 lv->VR E2 (jr vs2) v:=by
 match vs,h with
 |[x],h=>
  refine⟨[v],by unfold dG;exact⟨v,[],rfl,h,by unfold dG;rfl⟩,fun E2 vs2 h2=> ?_⟩
  match vs2,h2 with
  |[y],h2=>
   unfold dG at h2
   obtain⟨u,q,e,h2,_⟩:=h2
   cases e;exact h2
  |[],h2=>unfold dG at h2;cases h2
  | _::_::_,h2=>
   unfold dG at h2
   obtain⟨u,q,e,h2,h3⟩:=h2
   cases e
   unfold dG at h3
   obtain⟨_,_,e,_⟩:=h3
   cases e
 |[],h1=>
  unfold jr VR at h1
  obtain⟨l,rfl,h3⟩:=h1
  unfold dG at h3;subst h3
  refine⟨[],by unfold dG;rfl,fun E2 vs2 h2=> ?_⟩
  match vs2,h2 with
  |[],h2=>unfold jr VR;exact⟨[],rfl,h2⟩
  | _::_,h2=>unfold dG at h2;obtain⟨_,_,e,_⟩:=h2;cases e
 |x::y::r,h1=>
  unfold jr VR at h1
  obtain⟨l,rfl,h3⟩:=h1
  refine⟨l,h3,fun E2 vs2 h2=> ?_⟩
  have e1:=lT h3
  match vs2,h2 with
  |[],h2=>have e2:=lT h2;rw[e1] at e2;simp at e2
  |[_],h2=>have e2:=lT h2;rw[e1] at e2;simp at e2
  | _::_::_,h2=>unfold jr VR;exact⟨l,rfl,h2⟩
theorem MR{E:Env}{tm:List (Nat×AV)}{tmps:Array Value}(h:kD E tm tmps):∀ {l:List Nat} {bs:List AV},slotsOf tm l=some bs->∃ lb,dG E bs lb
 |[],bs,hs=>by cases hs;exact⟨[],by unfold dG;rfl⟩
 |i::r,bs,hs=>by
  unfold slotsOf at hs
  split at hs
  ·rename_i v vs h1 h2
   cases hs
   obtain⟨lb,h3⟩:=MR h h2
   exact⟨_::lb,by unfold dG;exact⟨_,lb,rfl,h.1 i v h1,h3⟩⟩
  ·cases hs
end
end Go.E
end
section
namespace Go.E
section
variable {X:Ctx} {o o':Ow} {E E1 Eo:Env} {aG anp:Nat}
theorem uM:∀ (l:List Nat) (i:Nat),look (iQ l) i=if i∈l then some .dead else none
 |[],i=>by simp[iQ,look]
 |j::r,i=>by
  show (bif Nat.beq j i then some AO.dead else look (iQ r) i)=_
  by_cases e:j=i
  ·subst e;simp
  ·rw[cZ e,cond_false,uM r]
   have:i≠j:=fun x=>e x.symm
   simp[this]
theorem Lets.ids{O:bn}{es:List Eff}{mv:List Nat}(h:Lets O es mv):∀ e∈es,∃ a,look O (JD e)=some a:=by
 induction h with
 |nil=>intro e he;cases he
 |shut a _ ih=>
  intro e he
  rcases List.mem_cons.1 he with x|he
  ·subst x;exact⟨_,a⟩
  ·exact ih e he
 |gone a _ ih=>
  intro e he
  rcases List.mem_cons.1 he with x|he
  ·subst x;exact⟨_,a⟩
  ·rcases List.mem_cons.1 he with x|he
   ·subst x;exact⟨_,a⟩
   ·exact ih e he
theorem qj.arr{O:bn}{es:List Eff}(h:qj O es):∀ i,aQ i es=true->∃ ts rows wr,look O i=some (.arr ts rows wr):=h.lets.sealed
theorem Dx:∀ (m n k:Nat),k<m->(jE n m)[k]? =some (n+k)
 |0,n,k,h=>by omega
 |m+1,n,0,h=>rfl
 |m+1,n,k+1,h=>by
  show (jE (n+1) m)[k]? =_
  rw[Dx m (n+1) k (by omega)]
  congr 1;omega
theorem wM:∀ (n m:Nat),(jE n m).length=m
 | _,0=>rfl
 |n,m+1=>by show (jE (n+1) m).length+1=_;rw[wM]
theorem ahu(g:FuncId)(h:OK X o E aG){ps:List PT}{xs:List AV}{d:He ps}{es:List Eff}{mo us bs:List Nat}(hg:getArgs E.O ps xs=some (d,es,mo,us,bs))(hn:(mo++bs).Nodup)
  (w1:E1.w=E.w) (r1:E1.ρ=E.ρ) (g1:E1.F=E.F) (ok1:OK X o E1 aG) (st1:Step E E1 es) (l1:∀ i,look E1.O i=if i∈mo∨aQ i es=true then (look E.O i).map fun _=> .dead else (look E.O i).map (jd es))
  (X3:∀ i∈mo++bs,∀ b,(E.ρ i).b=some b->¬ E1.N b) (oko:OK (uw g E E1 o (mo++bs) bs) o' Eo anp) (hou:∀ b,o.u b->o'.u b) (hos:∀ b,o.s b->o'.s b)
  {rs:List PT} {vs:List AV} {r:He rs} {mo' sn:List Nat} {lv lb:List Value} (hout:uG Eo.O rs (vs++(jE 1 bs.length).map fun i=>AV.ptr i 0)=some (r,mo',sn)) (hrs:pF rs vs.length=true)
  (hv:dG Eo (vs++(jE 1 bs.length).map fun i=>AV.ptr i 0) (lv++lb)) (hlv:lv.length=vs.length) (hnd:mo'.Nodup) (hap:∀ i∈mo',i∉sn) (hsn:Ei Eo.O sn=true):
  ∃ E2:Env,E2.w=Eo.w∧E2.O=dw es ((cO bs rs r aG).2.1++(iQ mo++E.O))∧OK X o' E2 (cO bs rs r aG).2.2∧Step E E2 es∧dG E2 (cO bs rs r aG).1 lv:=by
 obtain⟨f1,f2,f3,f4,f5⟩:=pV ps xs d hg
 obtain⟨ess,ajq⟩:=Gg hsn
 obtain⟨q1,q2⟩:=mX ajq
 obtain⟨Es,ws,rs_,fs,ls,oks,sts,ns,ms⟩:=uZ q1 oko fun _ _ _ _ hx=> .inl hx
 have hsh:zN Eo Es sn:=fun i hi=>by
  have hsi:=q2 i hi
  obtain⟨ts,rows,wr,hl⟩:=q1.arr i hsi
  exact⟨(oko.num i _ hl).2,fun b ts' rows' wr' hl' hb=>⟨ms i ts' rows' wr' b hsi hl' hb,by rw[ws]⟩⟩
 have hlen:=JA rs _ r hout
 obtain⟨hst,hkv⟩:=RI (l:=jE 1 bs.length) hrs hlen
 have anq:bs.length=jh rs:=by
  have:=JF hrs
  rw[List.length_append,List.length_map,wM] at hlen
  omega
 have aaq:∀ b∈bs,b<aG:=fun b hb=>by obtain⟨cs,hc⟩:=f4 b hb;exact (h.num b _ hc).1
 have anr:bs.Nodup:=(List.nodup_append.1 hn).2.1
 have ajr:∀ e∈es,JD e<aG:=fun e he=>by obtain⟨a,ha⟩:=f1.ids e he;exact (h.num _ a ha).1
 have live0:∀ i∈mo++bs,∃ a,look E.O i=some a∧live a=true:=fun i hi=>by
  rcases adh.1 hi with hi|hi
  ·obtain⟨_,_,_,hl⟩:=f1.mem i hi;exact⟨_,hl,rfl⟩
  ·obtain⟨_,hl⟩:=f4 i hi;exact⟨_,hl,rfl⟩
 have MS:∀ k b,bs[k]? =some b->(Eo.ρ (1+k)).b=(E.ρ b).b∧∃ cs,look Eo.O (1+k)=some (.box cs):=fun k b hk=>by
  obtain⟨cs,hc⟩:=f4 b (List.mem_of_getElem? hk)
  obtain⟨blk,_,_,_,hblk,_⟩:=h.obj b _ hc
  have hm:=RD (E:=E) bs 1 k b hk
  have:=oko.bx _ hm
  rw[hblk] at this
  unfold VR at this
  obtain⟨cs',blk',e1,e2,e3⟩:=this
  have e3:Value.pointer (some ⟨blk,0,none⟩)=Value.pointer (some ⟨blk',0,none⟩):=e3
  cases e3
  exact⟨by rw[e2,hblk],cs',e1⟩
 have stand:∀ b,(uw g E E1 o (mo++bs) bs).G b->Eo.w.heap[b]? =E.w.heap[b]? :=fun b hb=>(oko.kept b hb).2.1
 have GN:∀ b,E1.N b->(uw g E E1 o (mo++bs) bs).G b:=fun b hb=>by
  have:=ok1.zx b hb
  rw[w1] at this
  exact⟨this.1,this.2.1,fun i hi hib=>X3 i hi b hib hb⟩
 have GX:∀ b,X.G b->(uw g E E1 o (mo++bs) bs).G b:=fun b hb=>
  ⟨h.ltN (.inr hb),(h.kept b hb).2.2,fun i hi hib=>(h.own i b (live0 i hi) hib).2.2.1 hb⟩
 have GL:∀ i b,Live E i->i∉mo++bs->(E.ρ i).b=some b->(uw g E E1 o (mo++bs) bs).G b:=fun i b hi hni hb=>by
  have ho:=h.own i b hi hb
  refine⟨ho.1,h.us b ho.2.2.2,fun j hj hjb=> ?_⟩
  have:=h.inj i j b hi (live0 j hj) hb hjb
  subst this;exact hni hj
 let objs:=(cO bs rs r aG).2.1
 let srcs:=ji Eo.O rs (vs++(jE 1 bs.length).map fun i=>AV.ptr i 0)
 obtain⟨kn,kk⟩:=Gl rs bs r aG
 have kk:=kk aaq anr
 let E2:Env:=⟨Eo.w,fun i=>if i<aG then E.ρ i else qI Eo ((srcs[i-aG]?).getD none),fun b=>E1.N b∨Es.N b,E.F,dw es (objs++(iQ mo++E.O))⟩
 have Oh:∀ i,i<aG->E2.ρ i=E.ρ i:=fun i hi=>if_pos hi
 have ant:∀ k,E2.ρ (aG+k)=qI Eo ((srcs[k]?).getD none):=fun k=>by
  show (if aG+k<aG then _ else _)=_
  rw[if_neg (by omega),Nat.add_sub_cancel_left]
 have aar:∀ q∈objs,look E2.O q.1=some q.2:=fun q hq=>by
  show look (dw es (objs++(iQ mo++E.O))) q.1=_
  rw[bT,iR,BN kk.1 hq]
  have hns:¬ aQ q.1 es=true:=fun hs=>by
   obtain⟨ts,rows,wr,hl⟩:=f1.sealed _ hs
   rcases kk.2 q hq with hb|hb
   ·obtain⟨cs,hc⟩:=f4 _ hb;rw[hl] at hc;cases hc
   ·have:=(h.num _ _ hl).1;omega
  rw[if_neg hns]
  show some (jd es q.2)=_
  rw[Gi rs bs r aG ajr q hq]
 have RJ:∀ i,i∉bs->i<aG->look E2.O i=look E1.O i:=fun i hi hlt=>by
  show look (dw es (objs++(iQ mo++E.O))) i=_
  have hno:look objs i=none:=uq (A:=fun i=>i∈bs∨(aG<=i∧i<(cO bs rs r aG).2.2)) kk.2 (by
   rintro (x|x)
   ·exact hi x
   ·omega)
  rw[bT,iR,hno,l1]
  dsimp only
  rw[iR,uM]
  by_cases hm:i∈mo
  ·obtain⟨ts,rows,wr,hl⟩:=f1.mem i hm
   rw[if_pos hm,if_pos (Or.inl hm),hl]
   split<;>rfl
  ·rw[if_neg hm]
   dsimp only
   by_cases hs:aQ i es=true
   ·obtain⟨ts,rows,wr,hl⟩:=f1.sealed i hs
    rw[if_pos hs,if_pos (Or.inr hs),hl];rfl
   ·rw[if_neg hs,if_neg (by rintro (x|x);exact hm x;exact hs x)]
 have anu:∀ i,aG<=i->∀ a,look E2.O i=some a->(i,a)∈objs:=fun i hi a ha=>by
  have ha:look (dw es (objs++(iQ mo++E.O))) i=some a:=ha
  cases hlo:look objs i with
  |some a'=>
   have:=aar (i,a') (qm hlo)
   have this:look (dw es (objs++(iQ mo++E.O))) i=some a':=this
   rw[ha] at this;cases this
   exact qm hlo
  |none=>
   rw[bT,iR,hlo] at ha
   dsimp only at ha
   rw[iR,uM] at ha
   have h0:look E.O i=none:=by
    cases hl:look E.O i with
    |none=>rfl
    |some a=>have:=(h.num i a hl).1;omega
   have hm:i∉mo:=fun x=>by obtain⟨ts,rows,wr,hl⟩:=f1.mem i x;rw[h0] at hl;cases hl
   have hs:¬ aQ i es=true:=fun x=>by obtain⟨ts,rows,wr,hl⟩:=f1.sealed i x;rw[h0] at hl;cases hl
   rw[if_neg hs,if_neg hm] at ha
   dsimp only at ha
   rw[h0] at ha;cases ha
 have agc:∀ b∈bs,∃ cs,look E2.O b=some (.box cs)∧(b,AO.box cs)∈objs:=fun b hb=>by
  obtain⟨cs,hc⟩:=BQ rs bs r aG anq b hb
  exact⟨cs,aar _ hc,hc⟩
 have L:Back Eo Es E2:=⟨rfl,ws,ns,fun b hb=> .inr hb⟩
 obtain⟨p1,p2,p3,p4⟩:=RH (E2:=E2) oko L rs _ r (lv++lb) bs aG hout hv hsh aar (fun k q hq=>by
   have hq:srcs[k]? =some q:=hq
   rw[ant,hq];rfl) (by rw[hst,wM];exact Nat.le_refl _) (fun k id b hk hb=>by
   rw[hst] at hk
   have hlt:k<bs.length:=by
    rcases Nat.lt_or_ge k bs.length with y|y
    ·exact y
    ·rw[List.getElem?_eq_none y] at hb;cases hb
   rw[Dx _ _ _ hlt] at hk
   cases hk
   rw[Oh b (aaq b (List.mem_of_getElem? hb))]
   exact (MS k b hb).1.symm)
 rw[hkv lv lb hlv] at p1
 have aas:∀ i b,aG<=i->Live E2 i->(E2.ρ i).b=some b->∃ id,srcs[i-aG]? =some (some id)∧id∈mo'∧(Eo.ρ id).b=some b∧∃ ts rows wr,look Eo.O id=some (.arr ts rows wr):=fun i b hi hl hb=>by
  have hb:(if i<aG then E.ρ i else qI Eo ((srcs[i-aG]?).getD none)).b=some b:=hb
  rw[if_neg (by omega)] at hb
  cases hx:srcs[i-aG]? with
  |none=>rw[hx] at hb;cases hb
  |some q=>
   rw[hx] at hb
   cases q with
   |none=>cases hb
   |some id=>
    refine⟨id,rfl,?_,hb,Jz rs _ r hout id (List.mem_of_getElem? hx)⟩
    rw[p4]
    exact List.mem_filterMap.2 ⟨some id,List.mem_of_getElem? hx,rfl⟩
 have agd:∀ id∈mo',∀ ts rows wr,look Eo.O id=some (.arr ts rows wr)->∃ a,look Es.O id=some a∧live a=true:=fun id hid ts rows wr hl=>by
  refine⟨.arr ts rows wr,?_,rfl⟩
  rw[ls,bT]
  have:¬ aQ id ess=true:=fun hs=>hap id hid (wK ajq hs)
  rw[if_neg this,hl];rfl
 have agf:∀ k b,bs[k]? =some b->∃ a,look Es.O (1+k)=some a∧live a=true:=fun k b hk=>by
  obtain⟨_,cs,hc⟩:=MS k b hk
  refine⟨jd ess (.box cs),?_,rfl⟩
  rw[ls,bT]
  have:¬ aQ (1+k) ess=true:=fun hs=>by
   obtain⟨ts,rows,wr,hl⟩:=q1.arr _ hs
   rw[hc] at hl;cases hl
  rw[if_neg this,hc];rfl
 have keep:Keep E1 E2 fun _=>False:=by
  refine⟨fun b hb=>⟨.inl hb,by rw[w1];exact stand b (GN b hb)⟩,fun b hb=>⟨by rw[g1] at hb;exact hb,by rw[w1];exact stand b (GX b (ok1.fg b hb))⟩,fun i _ ts rows wr hl=> ?_,fun i cs hl=> ?_,fun i m hl=> ?_⟩
  ·have hlt:=(ok1.num i _ hl).1
   have hl':=hl
   rw[l1] at hl'
   have hnm:¬ (i∈mo∨aQ i es=true):=fun x=>by
    rw[if_pos x] at hl'
    obtain⟨a,_,e⟩:=Option.map_eq_some_iff.1 hl'
    cases e
   rw[if_neg hnm] at hl'
   obtain⟨a,ha,e⟩:=Option.map_eq_some_iff.1 hl'
   have ha':look E.O i=some (.arr ts rows wr):=by cases a<;>cases e;exact ha
   have hnb:i∉bs:=fun x=>by obtain⟨cs,hc⟩:=f4 i x;rw[ha'] at hc;cases hc
   refine⟨by rw[RJ i hnb hlt];exact hl,by rw[Oh i hlt,r1],fun b hb=> ?_⟩
   rw[r1] at hb
   rw[w1]
   exact stand b (GL i b ⟨_,ha',rfl⟩ (fun x=>(adh.1 x).elim (fun y=>hnm (.inl y)) hnb) hb)
  ·have hlt:=(ok1.num i _ hl).1
   by_cases hb:i∈bs
   ·obtain⟨cs',hc',_⟩:=agc i hb
    exact⟨cs',hc',by rw[Oh i hlt,r1]⟩
   ·exact⟨cs,by rw[RJ i hb hlt];exact hl,by rw[Oh i hlt,r1]⟩
  ·have hlt:=(ok1.num i _ hl).1
   have hl':=hl
   rw[l1] at hl'
   have hnm:¬ (i∈mo∨aQ i es=true):=fun x=>by
    rw[if_pos x] at hl'
    obtain⟨a,_,e⟩:=Option.map_eq_some_iff.1 hl'
    cases e
   rw[if_neg hnm] at hl'
   obtain⟨a,ha,e⟩:=Option.map_eq_some_iff.1 hl'
   have ha':look E.O i=some (.map m):=by cases a<;>cases e;exact ha
   have hnb:i∉bs:=fun x=>by obtain⟨cs,hc⟩:=f4 i x;rw[ha'] at hc;cases hc
   exact⟨m,by rw[RJ i hnb hlt];exact hl,by rw[Oh i hlt,r1]⟩
 have st2:Step E E2 es:=by have:=st1.trans keep.step;rwa [List.append_nil] at this
 refine⟨E2,rfl,rfl,?_,st2,p1⟩
 refine ok1.next keep.step (fun i=>i∈bs∨aG<=i) (fun b hb=>by rw[w1];exact stand b (hb.elim (GN b) (GX b))) (by rw[w1];exact oko.size) (fun b hb=> .inl hb) g1.symm hou hos oko.us kn ?_ ?_ ?_ ?_
 ·intro i a hi hni
  have hnb:i∉bs:=fun x=>hni (.inl x)
  have hlt:i<aG:=Nat.lt_of_not_le fun x=>hni (.inr x)
  rw[RJ i hnb hlt] at hi
  refine⟨a,hi,(lV a).symm,fun l=>⟨by rw[Oh i hlt,r1],fun b hb=> ?_⟩⟩
  have ho:=ok1.own i b ⟨a,hi,l⟩ hb
  rw[r1] at hb
  have hnm:i∉mo∧∃ a0,look E.O i=some a0∧live a0=true:=by
   rw[l1] at hi
   by_cases x:i∈mo∨aQ i es=true
   ·rw[if_pos x] at hi
    obtain⟨a0,_,e⟩:=Option.map_eq_some_iff.1 hi
    subst e;cases l
   ·rw[if_neg x] at hi
    obtain⟨a0,h0,e⟩:=Option.map_eq_some_iff.1 hi
    subst e
    rw[pJ] at l
    exact⟨fun y=>x (.inl y),a0,h0,l⟩
  have hG:=GL i b hnm.2 (fun x=>(adh.1 x).elim hnm.1 hnb) hb
  refine⟨?_,by rw[w1];exact stand b hG⟩
  rintro (hN|hN)
  ·exact ho.2.1 hN
  ·exact ho.2.1 ((oks.zx b hN).2.2 hG)
 ·intro i a hsp hi
  have hmem:(i,a)∈objs:=by
   rcases hsp with hb|hge
   ·obtain⟨cs,hc,hm⟩:=agc i hb
    rw[hc] at hi;cases hi;exact hm
   ·exact anu i hge a hi
  have hk:=kk.2 _ hmem
  refine⟨?_,?_,p2 _ hmem⟩
  ·rcases hk with hb|hb
   ·exact Nat.lt_of_lt_of_le (aaq i hb) kn
   ·exact hb.2
  ·rcases hk with hb|hb
   ·obtain⟨cs,hc⟩:=f4 i hb;exact (h.num i _ hc).2
   ·have:=h.pos;unfold foreign;have:=hb.1;dsimp only at this;omega
 ·intro i b hsp hli hb
  have X4:∃ j,(Es.ρ j).b=some b∧(∃ a,look Es.O j=some a∧live a=true)∧((∃ k,bs[k]? =some i∧j=1+k)∨(aG<=i∧srcs[i-aG]? =some (some j)∧∃ ts rows wr,look Eo.O j=some (.arr ts rows wr))):=by
   by_cases hbs:i∈bs
   ·obtain⟨k,hk⟩:=List.getElem?_of_mem hbs
    rw[Oh i (aaq i hbs)] at hb
    exact⟨1+k,by rw[rs_,(MS k i hk).1];exact hb,agf k i hk,.inl ⟨k,hk,rfl⟩⟩
   ·have hge:aG<=i:=hsp.resolve_left hbs
    obtain⟨id,s1,s2,s3,ts,rows,wr,s4⟩:=aas i b hge hli hb
    exact⟨id,by rw[rs_];exact s3,agd id s2 ts rows wr s4,.inr ⟨hge,s1,ts,rows,wr,s4⟩⟩
  obtain⟨j,j1,j2,j3⟩:=X4
  have ho:=oks.own j b j2 j1
  rw[ws] at ho
  refine⟨ho.1,?_,fun hX=>ho.2.2.1 (GX b hX),ho.2.2.2,?_⟩
  ·rintro (hN|hN)
   ·exact ho.2.2.1 (GN b hN)
   ·exact ho.2.1 hN
  ·intro i' ajs hb'
   by_cases hsp':i'∈bs∨aG<=i'
   ·
    have num':∃ j',(Es.ρ j').b=some b∧(∃ a,look Es.O j'=some a∧live a=true)∧((∃ k,bs[k]? =some i'∧j'=1+k)∨(aG<=i'∧srcs[i'-aG]? =some (some j')∧∃ ts rows wr,look Eo.O j'=some (.arr ts rows wr))):=by
     by_cases hbs:i'∈bs
     ·obtain⟨k,hk⟩:=List.getElem?_of_mem hbs
      rw[Oh i' (aaq i' hbs)] at hb'
      exact⟨1+k,by rw[rs_,(MS k i' hk).1];exact hb',agf k i' hk,.inl ⟨k,hk,rfl⟩⟩
     ·have hge:aG<=i':=hsp'.resolve_left hbs
      obtain⟨id,s1,s2,s3,ts,rows,wr,s4⟩:=aas i' b hge ajs hb'
      exact⟨id,by rw[rs_];exact s3,agd id s2 ts rows wr s4,.inr ⟨hge,s1,ts,rows,wr,s4⟩⟩
    obtain⟨j',t1,t2,t3⟩:=num'
    have:=oks.inj j j' b j2 t2 j1 t1
    subst this
    rcases j3 with ⟨k,a1,a2⟩|⟨a0,a1,ts,rows,wr,a2⟩<;>rcases t3 with ⟨k',c1,c2⟩|⟨c0,c1,ts',rows',wr',c2⟩
    ·have:k=k':=by omega
     subst this
     rw[a1] at c1;cases c1;rfl
    ·obtain⟨_,cs,hc⟩:=MS k i a1
     rw[<- a2,c2] at hc;cases hc
    ·obtain⟨_,cs,hc⟩:=MS k' i' c1
     rw[<- c2,a2] at hc;cases hc
    ·have:=Og (l:=srcs) (by rw[show srcs.filterMap id=mo' from p4.symm];exact hnd) a1 c1
     omega
   ·
    exfalso
    have hnb:i'∉bs:=fun x=>hsp' (.inl x)
    have hlt:i'<aG:=Nat.lt_of_not_le fun x=>hsp' (.inr x)
    obtain⟨a,ha,la⟩:=ajs
    rw[RJ i' hnb hlt] at ha
    rw[Oh i' hlt] at hb'
    have hnm:i'∉mo∧∃ a0,look E.O i'=some a0∧live a0=true:=by
     rw[l1] at ha
     by_cases x:i'∈mo∨aQ i' es=true
     ·rw[if_pos x] at ha
      obtain⟨a0,_,e⟩:=Option.map_eq_some_iff.1 ha
      subst e;cases la
     ·rw[if_neg x] at ha
      obtain⟨a0,h0,e⟩:=Option.map_eq_some_iff.1 ha
      subst e
      rw[pJ] at la
      exact⟨fun y=>x (.inl y),a0,h0,la⟩
    exact ho.2.2.1 (GL i' b hnm.2 (fun x=>(adh.1 x).elim hnm.1 hnb) hb')
 ·rintro b (hb|hb)
  ·have:=ok1.zx b hb
   rw[w1] at this
   exact⟨Nat.lt_of_lt_of_le this.1 oko.size,hos b this.2.1,this.2.2⟩
  ·have:=oks.zx b hb
   rw[ws] at this
   refine⟨this.1,this.2.1,fun hX=> ?_⟩
   have hN1:E1.N b:=this.2.2 (GX b hX)
   exact (ok1.zx b hN1).2.2 hX
end
end Go.E
end
section
namespace Go.E
section
variable {P:Program} {main:Bool} {Rl:Ow->World->World->Prop} {C:kC} {Rc:ah} {R:Type} {X:Ctx} {cs0:List Frame} {Stop:R->Ow->Frame->List Frame->World->Prop}
def Good(P:Program)(main:Bool)(Rl:Ow->World->World->Prop)(C:kC)(Rc:ah):Prop:=
 ∀ f s a r,Rc f s a=some r->∃ fn body,look C.fns f=some fn∧fn.body=some body∧∀ X cs0,Goes P main Rl X cs0 (Out C s X cs0 r) (start f body s a)
theorem aat{K:KK R}{r:R}{tm:List (Nat×AV)}{O:bn}{aG:Nat}{op:Oper}{q:FuncId×List AV}(hop:callee C tm op.op=some q)(h:fP C Rc tm O aG op K=some r):
  ∃ s,look C.sig q.1=some s∧qH Rc q.1 s O aG q.2 K=some r:=by
 obtain⟨dst,op,ty,pos,aft,guard⟩:=op
 obtain⟨g,vs⟩:=q
 have hA:∀ {A:Option R},(A=match callee C tm op with
  |some (g,vs)=>match look C.sig g with
   |some s=>qH Rc g s O aG vs K
   |none=>none
  |none=>none)->A=some r->∃ s,look C.sig g=some s∧qH Rc g s O aG vs K=some r:=by
  intro A e h
  rw[e] at h
  have hop:callee C tm op=some (g,vs):=hop
  rw[hop] at h
  dsimp only at h
  split at h
  ·rename_i s hs;exact⟨s,hs,h⟩
  ·cases h
 cases op with
 |call c=>
  obtain⟨cal,args,tys⟩:=c
  cases cal with
  |builtin b=>cases hop
  |value f=>exact hA rfl h
  |invoke x m=>exact hA rfl h
 | _=>cases hop
theorem UD{f:FuncId}{s:dX}{O:bn}{aG:Nat}{args:List AV}{K:KK R}{r:R}(h:qH Rc f s O aG args K=some r):
  ∃ d iP moved used boxes b,getArgs O s.ps args=some (d,iP,moved,used,boxes)∧(moved++boxes).Nodup∧apart moved used=true∧Rc f s d=some b∧
   (K (jr (cO boxes s.rs b aG).1) ((cO boxes s.rs b aG).2.1++(iQ moved++O)) (cO boxes s.rs b aG).2.2 iP=some r∨
    (iP=[]∧moved=[]∧(∀ q∈(cO boxes s.rs b aG).2.1,look O q.1=some q.2)∧K (jr (cO boxes s.rs b aG).1) O (cO boxes s.rs b aG).2.2 []=some r)):=by
 unfold qH at h
 split at h
 ·rename_i d iP moved used boxes hg
  obtain⟨hn,h⟩:=aX h
  rw[Bool.and_eq_true] at hn
  obtain⟨b,hb,h⟩:=Option.bind_eq_some_iff.1 h
  have h:(bif s.lk then (bif iP.isEmpty&&moved.isEmpty then kQ boxes O (cO boxes s.rs b aG).2.1 (K (jr (cO boxes s.rs b aG).1) O (cO boxes s.rs b aG).2.2 []) else none)
   else K (jr (cO boxes s.rs b aG).1) ((cO boxes s.rs b aG).2.1++(iQ moved++O)) (cO boxes s.rs b aG).2.2 iP)=some r:=h
  refine⟨d,iP,moved,used,boxes,b,hg,nodup_iff.1 hn.1,hn.2,hb,?_⟩
  cases hlk:s.lk with
  |false=>rw[hlk,cond_false] at h;exact .inl h
  |true=>
   rw[hlk,cond_true] at h
   obtain⟨he,h⟩:=aX h
   rw[Bool.and_eq_true] at he
   obtain⟨h1,h2⟩:=wF _ h
   exact .inr ⟨List.isEmpty_iff.1 he.1,List.isEmpty_iff.1 he.2,(h2 (none:Option R) O fun _ _=>rfl).1,h1⟩
 ·cases h
theorem aau{s:dX}{vs:List AV}{st:St}{r:s.B}(h:fin s vs st=some r):
  ∃ bs moved seen,slotsOf st.cur.tm (CU s.ps 0)=some bs∧zu bs st.bx=true∧pF s.rs vs.length=true∧uG st.objs s.rs (vs++bs)=some (r,moved,seen)∧moved.Nodup∧apart moved seen=true∧Ei st.objs seen=true:=by
 unfold fin at h
 split at h
 ·rename_i bs hs
  obtain⟨h1,h⟩:=aX h
  rw[Bool.and_eq_true] at h1
  split at h
  ·rename_i d moved seen ho
   obtain⟨h2,h⟩:=aX h
   rw[Bool.and_eq_true,Bool.and_eq_true] at h2
   cases h
   exact⟨bs,moved,seen,hs,h1.1,h1.2,ho,nodup_iff.1 h2.1.1,h2.1.2,h2.2⟩
  ·cases h
 ·cases h
theorem start_eq(f:FuncId)(body:Code)(s:dX)(a:s.A):start f body s a=
  {cur:={fn:=f,tm:=uU (gY s.ps a 1 (1+jh s.ps)).1 0,td:=[.code body]},callers:=[],objs:=(gY s.ps a 1 (1+jh s.ps)).2.1,aG:=(gY s.ps a 1 (1+jh s.ps)).2.2,bx:=jE 1 (jh s.ps)}:=rfl
theorem rO.callee{E E':Env}(h:rO E)(hw:E'.w=E.w)(hN:E'.N=E.N):rO E':=fun g q hg=>by
 have:=h g q hg
 unfold VR at this⊢
 obtain⟨b,o,len,cap,h1,h2,h3,h4⟩:=this
 refine⟨b,o,len,cap,nC (E:=E) (fun b e c t f hb hc=>⟨?_,c,t,f,by rw[hw,hc],rfl⟩) (fun b hb=>⟨by rw[hN];exact hb,by rw[hw]⟩) h1,h2,h3,h4⟩
 rcases hb with hb|⟨i,hi,_⟩
 ·exact .inl (by rw[hN];exact hb)
 ·cases hi
theorem ahw(T:gU P C)(hcode:∀ g fn c,look C.fns g=some fn->fn.body=some c->codeOk fn.ntmps c=true)(hR:Leaves Rl)(hRc:Good P main Rl C Rc)(K:KK R)(s:St)(all:List Oper)(op:Oper)(rest:List Oper)(k:List It)(r:R)
  (q:FuncId×List AV) (hop:callee C s.cur.tm op.op=some q) (ha:fP C Rc s.cur.tm s.objs s.aG op K=some r)
  (hK:∀ v O1 eY es,K v O1 eY es=some r->Goes P main Rl X cs0 (Stop r) (after s op.dst (.ops all rest::k) v O1 eY es)) (o:Ow) (E:Env) (tmps:Array Value) (todo:List Item) (cs:List Frame) (ops:Array Oper) (i:Nat) (idx:List Nat) (todo':List Item)
  (h:qW X o E s cs0 (frame s.cur.fn tmps todo) cs) (ht:kD E s.cur.tm tmps) (e:todo= .inRegion ops (i::idx)::todo') (hi:ops[i]? =some op) (hd:∀ d,op.dst=some d->d<tmps.size) (htd:FU tmps.size (.ops all rest::k) (.inRegion ops idx::todo'))
  (hw:Region.wanted op (yielded ops tmps)=true):Via P main Rl (Stop r) o (frame s.cur.fn tmps todo) cs E.w:=by
 obtain⟨sg,h3,hac⟩:=aat hop ha
 obtain⟨g,oZ⟩:=q
 obtain⟨d,iP,moved,used,boxes,rr,hg,hn,hap,hrc,hkk⟩:=UD hac
 obtain⟨fn,body,hfn,hbody,hgoes⟩:=hRc g sg d rr hrc
 obtain⟨f1,f2⟩:=T.fns g fn hfn
 obtain⟨vals,hrun,ajt⟩:=Go.E.QL T hop ht hfn hbody
 subst e
 have hst:=Conc.stepG_enter (main:=main) (b:=Conc.base s.cur.fn) (a:=⟨tmps,[]⟩) (k:=todo') (cs:=cs) (rest:=idx) hi hw (fun x=>by cases x) (hrun E.w)
 rw[Conc.enter_at _ f1 hbody] at hst
 refine .step hst (Keeps.refl _ _) fun w2 hw2=> ?_
 rw[Ow.kV] at hw2⊢
 have hh:=h.rely hR hw2
 obtain⟨_,hs2⟩:=h.ok.rely hR hw2
 have ht2:kD {E with w:=w2} s.cur.tm tmps:=by have:=ht.step hs2;simpa [jU] using this
 have hvs:=ajt _ ht2
 rw[<- hh.objs] at hg
 obtain⟨E1,Ec,w1,r1,g1,ok1,st1,l1,X3,wc,nc,Oc,okc,vrc⟩:=RF g hh.ok hg hvs hn hap
 have aju:=(pV _ _ _ hg).len
 have aeN:qW (uw g {E with w:=w2} E1 o (moved++boxes) boxes) o Ec (start g body sg d) (frame s.cur.fn tmps (.inRegion ops (i::idx)::todo')::cs)
   (frame g (vals.toArray++Array.replicate (fn.ntmps-vals.toArray.size) undef) [.code body]) (frame s.cur.fn tmps (.inRegion ops (i::idx)::todo')::cs):=by
  rw[start_eq]
  refine⟨okc,Oc,⟨_,_,rfl,NY vrc (rO.callee (ht2.2.step st1) (wc.trans w1.symm) nc),?_⟩,⟨[],rfl,rfl⟩,?_,rfl⟩
  ·refine lD ⟨rfl,jM ?_ body (hcode g fn body hfn hbody)⟩ rfl
   simp only[Array.size_append,Array.size_replicate];omega
  ·show jE 1 (jh sg.ps)=(UA _ boxes 1).map _
   rw[Jv,aju]
 have hv:=(hgoes _ _ o Ec _ _ aeN).grow
 rw[wc] at hv
 refine hv.trans fun o' fr' cs' w' hx=> ?_
 obtain⟨⟨Eo,st,arW,ahx,vs,fn',rfl,rfl,hwo,aav,hto,hfn',hdr,hfin⟩,hou,hos⟩:=hx
 obtain⟨bs,mo',sn,t1,t2,t3,t4,t5,t6,t7⟩:=aau hfin
 have hbs:=JB t2
 have hbx:st.bx=jE 1 boxes.length:=by rw[aav.bx];exact Jv _ _
 rw[hbx] at hbs
 subst hbs
 obtain⟨v,hvv,hacc⟩:=yA (P:=P) T aav.ok aav.objs hto hdr
 have ajv:=yB (hacc _ ⟨rfl,rfl⟩)
 obtain⟨f1',_⟩:=T.fns _ fn' hfn'
 subst hwo
 obtain⟨evs,hst2⟩:=stepG_ret (main:=main) (todo:=ahx) (c:=frame s.cur.fn tmps (.inRegion ops (i::idx)::todo')) (cs:=cs) f1' ajv
 have hf:(frame s.cur.fn tmps (.inRegion ops (i::idx)::todo')).finish v=frame s.cur.fn ((Act.put ⟨tmps,[]⟩ op.dst v).tmps) (.inRegion ops idx::todo'):=by
  unfold frame
  rw[Frame.finish_at,hi]
  show (Conc.base s.cur.fn).at (Act.put ⟨tmps,[]⟩ op.dst v) _=_
  rw[put_defers]
 rw[hf] at hst2
 refine .step hst2 (Keeps.refl _ _) fun w3 hw3=> ?_
 rw[Ow.kV] at hw3⊢
 obtain⟨lv,hlv,hback⟩:=aeM hvv
 obtain⟨lb,hlb⟩:=MR hto t1
 rw[<- aav.objs] at t4 t7
 obtain⟨E2,k1,k2,k3,k4,k5⟩:=ahu g hh.ok hg hn w1 r1 g1 ok1 st1 l1 X3 aav.ok hou hos t4 t3 (pI hlv hlb) (lT hlv) t5 (zM t6) t7
 have ahy:=Hu (cs0:=cs0) (X:=X) (o':=o') (E':=E2) (s:=s) (cs:=cs) (tmps:=tmps) (todo:= .inRegion ops idx::todo') (dst:=op.dst) (rest:= .ops all rest::k) (v:=jr (cO boxes sg.rs rr s.aG).1) (u:=v) (es:=iP)
  ht2 hh.callers hh.bx hh.root (by rw[k2,hh.objs]) k3 k4 (hback E2 _ k5) hd (by rw[yC];exact htd)
 rw[<- k1] at hw3
 have hf3:=ahy.rely hR hw3
 rcases hkk with hkk|⟨rfl,rfl,hsame,hkk⟩
 ·exact hK _ _ _ _ hkk _ _ _ _ hf3
 ·refine MH (s:=after s op.dst (.ops all rest::k) (jr (cO boxes sg.rs rr s.aG).1) ((cO boxes sg.rs rr s.aG).2.1++(iQ []++s.objs)) (cO boxes sg.rs rr s.aG).2.2 []) (hK _ _ _ _ hkk) rfl rfl rfl (fun j=> ?_) rfl rfl rfl _ _ _ _ hf3
  show look s.objs j=look ((cO boxes sg.rs rr s.aG).2.1++s.objs) j
  rw[iR]
  cases hl:look (cO boxes sg.rs rr s.aG).2.1 j with
  |none=>rfl
  |some a=>exact hsame _ (qm hl)
end
end Go.E
end
