/- Cuts, moved slices, states. -/
import Derived.Test.YtmceeioelenigaaGreatDoorEe
section
namespace Go.E
section
variable {P:Program} {main:Bool} {Rl:Ow->World->World->Prop} {C:kC} {Rc:ah} {R:Type} {X:Ctx} {cs0:List Frame} {Stop:R->Ow->Frame->List Frame->World->Prop} {Rt:St->Option R} {fin:List AV->St->Option R}
theorem BK{fn:FuncId}{id:Nat}:∀ {k k':List It},vY id k=some k'->gy C fn k=true->gy C fn k'=true
 |[],k',h,_=>by cases h
 | .inBlock j::k,k',h,hd=>by
  have h:(bif Nat.beq j id then some k else vY id k)=some k':=h
  cases hb:Nat.beq j id with
  |true=>rw[hb] at h;cases h;exact hd
  |false=>rw[hb] at h;exact BK (k:=k) h hd
 | .code c::k,k',h,hd=>by
  have hd:(gZ C fn c&&gy C fn k)=true:=hd
  rw[Bool.and_eq_true] at hd
  exact BK (k:=k) h hd.2
 | .inLoop c::k,k',h,hd=>by
  have hd:(gZ C fn c&&gy C fn k)=true:=hd
  rw[Bool.and_eq_true] at hd
  exact BK (k:=k) h hd.2
 | .ops _ _::k,k',h,hd=>BK (k:=k) h hd
 | .drawn _ _ _ _ _::k,k',h,hd=>BK (k:=k) h hd
 | .wait _ _ _ _::k,k',h,hd=>BK (k:=k) h hd
theorem MI{f:Fr->Fr}(hf:∀ fr,(f fr).fn=fr.fn∧(f fr).td=fr.td):∀ (l:List Fr) (d:Nat),(mO f l d).map (fun f=>(f.fn,f.td))=l.map fun f=>(f.fn,f.td)
 |[],_=>rfl
 |x::r,0=>by show ((f x).fn,(f x).td)::_=_;rw[(hf x).1,(hf x).2];rfl
 |x::r,d+1=>by show _::(mO f r d).map _=_;rw[MI hf r d];rfl
theorem rH:∀ (l:Loc) (f:AV->AV) (s:St),fd (uD s l f)=fd s
 | .slot 0 i,f,s=>rfl
 | .slot (d+1) i,f,s=>by
  show (s.cur.fn,s.cur.td)::(mO (fun fr:Fr=>{fr with tm:=xk f i fr.tm}) s.callers d).map _=_
  rw[MI (f:=fun fr:Fr=>{fr with tm:=xk f i fr.tm}) (fun _=>⟨rfl,rfl⟩)];rfl
 | .cell l c,f,s=>by
  unfold uD
  split
  ·split<;>rfl
  ·exact rH l _ s
  ·exact rH l _ s
  ·exact rH l _ s
  ·rfl
theorem Ob(es:List Eff)(s:St):fd (zq es s)=fd s:=by
 cases es with
 |nil=>rfl
 |cons e r=>
  show _::List.map (fun f=>(f.fn,f.td)) (jG (e::r) s.callers)=_
  unfold jG
  rw[List.map_map];rfl
theorem aeI{l:Loc}{ts:aC}{b:Bool}{s s':St}(h:Zn l ts b s=some s'):fd s'=fd s:=by
 unfold Zn at h
 split at h
 ·cases h;exact rH l _ s
 ·split at h
  ·split at h
   ·obtain⟨_,h⟩:=aX h
    cases h
    rw[rH,Ob]
   ·cases h
  ·cases h
 ·cases h
theorem Rq:∀ {l:List (Loc×aC×Bool)} {s s':St},LG l s=some s'->fd s'=fd s
 |[],s,s',h=>by cases h;rfl
 |(l,ts,b)::r,s,s',h=>by
  unfold LG at h
  split at h
  ·rename_i s1 h1
   rw[Rq h,aeI h1]
  ·cases h
theorem Dt:∀ {l:List (Loc×Option aC)} {s:St},fd (su s l)=fd s
 |[],s=>rfl
 |(l,none)::r,s=>Dt (l:=r)
 |(l,some ts)::r,s=>by
  unfold su
  split
  ·rw[Dt (l:=r),rH];rfl
  ·exact Dt (l:=r)
theorem BL{m:List (Nat×Nat)}:∀ (l:List Fr) (ks:List (List Nat)),(lQ m l ks).map (fun f=>(f.fn,f.td))=l.map fun f=>(f.fn,f.td)
 |[],ks=>by cases ks<;>rfl
 |fr::r,[]=>by show _::(lQ m r []).map _=_;rw[BL r []];rfl
 |fr::r,k::ks=>by show _::(lQ m r ks).map _=_;rw[BL r ks];rfl
theorem BM:∀ (l:List Fr) (ks:List (List Nat)),(lS l ks).map (fun f=>(f.fn,f.td))=l.map fun f=>(f.fn,f.td)
 |[],ks=>by cases ks<;>rfl
 |fr::r,[]=>by show _::(lS r []).map _=_;rw[BM r []];rfl
 |fr::r,k::ks=>by show _::(lS r ks).map _=_;rw[BM r ks];rfl
theorem aam{t:dB}{s s':St}(h:canon t s=some s'):fd s'=fd s:=by
 unfold canon at h
 cases hraw:t.raw with
 |true=>
  rw[hraw,cond_true] at h
  split at h
  ·cases h;rfl
  ·split at h
   ·rename_i c cs hk
    cases h
    have:=BM (s.cur::s.callers) t.keep
    rw[hk] at this
    exact this
   ·cases h
 |false=>
  rw[hraw] at h
  dsimp only[cond_false] at h
  split at h
  ·rename_i s1 h1
   split at h
   ·rename_i m hm
    obtain⟨_,h⟩:=aX h
    split at h
    ·rename_i O hO
     split at h
     ·rename_i c cs hk
      cases h
      have:=BL (m:=m) ((su s1 t.Eb).cur::(su s1 t.Eb).callers) t.keep
      rw[hk] at this
      have h2:fd (su s1 t.Eb)=((su s1 t.Eb).cur::(su s1 t.Eb).callers).map fun f=>(f.fn,f.td):=rfl
      exact Eq.trans this (h2.symm.trans ((Dt (l:=t.Eb) (s:=s1)).trans (Rq h1)))
     ·cases h
    ·cases h
   ·cases h
  ·cases h
theorem Ji(L:IV P main Rl C Rc X cs0 Stop Rt fin):∀ (n:Nat) (fresh:Bool) (s:St) (r:R),GI C s->jf C Rc Rt fin n fresh s=some r->Goes P main Rl X cs0 (Stop r) s:=by
 intro n
 induction n using Nat.strongRecOn with
 | _ n IH=>
 intro fresh s r hsd hr
 cases n with
 |zero=>cases hr
 |succ n=>
  have ih:∀ s,jf C Rc Rt fin n false s=some r->GI C s->Goes P main Rl X cs0 (Stop r) s:=fun s h hs=>IH n (Nat.lt_succ_self n) false s r hs h
  have hkw:∀ (s2:St) (ps:List Nat) (ops:Array Oper) (rest:List (Nat×List Nat)) (kk:List It) (σ:List Nat) (rest':List Oper),jf C Rc Rt fin n false (pz s2 (some ps) ops.toList rest kk)=some r->GI C (qc s2 kk)->Left ps ops.toList rest σ->σ.map (ops[·]?)=rest'.map some->Goes P main Rl X cs0 (Stop r) (qc s2 (.ops ops.toList rest'::kk)):=
   fun s2 ps ops rest kk σ rest' h hs ⟨an,D,ha,hp⟩ hm=>Ro L h hp ha hm hs fun m hm s hs hh=>IH m (Nat.lt_succ_of_lt hm) false s r hs hh
  have toK:∀ c b td,(gy C s.cur.fn s.cur.td=true->gy C s.cur.fn td=true)->GI C (qc (pq s c b) td):=fun c b td h p hp=>by
   have hp:p∈(s.cur.fn,td)::s.callers.map fun f=>(f.fn,f.td):=by cases c<;>exact hp
   rcases List.mem_cons.1 hp with e|hp
   ·subst e;exact h (hsd (s.cur.fn,s.cur.td) aee)
   ·exact hsd p (aef _ hp)
  have ajn:gy C s.cur.fn s.cur.td=true:=hsd (s.cur.fn,s.cur.td) aee
  have toD:∀ td,(gy C s.cur.fn s.cur.td=true->gy C s.cur.fn td=true)->GI C (qc s td):=fun td h p hp=>by
   rcases List.mem_cons.1 hp with e|hp
   ·subst e;exact h ajn
   ·exact hsd p (aef _ hp)
  unfold jf at hr
  dsimp only at hr
  split at hr
  ·
   rename_i htd
   exact IW L (k:=jf C Rc Rt fin n false) hr hsd ih hkw (.inl htd)
  ·rename_i id k htd
   refine pU L.rely (ih _ hr (toD _ (by rw[htd];exact fun h=>h))) fun tmps todo h=> ?_
   rw[htd] at h;obtain⟨y,ys,rfl,e,h2⟩:=uJ h
   have e:y= .inBlock id:=e
   subst e
   exact⟨ys,h2,fun cs w=>⟨_,Conc.stepG_inBlock⟩⟩
  ·rename_i b k htd
   refine pU L.rely (ih _ hr (toD _ (by rw[htd];intro h;simp only[gy,gZ,Bool.and_eq_true,Bool.true_and] at h ⊢;simp[h]))) fun tmps todo h=> ?_
   rw[htd] at h;obtain⟨y,ys,rfl,⟨rfl,e⟩,h2⟩:=uJ h
   exact⟨_,lD ⟨rfl,e⟩ (lD ⟨rfl,e⟩ h2),fun cs w=>⟨_,Conc.stepG_inLoop⟩⟩
  ·rename_i k htd
   refine pU L.rely (ih _ hr (toD _ (by rw[htd];intro h;simp only[gy,gZ,Bool.and_eq_true,Bool.true_and] at h ⊢;simp[h]))) fun tmps todo h=> ?_
   rw[htd] at h;obtain⟨y,ys,rfl,⟨rfl,e⟩,h2⟩:=uJ h
   exact⟨ys,h2,fun cs w=>⟨_,Conc.stepG_skip⟩⟩
  ·rename_i a b k htd
   refine pU L.rely (ih _ hr (toD _ (by rw[htd];intro h;simp only[gy,gZ,Bool.and_eq_true,Bool.true_and] at h ⊢;simp[h]))) fun tmps todo h=> ?_
   rw[htd] at h;obtain⟨y,ys,rfl,⟨rfl,e⟩,h2⟩:=uJ h
   unfold codeOk at e
   simp only[Bool.and_eq_true] at e
   exact⟨_,lD ⟨rfl,e.1⟩ (lD ⟨rfl,e.2⟩ h2),fun cs w=>⟨_,Conc.stepG_seq⟩⟩
  ·
   rename_i c x y k htd
   split at hr
   ·rename_i t hc
    intro o E fr cs h
    obtain⟨tmps,todo,rfl,ht,h1⟩:=h.at
    rw[htd] at h1;obtain⟨z,ys,rfl,⟨rfl,e⟩,h2⟩:=uJ h1
    unfold codeOk at e
    simp only[Bool.and_eq_true] at e
    have ec:=dR (a:=⟨tmps,[]⟩) ht hc
    unfold VR at ec
    have hst:=Conc.stepG_cond (P:=P) (main:=main) (b:=Conc.base s.cur.fn) (a:=⟨tmps,[]⟩) (k:=ys) (cs:=cs) (w:=E.w) (x:=x) (y:=y) ec
    refine .step hst (Keeps.refl _ _) fun w2 hw2=> ?_
    rw[Ow.kV] at hw2⊢
    have hkn:=ZV (b:=t) h hc
    obtain⟨tm',td',e1,e2,_⟩:=hkn.cur
    have efn:(pq s c t).cur.fn=s.cur.fn:=by cases c<;>rfl
    have etm:tm'=tmps:=by
     rw[efn] at e1
     have:=congrArg Frame.tmps e1
     exact this.symm
    subst etm
    cases t with
    |true=>
     have h':qW X o E (qc (pq s c true) (.code x::k)) cs0 (frame s.cur.fn tm' (.code x::ys)) cs:=
      ⟨hkn.ok,hkn.objs,⟨tm',_,by show _=frame (pq s c true).cur.fn _ _;rw[efn],e2,lD ⟨rfl,e.1⟩ h2⟩,hkn.callers,hkn.bx,(iW (qc (pq s c true) (.code x::k)).cur (pq s c true).cur _ rfl).trans hkn.root⟩
     exact ih _ hr (toK c true _ (by rw[htd];intro h;simp only[gy,gZ,Bool.and_eq_true,Bool.true_and] at h ⊢;simp[h])) _ _ _ _ (h'.rely L.rely hw2)
    |false=>
     have h':qW X o E (qc (pq s c false) (.code y::k)) cs0 (frame s.cur.fn tm' (.code y::ys)) cs:=
      ⟨hkn.ok,hkn.objs,⟨tm',_,by show _=frame (pq s c false).cur.fn _ _;rw[efn],e2,lD ⟨rfl,e.2⟩ h2⟩,hkn.callers,hkn.bx,(iW (qc (pq s c false) (.code y::k)).cur (pq s c false).cur _ rfl).trans hkn.root⟩
     exact ih _ hr (toK c false _ (by rw[htd];intro h;simp only[gy,gZ,Bool.and_eq_true,Bool.true_and] at h ⊢;simp[h])) _ _ _ _ (h'.rely L.rely hw2)
   ·cases hr
  ·rename_i id b k htd
   refine pU L.rely (ih _ hr (toD _ (by rw[htd];intro h;simp only[gy,gZ,Bool.and_eq_true,Bool.true_and] at h ⊢;simp[h]))) fun tmps todo h=> ?_
   rw[htd] at h;obtain⟨y,ys,rfl,⟨rfl,e⟩,h2⟩:=uJ h
   exact⟨_,lD ⟨rfl,e⟩ (lD (y:= .inBlock id) rfl h2),fun cs w=>⟨_,Conc.stepG_block⟩⟩
  ·rename_i b k htd
   refine pU L.rely (ih _ hr (toD _ (by rw[htd];intro h;simp only[gy,gZ,Bool.and_eq_true,Bool.true_and] at h ⊢;simp[h]))) fun tmps todo h=> ?_
   rw[htd] at h;obtain⟨y,ys,rfl,⟨rfl,e⟩,h2⟩:=uJ h
   exact⟨_,lD ⟨rfl,e⟩ (lD ⟨rfl,e⟩ h2),fun cs w=>⟨_,Conc.stepG_loop⟩⟩
  ·rename_i id k htd
   split at hr
   ·rename_i k' hk'
    refine pU L.rely (ih _ hr (toD _ (by rw[htd];exact BK hk'))) fun tmps todo h=> ?_
    rw[htd] at h;obtain⟨y,ys,rfl,⟨rfl,e⟩,h2⟩:=uJ h
    obtain⟨t,h3,h4⟩:=Ew hk' h2
    exact⟨t,h4,fun cs w=>⟨_,Conc.stepG_exit h3⟩⟩
   ·cases hr
  ·rename_i k htd
   exact IW L (k:=jf C Rc Rt fin n false) hr hsd ih hkw (.inr ⟨_,htd⟩)
  ·
   rename_i id ops dr k htd
   have go:(bif dr then match Bd s.cur.fn id C.nV with
     |some (o::os)=>sameAll (jf C Rc Rt fin n false (pz s (rX s.cur.fn id C.nV) ops.toList o k)) (os.map fun o=>jf C Rc Rt fin n false (pz s (rX s.cur.fn id C.nV) ops.toList o k))
     | _=>none
    else jf C Rc Rt fin n false (qc s (.ops ops.toList ops.toList::k)))=some r->Goes P main Rl X cs0 (Stop r) s:=fun hr=>by
    cases dr with
    |false=>
     rw[cond_false] at hr
     refine pU L.rely (ih _ hr (toD _ (by rw[htd];intro h;simp only[gy,gZ,Bool.and_eq_true] at h ⊢;exact h.2))) fun tmps todo h=> ?_
     rw[htd] at h;obtain⟨y,ys,rfl,⟨rfl,e⟩,h2⟩:=uJ h
     unfold codeOk at e
     exact⟨_,lD ⟨ops,List.range ops.size,rfl,rfl,e,XK ops⟩ h2,fun cs w=>⟨_,Conc.stepG_region⟩⟩
    |true=>
     rw[cond_true] at hr
     have hdr:(!true||(match Bd s.cur.fn id C.nV with|some os=>V5 (Ej C (rX s.cur.fn id C.nV) ops.toList) ops.toList os|none=>false))=true:=by
      have:=ajn
      rw[htd] at this
      simp only[gy,gZ,Bool.and_eq_true] at this
      exact this.1
     rw[Bool.not_true,Bool.false_or] at hdr
     split at hr
     ·rename_i o os ajo
      rw[ajo] at hdr
      obtain⟨h1,h2⟩:=Ri hr
      refine Oa L L.tys.mixed htd hsd hdr (fun ord hord=> ?_) fun m hm s hs hh=>IH m (Nat.lt_succ_of_lt hm) false s r hs hh
      rcases List.mem_cons.1 hord with e|hord
      ·rw[e];exact h1
      ·exact h2 _ (List.mem_map.2 ⟨ord,hord,rfl⟩)
     ·cases hr
   cases fresh with
   |true=>exact go hr
   |false=>
    dsimp only[cond_false] at hr
    split at hr
    ·rename_i t ht
     split at hr
     ·rename_i s' hs'
      intro o E fr cs h
      obtain⟨E',he,h'⟩:=L.canon t s s' hs' o E fr cs h
      rw[<- he]
      exact L.back s' r hr (fun p hp=>hsd p (by rw[<- aam hs'];exact hp)) o E' fr cs h'
     ·cases hr
    ·exact go hr
  ·
   rename_i pins all watch base k htd
   intro o E fr cs h
   obtain⟨tmps,todo,rfl,ht,h1⟩:=h.at
   rw[htd] at h1
   obtain⟨y,ys,_,e,_⟩:=h1
   exact e.elim
  ·rename_i pins all i an rest watch base k htd
   intro o E fr cs h
   obtain⟨tmps,todo,rfl,ht,h1⟩:=h.at
   rw[htd] at h1
   obtain⟨y,ys,_,e,_⟩:=h1
   exact e.elim
  ·rename_i all k htd
   refine pU L.rely (ih _ hr (toD _ (by rw[htd];exact fun h=>h))) fun tmps todo h=> ?_
   rw[htd] at h;obtain⟨y,ys,rfl,⟨ops,idx,rfl,rfl,e,hi⟩,h2⟩:=uJ h
   have:idx=[]:=by cases idx with
    |nil=>rfl
    |cons _ _=>simp at hi
   subst this
   exact⟨ys,h2,fun cs w=>⟨_,Conc.stepG_region_end⟩⟩
  ·
   rename_i all op rest k htd
   intro o E fr cs h
   obtain⟨tmps,todo,rfl,ht,h1⟩:=h.at
   have h1':=h1
   rw[htd] at h1'
   obtain⟨ops,i,idx,todo',e1,e2,e3,e4,e5,e6,_⟩:=Wu h1'
   subst e2
   have wr:=QK (o:=op) ht e3
   have kn:∀ d b,look s.cur.tm d=some (.bool b)->qW X o E (know s d b) cs0 (frame (know s d b).cur.fn tmps todo) cs∧kD E (know s d b).cur.tm tmps:=by
    intro d b hb
    have:=Uj h hb
    obtain⟨tm',td',q1,q2,_⟩:=this.cur
    have:tm'=tmps:=(congrArg Frame.tmps q1).symm
    subst this
    exact⟨Uj h hb,q2⟩
   split at hr
   ·rename_i hw
    exact sK L htd hsd ih h ht e1 e4 e5 e6 h1 (wr.2.1 hw) hr
   ·rename_i hw
    exact Hw L.rely h ht e1 e4 e5 e6 (wr.2.2 hw) (ih _ hr (Dj hsd (by rw[htd];exact fun h=>h)))
   ·rename_i d b hw
    obtain⟨w1,w2⟩:=wr.1 hw
    obtain⟨k1,k2⟩:=kn d b w1
    cases b with
    |true=>exact sK L (s:=know s d true) htd hsd ih k1 k2 e1 e4 e5 e6 h1 w2 hr
    |false=>exact Hw (s:=know s d false) L.rely k1 k2 e1 e4 e5 e6 w2 (ih _ hr (Dj (s:=know s d _) hsd (by show gy C s.cur.fn s.cur.td=true->_;rw[htd];exact fun h=>h)))
   ·rename_i d b hw
    obtain⟨w1,w2⟩:=wr.1 hw
    obtain⟨k1,k2⟩:=kn d b w1
    cases b with
    |true=>exact Hw (s:=know s d true) L.rely k1 k2 e1 e4 e5 e6 w2 (ih _ hr (Dj (s:=know s d _) hsd (by show gy C s.cur.fn s.cur.td=true->_;rw[htd];exact fun h=>h)))
    |false=>exact sK L (s:=know s d false) htd hsd ih k1 k2 e1 e4 e5 e6 h1 w2 hr
   ·cases hr
  ·cases hr
end
end Go.E
end
section
namespace Go.E
section
variable {X:Ctx} {cs0:List Frame} {o:Ow}
theorem wH{E:Env}{f:AV->AV}:∀ {cs:List AV} {l:List Value} {c:Nat} {v:AV},dG E cs l->nth cs c=some v->(∀ u,VR E v u->VR E (f v) u)->dG E (mO f cs c) l
 |[],_,_,_,_,h,_=>by cases h
 |x::xs,l,0,v,h,hn,hf=>by
  cases hn
  unfold dG at h;obtain⟨u,q,rfl,h1,h2⟩:=h
  show dG E (f x::xs) _
  unfold dG;exact⟨u,q,rfl,hf u h1,h2⟩
 |x::xs,l,c+1,v,h,hn,hf=>by
  unfold dG at h;obtain⟨u,q,rfl,h1,h2⟩:=h
  show dG E (x::mO f xs c) _
  unfold dG;exact⟨u,q,rfl,h1,wH h2 hn hf⟩
theorem Jj{f:AV->AV}{i:Nat}:∀ (tm:List (Nat×AV)) (t:Nat),look (xk f i tm) t=if t=i then (look tm t).map f else look tm t
 |[],t=>by show none=_;split<;>rfl
 |(j,v)::r,t=>by
  unfold xk
  by_cases e:j=i
  ·subst e
   rw[Nat.beq_refl]
   show (bif Nat.beq j t then some (f v) else look r t)=if t=j then (bif Nat.beq j t then some v else look r t).map f else (bif Nat.beq j t then some v else look r t)
   by_cases x:j=t
   ·subst x;simp
   ·rw[cZ x,if_neg (fun y=>x y.symm)];rfl
  ·rw[cZ e]
   show (bif Nat.beq j t then some v else look (xk f i r) t)=if t=i then (bif Nat.beq j t then some v else look r t).map f else (bif Nat.beq j t then some v else look r t)
   rw[Jj r]
   by_cases x:j=t
   ·subst x;rw[Nat.beq_refl,if_neg e,if_neg e]
   ·rw[cZ x];rfl
theorem kD.map{E:Env}{tm:List (Nat×AV)}{tmps:Array Value}{f:AV->AV}{i:Nat}{v:AV}(h:kD E tm tmps)(hv:look tm i=some v)(hf:∀ u,VR E v u->VR E (f v) u):kD E (xk f i tm) tmps:=by
 refine⟨fun t x hx=> ?_,h.2⟩
 rw[Jj] at hx
 split at hx
 ·rename_i e;subst e
  rw[hv] at hx;cases hx
  exact hf _ (h.1 t v hv)
 ·exact h.1 t x hx
theorem xC.map{E:Env}{f:AV->AV}{i:Nat}{v:AV}(hf:∀ u,VR E v u->VR E (f v) u):∀ {KP:List Fr} {l:List Frame} {d:Nat} {fr:Fr},xC E KP l->nth KP d=some fr->look fr.tm i=some v->xC E (mO (fun fr=>{fr with tm:=xk f i fr.tm}) KP d) l
 |[],_,_,_,_,h,_=>by cases h
 |x::xs,_,0,fr,⟨y,ys,e,⟨tmps,todo,e1,e2,e3⟩,h2⟩,hn,hv=>by
  cases hn
  exact⟨y,ys,e,⟨tmps,todo,e1,e2.map hv hf,e3⟩,h2⟩
 |x::xs,_,d+1,fr,⟨y,ys,e,h1,h2⟩,hn,hv=>⟨y,ys,e,h1,xC.map hf h2 hn hv⟩
theorem aan{E:Env}{aG id:Nat}{cs cs':List AV}(h:OK X o E aG)(hl:look E.O id=some (.box cs))(hc:∀ l,dG E cs l->dG E cs' l):
  let E':Env:={E with O:=(id,.box cs')::E.O}
  OK X o E' aG∧Step E E' []:=by
 intro E'
 have XB:look E'.O id=some (.box cs'):=dA _ _ _
 have lk:∀ i,i≠id->look E'.O i=look E.O i:=fun i hi=>fU _ _ (fun x=>hi x.symm)
 have hk:Keep E E' fun _=>False:=by
  refine⟨fun b hb=>⟨hb,rfl⟩,fun b hb=>⟨hb,rfl⟩,fun i _ ts rows wr hl'=> ?_,fun i cs1 hl'=> ?_,fun i m hl'=> ?_⟩
  ·have x:i≠id:=fun x=>by rw[x,hl] at hl';cases hl'
   exact⟨by rw[lk i x];exact hl',rfl,fun b hb=>rfl⟩
  ·by_cases x:i=id
   ·subst x;exact⟨cs',XB,rfl⟩
   ·exact⟨cs1,by rw[lk i x];exact hl',rfl⟩
  ·have x:i≠id:=fun x=>by rw[x,hl] at hl';cases hl'
   exact⟨m,by rw[lk i x];exact hl',rfl⟩
 refine⟨h.next hk.step (fun i=>i=id) (fun b hb=>rfl) (Nat.le_refl _) (fun _ hb=>hb) rfl (fun _ hb=>hb) (fun _ hb=>hb) h.us (Nat.le_refl _) ?_ ?_ ?_ h.zx,hk.step⟩
 ·intro i x hi hne
  rw[lk i hne] at hi
  exact⟨x,hi,(lV x).symm,fun l=>⟨rfl,fun b hb=>⟨(h.own i b ⟨x,hi,l⟩ hb).2.1,rfl⟩⟩⟩
 ·intro i x hi hi'
  subst hi
  rw[XB] at hi'
  cases hi'
  have:=h.num i _ hl
  refine⟨this.1,this.2,?_⟩
  obtain⟨b,c,t,f,e1,e2,e3,e4⟩:=h.obj i _ hl
  exact⟨b,c,t,f,e1,e2,e3,hk.step.oZ (hc _ e4)⟩
 ·intro i b hi _ hb
  subst hi
  have:=h.own i b ⟨_,hl,rfl⟩ hb
  refine⟨this.1,this.2.1,this.2.2.1,this.2.2.2,?_⟩
  rintro j ⟨x,hj,l⟩ hj'
  by_cases y:j=i
  ·exact y
  ·rw[lk j y] at hj
   exact h.inj j i b ⟨x,hj,l⟩ ⟨_,hl,rfl⟩ hj' hb
theorem AA{f:Fr->Fr}(hf:∀ fr,(f fr).fn=fr.fn):∀ (c:Fr) (r:List Fr) (d:Nat),kX c (mO f r d)=kX c r
 | _,[],_=>rfl
 | _,x::r,0=>iW (f x) x r (hf x)
 | _,x::r,d+1=>AA hf x r d
theorem vM:∀ (l:Loc) (f:AV->AV) {s:St} {E:Env} {fr:Frame} {cs:List Frame} {v:AV},qW X o E s cs0 fr cs->rZ s l=some v->(∀ u,VR E v u->VR E (f v) u)->
  ∃ O',qW X o {E with O:=O'} (uD s l f) cs0 fr cs∧Step E {E with O:=O'} []
 | .slot 0 i,f,s,E,fr,cs,v,h,hl,hf=>by
  refine⟨E.O,⟨h.ok,h.objs,?_,h.callers,h.bx,(iW {s.cur with tm:=xk f i s.cur.tm} s.cur s.callers rfl).trans h.root⟩,Step.refl E⟩
  obtain⟨tmps,todo,e1,e2,e3⟩:=h.cur
  exact⟨tmps,todo,e1,e2.map (v:=v) hl hf,e3⟩
 | .slot (d+1) i,f,s,E,fr,cs,v,h,hl,hf=>by
  refine⟨E.O,⟨h.ok,h.objs,h.cur,?_,h.bx,(AA (f:=fun fr=>{fr with tm:=xk f i fr.tm}) (fun _=>rfl) s.cur s.callers d).trans h.root⟩,Step.refl E⟩
  obtain⟨cs1,e,hc⟩:=h.callers
  have hl:(match nth s.callers d with|some fr=>look fr.tm i|none=>none)=some v:=hl
  split at hl
  ·rename_i fr' hn
   exact⟨cs1,e,hc.map hf hn hl⟩
  ·cases hl
 | .cell l c,f,s,E,fr,cs,v,h,hl,hf=>by
  unfold rZ at hl
  cases hq:rZ s l with
  |none=>rw[hq] at hl;cases hl
  |some q=>
   rw[hq] at hl
   unfold uD
   rw[hq]
   cases q with
   |ptr id off=>
    dsimp only at hl⊢
    cases ho:look s.objs id with
    |none=>rw[ho] at hl;cases hl
    |some a=>
     rw[ho] at hl
     cases a with
     |box bs=>
      dsimp only at hl⊢
      have hlo:look E.O id=some (.box bs):=by rw[h.objs];exact ho
      obtain⟨h1,h2⟩:=aan h.ok hlo (cs':=mO f bs (off+c)) fun l hl'=>wH hl' hl hf
      obtain⟨cs1,e,hc⟩:=h.callers
      exact⟨(id,.box (mO f bs (off+c)))::E.O,⟨h1,by rw[<- h.objs],h.cur.step0 h2,⟨cs1,e,hc.step0 h2⟩,h.bx,h.root⟩,h2⟩
     | _=>cases hl
   |agg bs=>
    dsimp only at hl⊢
    refine vM l (fun _=> .agg (mO f bs c)) h hq fun u hu=> ?_
    unfold VR at hu⊢
    obtain⟨x,rfl,hx⟩:=hu
    exact⟨x,rfl,wH hx hl hf⟩
   |func fn a bs=>
    dsimp only at hl⊢
    refine vM l (fun _=> .func fn a (mO f bs c)) h hq fun u hu=> ?_
    unfold VR at hu⊢
    obtain⟨x,y,rfl,hx,hy⟩:=hu
    exact⟨x,y,rfl,hx,wH hy hl hf⟩
   |iface t b=>
    dsimp only at hl⊢
    cases hl
    refine vM l (fun _=> .iface t (f v)) h hq fun u hu=> ?_
    unfold VR at hu⊢
    obtain⟨x,rfl,hx⟩:=hu
    exact⟨x,rfl,hf x hx⟩
   | _=>cases hl
end
end Go.E
end
section
namespace Go.E
section
variable {X:Ctx} {cs0:List Frame} {o:Ow}
theorem Ru{s:St}{E E':Env}{fr:Frame}{cs:List Frame}{es:List Eff}(h:qW X o E s cs0 fr cs)(hok:OK X o E' s.aG)(hs:Step E E' es)(hl:∀ i,look E'.O i=look (dw es E.O) i):
  ∃ O',qW X o {E' with O:=O'} (zq es s) cs0 fr cs∧Step E {E' with O:=O'} es∧∀ i,look O' i=look E'.O i:=by
 obtain⟨h1,h2⟩:=hok.zy (O':=dw es E.O) fun i=>(hl i).symm
 have h3:=hs.trans h2
 rw[List.append_nil] at h3
 obtain⟨cs1,e,hc⟩:=h.callers
 refine⟨dw es E.O,?_,h3,fun i=>(hl i).symm⟩
 cases es with
 |nil=>exact⟨h1,h.objs,h.cur.step0 h3,⟨cs1,e,hc.step0 h3⟩,h.bx,h.root⟩
 |cons x r=>exact⟨h1,by show dw (x::r) E.O=_;rw[h.objs];rfl,h.cur.step h3,⟨cs1,e,hc.step h3⟩,h.bx,(yw (x::r) s.cur s.callers _ _).trans h.root⟩
theorem AB{TK:Bool}:∀ {deps:List Nat},Qx TK deps=true->∀ i∈deps,i=foreign∧TK=true
 |j::r,h,i,hi=>by
  unfold Qx at h
  simp only[Bool.and_eq_true] at h
  rcases List.mem_cons.1 hi with rfl|hi
  ·exact⟨aeh h.1.1,h.1.2⟩
  ·exact AB h.2 i hi
theorem XZ{E:Env}{TK:Bool}{deps:List Nat}{ts:aC}{rows:List ts.D}{v:Value}(h:TL E deps ts rows v)(hf:Qx TK deps=true):TL E (bif TK then [foreign] else []) ts rows v:=by
 refine nC ?_ (fun b hb=>⟨hb,rfl⟩) h
 intro b e c t f hb hc
 refine⟨?_,c,t,f,hc,rfl⟩
 rcases hb with hb|⟨i,hi,hb⟩
 ·exact .inl hb
 ·obtain⟨e1,e2⟩:=AB hf i hi
  subst e2
  exact .inr ⟨i,by rw[e1];exact aee,hb⟩
theorem aht{l:Loc}{ts:aC}{TK:Bool}{s s':St}{E:Env}{fr:Frame}{cs:List Frame}(h:qW X o E s cs0 fr cs)(hr:Zn l ts TK s=some s'):∃ E':Env,E'.w=E.w∧qW X o E' s' cs0 fr cs:=by
 unfold Zn at hr
 split at hr
 ·rename_i hl
  have hr':=Option.some.inj hr
  subst hr'
  obtain⟨O',h1,_⟩:=vM l (fun _=> .ro ts [] (bif TK then [foreign] else [])) h hl fun u hu=>by
   unfold VR at hu ⊢;subst hu
   exact⟨_,_,_,rfl,rfl,Nat.le_refl _,fun x=>absurd rfl x⟩
  exact⟨{E with O:=O'},rfl,h1⟩
 ·split at hr
  ·rename_i es hes
   split at hr
   ·rename_i ts' rows deps hl2
    obtain⟨hb,hr⟩:=aX hr
    simp only[Bool.and_eq_true] at hb
    have hr':=Option.some.inj hr
    subst hr'
    rw[<- h.objs] at hes
    obtain⟨q1,q2⟩:=mX hes
    obtain⟨E1,w1,r1,f1,l1,ok1,st1,n1,m1⟩:=uZ q1 h.ok fun _ _ _ _ hx=> .inl hx
    obtain⟨O',h1,h2,_⟩:=Ru h ok1 st1 l1
    obtain⟨O'',h3,_⟩:=vM l (fun _=> .ro ts' rows (bif TK then [foreign] else [])) h1 hl2 fun u hu=>by
     unfold VR at hu ⊢;exact XZ hu hb.2
    exact⟨{E1 with O:=O''},w1,h3⟩
   ·cases hr
  ·cases hr
 ·cases hr
theorem WE:∀ {l:List (Loc×aC×Bool)} {s s':St} {E:Env} {fr:Frame} {cs:List Frame},qW X o E s cs0 fr cs->LG l s=some s'->∃ E':Env,E'.w=E.w∧qW X o E' s' cs0 fr cs
 |[],s,s',E,fr,cs,h,hr=>by cases hr;exact⟨E,rfl,h⟩
 |(l,ts,b)::r,s,s',E,fr,cs,h,hr=>by
  unfold LG at hr
  split at hr
  ·rename_i s1 h1
   obtain⟨E1,w1,k1⟩:=aht h h1
   obtain⟨E2,w2,k2⟩:=WE k1 hr
   exact⟨E2,w2.trans w1,k2⟩
  ·cases hr
theorem Jk{s:St}{n:Nat}{x:AO}{m:Nat}(hf:look s.objs n=none):∀ {l:Loc} {v:AV},rZ s l=some v->rZ {s with objs:=(n,x)::s.objs,aG:=m} l=some v
 | .slot 0 i,v,h=>h
 | .slot (d+1) i,v,h=>h
 | .cell l c,v,h=>by
  unfold rZ at h⊢
  cases hq:rZ s l with
  |none=>rw[hq] at h;cases h
  |some q=>
   rw[hq] at h
   rw[Jk hf hq]
   cases q with
   |ptr id off=>
    dsimp only at h⊢
    have:n≠id:=fun e=>by subst e;rw[hf] at h;cases h
    rw[fU _ _ this];exact h
   | _=>exact h
theorem H6:∀ {l:List (Loc×Option aC)} {s:St} {E:Env} {fr:Frame} {cs:List Frame},qW X o E s cs0 fr cs->∃ E':Env,E'.w=E.w∧qW X o E' (su s l) cs0 fr cs
 |[],s,E,fr,cs,h=>⟨E,rfl,h⟩
 |(l,none)::r,s,E,fr,cs,h=>H6 (l:=r) h
 |(l,some ts)::r,s,E,fr,cs,h=>by
  unfold su
  split
  ·rename_i hl
   obtain⟨h1,h2⟩:=V7 h.ok ts true
   obtain⟨cs1,e,hc⟩:=h.callers
   have h3:qW X o {E with ρ:=upd E.ρ s.aG ⟨none,0⟩,O:=(s.aG,.arr ts [] true)::E.O} {s with objs:=(s.aG,.arr ts [] true)::s.objs,aG:=s.aG+1} cs0 fr cs:=
    ⟨h2,by rw[<- h.objs],h.cur.step0 h1,⟨cs1,e,hc.step0 h1⟩,h.bx,h.root⟩
   have hl':rZ {s with objs:=(s.aG,.arr ts [] true)::s.objs,aG:=s.aG+1} l=some .aT:=
    Jk (by have:=h.ok.fresh;rw[h.objs] at this;exact this) hl
   obtain⟨O',h4,_⟩:=vM l (fun _=> .own s.aG) h3 hl' fun u hu=>by
    unfold VR at hu;subst hu
    unfold VR
    refine⟨ts,[],true,dA _ _ _,?_⟩
    show _=Value.slice ((upd E.ρ s.aG _ s.aG).b.map _) _ (upd E.ρ s.aG _ s.aG).cap
    rw[kK];rfl
   obtain⟨E2,w2,k2⟩:=H6 (l:=r) h4
   exact⟨E2,w2,k2⟩
  ·exact H6 (l:=r) h
end
end Go.E
end
section
namespace Go.E
section
variable {X:Ctx} {cs0:List Frame} {o:Ow}
theorem qm{α:Type}:∀ {l:List (Nat×α)} {i:Nat} {a:α},look l i=some a->(i,a)∈l
 |(j,b)::r,i,a,h=>by
  have h:(bif Nat.beq j i then some b else look r i)=some a:=h
  by_cases e:j=i
  ·subst e;rw[Nat.beq_refl] at h;cases h;exact aee
  ·rw[cZ e] at h;exact aef _ (qm h)
theorem Jl:∀ {m:List (Nat×Nat)} {i j:Nat},CS m=true->(i,j)∈m->look m i=some j
 |(a,b)::r,i,j,hn,h=>by
  unfold CS at hn
  simp only[Bool.and_eq_true] at hn
  show (bif Nat.beq a i then some b else look r i)=some j
  rcases List.mem_cons.1 h with e|h
  ·cases e;rw[Nat.beq_refl];rfl
  ·have:=Jl hn.2 h
   by_cases e:a=i
   ·subst e;rw[this] at hn;simp at hn
   ·rw[cZ e];exact this
theorem MJ{s:St}:∀ {l:List (Loc×Option aC)} {n:Nat} {m:List (Nat×Nat)},Qw s l n=some m->(∀ i j,(i,j)∈m->n<=j∧j<n+l.length)∧∀ i i' j,(i,j)∈m->(i',j)∈m->i=i'
 |[],n,m,h=>by cases h;exact⟨fun _ _ x=>(by cases x),fun _ _ _ x=>(by cases x)⟩
 |(l,q)::r,n,m,h=>by
  unfold Qw at h
  have gen:∀ (id:Nat) (m':List (Nat×Nat)),Qw s r (n+1)=some m'->m=(id,n)::m'->(∀ i j,(i,j)∈m->n<=j∧j<n+((l,q)::r).length)∧∀ i i' j,(i,j)∈m->(i',j)∈m->i=i':=by
   intro id m' h1 e
   subst e
   obtain⟨k1,k2⟩:=MJ h1
   refine⟨fun i j hm=> ?_,fun i i' j hm hm'=> ?_⟩
   ·simp only[List.length_cons]
    rcases List.mem_cons.1 hm with e|hm
    ·cases e;omega
    ·have:=k1 i j hm;omega
   ·rcases List.mem_cons.1 hm with e|hm<;>rcases List.mem_cons.1 hm' with e'|hm'
    ·cases e;cases e';rfl
    ·cases e;have:=k1 _ _ hm';omega
    ·cases e';have:=k1 _ _ hm;omega
    ·exact k2 i i' j hm hm'
  split at h
  ·rename_i id off m' _ h2;cases h;exact gen id m' h2 rfl
  ·rename_i id m' _ h2;cases h;exact gen id m' h2 rfl
  ·rename_i id _ _ m' _ h2;cases h;exact gen id m' h2 rfl
  ·rename_i id m' _ h2;cases h;exact gen id m' h2 rfl
  ·cases h
def Jm(m:List (Nat×Nat)):AO->AO
 | .box cs=> .box (qy m cs)
 |a=>a
def Oe:AO->Bool
 | .map d=>Zj d
 | _=>true
theorem Du{m:List (Nat×Nat)}{O:bn}:∀ {l:List (Nat×Nat)} {O':bn},CQ m O l=some O'->
  (∀ j a',look O' j=some a'->∃ i a,(i,j)∈l∧look O i=some a∧live a=true∧a'=Jm m a∧Oe a=true)∧∀ i j,(i,j)∈l->(∀ i',(i',j)∈l->i'=i)->∃ a,look O i=some a∧live a=true∧look O' j=some (Jm m a)
 |[],O',h=>by cases h;exact⟨fun _ _ x=>(by cases x),fun _ _ x=>(by cases x)⟩
 |(i,j)::r,O',h=>by
  unfold CQ at h
  have gen:∀ (a:AO) (O1:bn),look O i=some a->live a=true->Oe a=true->CQ m O r=some O1->O'=(j,Jm m a)::O1->
    (∀ j' a',look O' j'=some a'->∃ i' a,(i',j')∈((i,j)::r)∧look O i'=some a∧live a=true∧a'=Jm m a∧Oe a=true)∧∀ i' j',(i',j')∈((i,j)::r)->(∀ i'',(i'',j')∈((i,j)::r)->i''=i')->∃ a,look O i'=some a∧live a=true∧look O' j'=some (Jm m a):=by
   intro a O1 h1 hl hf h2 e
   subst e
   obtain⟨k1,k2⟩:=Du h2
   refine⟨fun j' a' hj=> ?_,fun i' j' hm hu=> ?_⟩
   ·by_cases e:j=j'
    ·subst e
     rw[dA] at hj;cases hj
     exact⟨i,a,aee,h1,hl,rfl,hf⟩
    ·rw[fU _ _ e] at hj
     obtain⟨i',a0,q1,q2⟩:=k1 j' a' hj
     exact⟨i',a0,aef _ q1,q2⟩
   ·by_cases e:j=j'
    ·subst e
     have:i=i':=hu i aee
     subst this
     exact⟨a,h1,hl,dA _ _ _⟩
    ·rw[fU _ _ e]
     rcases List.mem_cons.1 hm with q|hm
     ·cases q;exact absurd rfl e
     ·exact k2 i' j' hm fun i'' hm'=>hu i'' (aef _ hm')
  split at h
  ·rename_i cs O1 h1 h2;cases h;exact gen _ O1 h1 rfl rfl h2 rfl
  ·rename_i ts rows wr O1 h1 h2;cases h;exact gen _ O1 h1 rfl rfl h2 rfl
  ·rename_i d O1 h1 h2
   obtain⟨hf,h⟩:=aX h
   cases h;exact gen _ O1 h1 rfl hf h2 rfl
  ·cases h
end
end Go.E
end
section
namespace Go.E
section
variable {X:Ctx} {cs0:List Frame} {o:Ow}
def inv:List (Nat×Nat)->Nat->Nat
 |[],_=>0
 |(i,j)::r,k=>bif Nat.beq j k then i else inv r k
theorem WG:∀ {m:List (Nat×Nat)} {i j:Nat},(i,j)∈m->(inv m j,j)∈m
 |(a,b)::r,i,j,h=>by
  unfold inv
  by_cases e:b=j
  ·subst e;rw[Nat.beq_refl];exact aee
  ·rw[cZ e]
   rcases List.mem_cons.1 h with q|h
   ·cases q;exact absurd rfl e
   ·exact aef _ (WG h)
theorem Jo{m:List (Nat×Nat)}:∀ {l l':List Nat},uF m l=some l'->∀ i∈l,(i=foreign∧foreign∈l')∨(i≠foreign∧∃ j,look m i=some j∧j∈l')
 |i::r,l',h,k,hk=>by
  unfold uF at h
  split at h
  ·rename_i j l1 h1 h2
   cases h
   rcases List.mem_cons.1 hk with e|hk
   ·subst e
    by_cases e:k=foreign
    ·subst e;rw[Nat.beq_refl] at h1;cases h1;exact .inl ⟨rfl,aee⟩
    ·rw[cZ e] at h1;exact .inr ⟨e,j,h1,aee⟩
   ·rcases Jo h2 k hk with ⟨a,b⟩|⟨ne,j',a,b⟩
    ·exact .inl ⟨a,aef _ b⟩
    ·exact .inr ⟨ne,j',a,aef _ b⟩
  ·cases h
def Jp(E:Env)(m:List (Nat×Nat))(O':bn):Env:={E with ρ:=fun j=>E.ρ (inv m j),O:=O'}
structure Ren (E:Env) (m:List (Nat×Nat)) (O':bn):Prop where
 fwd:∀ i j a,look m i=some j->look E.O i=some a->live a=true->look O' j=some (Jm m a)∧inv m j=i
 zero:∀ a,look E.O foreign≠some a
theorem Jq{m:List (Nat×Nat)}:∀ {l:List Nat},fixed m l=true->∀ i∈l,look m i=some i
 |j::r,h,i,hi=>by
  unfold fixed at h
  simp only[Bool.and_eq_true] at h
  rcases List.mem_cons.1 hi with e|hi
  ·subst e
   have h1:=h.1
   split at h1
   ·rename_i k hk;rw[hk,aeh h1]
   ·cases h1
  ·exact Jq h.2 i hi
variable {E:Env} {m:List (Nat×Nat)} {O':bn}
theorem Ren.fix(h:Ren E m O'){l l':List Nat}(hl:uF m l=some l'):Fix (E.B l) ((Jp E m O').B l') E.w E.w:=by
 intro b e c t f hb hc
 refine⟨?_,c,t,f,hc,rfl⟩
 rcases hb with hb|⟨i,hi,hb⟩
 ·exact .inl hb
 ·rcases Jo hl i hi with ⟨e1,e2⟩|⟨ne,j,e1,e2⟩
  ·rcases hb with hb|⟨ts,rows,wr,q1,q2,q3⟩
   ·exact .inr ⟨foreign,e2,.inl ⟨rfl,hb.2⟩⟩
   ·subst e1;exact absurd q1 (h.zero _)
  ·rcases hb with hb|⟨ts,rows,wr,q1,q2,q3⟩
   ·exact absurd hb.1 ne
   ·obtain⟨k1,k2⟩:=h.fwd i j _ e1 q1 rfl
    exact .inr ⟨j,e2,.inr ⟨ts,rows,wr,k1,by show (E.ρ (inv m j)).b=_;rw[k2];exact q2,q3⟩⟩
theorem Ren.sl(h:Ren E m O'){l l':List Nat}(hl:uF m l=some l'){ts:aC}{rows:List ts.D}{v:Value}(hv:TL E l ts rows v):TL (Jp E m O') l' ts rows v:=
 nC (E':=Jp E m O') (h.fix hl) (fun b hb=>⟨hb,rfl⟩) hv
mutual
theorem Ren.av(h:Ren E m O'):∀ (x:AV) (v:Value),VR E x v->VR (Jp E m O') (jV m x) v
 | .int _ _,_,hv| .bool _,_,hv| .str _,_,hv| .aT,_,hv| .kF,_,hv| .jo,_,hv| .nZ,_,hv| .undef,_,hv| .dead,_,hv=>by
  unfold VR at hv;unfold jV VR;exact hv
 | .own id,v,hv=>by
  unfold VR at hv;obtain⟨ts,rows,wr,h1,h2⟩:=hv
  unfold jV
  cases hm:look m id with
  |none=>unfold VR;rw[h2];rfl
  |some j=>
   obtain⟨k1,k2⟩:=h.fwd id j _ hm h1 rfl
   unfold VR
   exact⟨ts,rows,wr,k1,by show v=Value.slice ((E.ρ (inv m j)).b.map _) _ (E.ρ (inv m j)).cap;rw[k2];exact h2⟩
 | .ptr id off,v,hv=>by
  unfold VR at hv;obtain⟨cs,b,h1,h2,h3⟩:=hv
  unfold jV
  cases hm:look m id with
  |none=>unfold VR;rw[h3];rfl
  |some j=>
   obtain⟨k1,k2⟩:=h.fwd id j _ hm h1 rfl
   unfold VR
   exact⟨_,b,k1,by show (E.ρ (inv m j)).b=_;rw[k2];exact h2,h3⟩
 | .gX id i off,v,hv=>by
  unfold VR at hv;obtain⟨ts,rows,wr,b,h1,h2,h3,h4,h5⟩:=hv
  unfold jV
  cases hm:look m id with
  |none=>unfold VR;rw[h5];rfl
  |some j=>
   obtain⟨k1,k2⟩:=h.fwd id j _ hm h1 rfl
   unfold VR
   exact⟨ts,rows,wr,b,k1,by show (E.ρ (inv m j)).b=_;rw[k2];exact h2,h3,h4,h5⟩
 | .mp id,v,hv=>by
  unfold VR at hv;obtain⟨d,b,h1,h2,h3⟩:=hv
  unfold jV
  cases hm:look m id with
  |none=>unfold VR;rw[h3];rfl
  |some j=>
   obtain⟨k1,k2⟩:=h.fwd id j _ hm h1 rfl
   unfold VR
   exact⟨_,b,k1,by show (E.ρ (inv m j)).b=_;rw[k2];exact h2,h3⟩
 | .raw u,v,hv=>by
  unfold VR at hv;unfold jV VR;exact hv
 | .sub id lo hi,v,hv=>by
  unfold VR at hv;obtain⟨ts,rows,wr,a,cap,h1,h2,h3,h4,h5,h6,h7⟩:=hv
  unfold jV
  cases hm:look m id with
  |none=>unfold VR;rw[h5];rfl
  |some j=>
   obtain⟨k1,k2⟩:=h.fwd id j _ hm h1 rfl
   unfold VR
   exact⟨ts,rows,wr,a,cap,k1,h2,h3,h4,h5,h6,by show lo<hi->∃ b,(E.ρ (inv m j)).b=some b∧_;rw[k2];exact h7⟩
 | .ro ts rows deps,v,hv=>by
  unfold VR at hv
  unfold jV
  cases hm:uF m deps with
  |none=>unfold VR;exact Hg hv
  |some l=>unfold VR;exact h.sl hm hv
 | .iE ts rows deps i off,v,hv=>by
  unfold VR at hv;obtain⟨b,q,len,cap,h1,h2,h3,h4⟩:=hv
  unfold jV
  cases hm:uF m deps with
  |none=>unfold VR;rw[h4];rfl
  |some l=>unfold VR;exact⟨b,q,len,cap,h.sl hm h1,h2,h3,h4⟩
 | .func fn a b,v,hv=>by
  unfold VR at hv;obtain⟨x,y,rfl,h1,h2⟩:=hv
  unfold jV VR;exact⟨x,y,rfl,h.oZ a x h1,h.oZ b y h2⟩
 | .iface t u,v,hv=>by
  unfold VR at hv;obtain⟨u',rfl,h1⟩:=hv
  unfold jV VR;exact⟨u',rfl,h.av u u' h1⟩
 | .agg cs,v,hv=>by
  unfold VR at hv;obtain⟨x,rfl,h1⟩:=hv
  unfold jV VR;exact⟨x,rfl,h.oZ cs x h1⟩
 | .AY cs,v,hv=>by
  unfold VR at hv;obtain⟨x,rfl,h1⟩:=hv
  unfold jV VR;exact⟨x,rfl,h.oZ cs x h1⟩
theorem Ren.oZ(h:Ren E m O'):∀ (xs:List AV) (l:List Value),dG E xs l->dG (Jp E m O') (qy m xs) l
 |[],_,hv=>by unfold dG at hv;unfold qy dG;exact hv
 |x::xs,l,hv=>by
  unfold dG at hv;obtain⟨v,r,rfl,h1,h2⟩:=hv
  unfold qy dG;exact⟨v,r,rfl,h.av x v h1,h.oZ xs r h2⟩
end
theorem Uw{x:AV}(h:pX x=true)(hf:TM x=true)(m:List (Nat×Nat)):jV m x=x:=by
 unfold pX at h
 split at h<;>first|(unfold jV;rfl)|(exact Bool.noConfusion (show false=true from hf))|(exact Bool.noConfusion (show false=true from h))|(unfold jV qy;rfl)|(unfold jV jV qy;rfl)
theorem Ren.lit(h:Ren E m O'){kt:CT}:∀ {r:List (kt.D×AV)} {l:List MapEntry},ND r=true->TT E kt r l->TT (Jp E m O') kt r l
 |[],_,_,hr=>hr
 |(k,x)::r,l,hf,hr=>by
  obtain⟨e,l',rfl,h1,h2,h3,h4⟩:=hr
  have hf:(TM x&&ND r)=true:=hf
  rw[Bool.and_eq_true] at hf
  have:=h.av _ _ h3
  rw[Uw h2 hf.1] at this
  exact⟨e,l',rfl,h1,h2,this,h.lit hf.2 h4⟩
theorem Ren.xQ(h:Ren E m O'){d:Ih}{l:List MapEntry}(hf:Zj d=true)(hm:xQ E l d):xQ (Jp E m O') l d:=by
 cases d with
 |lit kt r=>exact h.lit hf hm
 |dat kt vt r=>exact hm
end
end Go.E
end
section
namespace Go.E
section
variable {X:Ctx} {cs0:List Frame} {o:Ow}
theorem rO.ren{E E':Env}{m:List (Nat×Nat)}(h:rO E)(hr:∀ x v,VR E x v->VR E' (jV m x) v):rO E':=fun g q hg=>by
 have:=hr _ _ (h g q hg)
 unfold jV uF at this
 exact this
theorem Jr{E E':Env}{m:List (Nat×Nat)}{tm:List (Nat×AV)}{tmps:Array Value}(h:kD E tm tmps)(hr:∀ x v,VR E x v->VR E' (jV m x) v):∀ (l:List Nat),kD E' (Bf m tm l) tmps
 |[]=>⟨fun t x hx=>(by cases hx),h.2.ren hr⟩
 |i::r=>⟨fun t x hx=>by
  unfold Bf at hx
  split at hx
  ·rename_i v hv
   by_cases e:i=t
   ·subst e
    rw[dA] at hx;cases hx
    exact hr _ _ (h.1 i v hv)
   ·rw[fU _ _ e] at hx
    exact (Jr h hr r).1 t x hx
  ·exact (Jr h hr r).1 t x hx,h.2.ren hr⟩
theorem EH{E E':Env}{m:List (Nat×Nat)}(hr:∀ x v,VR E x v->VR E' (jV m x) v):∀ {KP:List Fr} {l:List Frame} (ks:List (List Nat)),xC E KP l->xC E' (lQ m KP ks) l
 |[],l,ks,h=>by
  cases ks<;>exact h
 |fr::r,l,[],⟨y,ys,e,⟨tmps,todo,e1,e2,e3⟩,h2⟩=>⟨y,ys,e,⟨tmps,todo,e1,⟨fun _ _ x=>(by cases x),e2.2.ren hr⟩,e3⟩,EH hr [] h2⟩
 |fr::r,l,k::ks,⟨y,ys,e,⟨tmps,todo,e1,e2,e3⟩,h2⟩=>⟨y,ys,e,⟨tmps,todo,e1,Jr e2 hr k,e3⟩,EH hr ks h2⟩
theorem wI{m:List (Nat×Nat)}:∀ (c:Fr) (r:List Fr) (ks:List (List Nat)) (c':Fr) (r':List Fr),lQ m (c::r) ks=c'::r'->kX c' r'=kX c r
 |c,[],[],c',r',h=>by cases h;rfl
 |c,[],k::ks,c',r',h=>by
  have h:{c with tm:=Bf m c.tm k}::lQ m [] ks=c'::r':=h
  cases ks<;>cases h<;>rfl
 |c,d::r,[],c',r',h=>by
  have h:{c with tm:=[]}::lQ m (d::r) []=c'::r':=h
  cases hr:lQ m (d::r) [] with
  |nil=>cases hr
  |cons d' r''=>rw[hr] at h;cases h;exact wI d r [] d' r'' hr
 |c,d::r,k::ks,c',r',h=>by
  have h:{c with tm:=Bf m c.tm k}::lQ m (d::r) ks=c'::r':=h
  cases hr:lQ m (d::r) ks with
  |nil=>cases ks<;>cases hr
  |cons d' r''=>rw[hr] at h;cases h;exact wI d r ks d' r'' hr
theorem Js{E:Env}{tm:List (Nat×AV)}{tmps:Array Value}(h:kD E tm tmps):∀ (l:List Nat),kD E (Bg tm l) tmps
 |[]=>⟨fun t x hx=>(by cases hx),h.2⟩
 |i::r=>⟨fun t x hx=>by
  unfold Bg at hx
  split at hx
  ·rename_i hv
   by_cases e:i=t
   ·subst e
    rw[dA] at hx;cases hx
    exact h.1 i _ hv
   ·rw[fU _ _ e] at hx
    exact (Js h r).1 t x hx
  ·exact (Js h r).1 t x hx,h.2⟩
theorem EI{E:Env}:∀ {KP:List Fr} {l:List Frame} (ks:List (List Nat)),xC E KP l->xC E (lS KP ks) l
 |[],l,ks,h=>by
  cases ks<;>exact h
 |fr::r,l,[],⟨y,ys,e,⟨tmps,todo,e1,e2,e3⟩,h2⟩=>⟨y,ys,e,⟨tmps,todo,e1,⟨fun _ _ x=>(by cases x),e2.2⟩,e3⟩,EI [] h2⟩
 |fr::r,l,k::ks,⟨y,ys,e,⟨tmps,todo,e1,e2,e3⟩,h2⟩=>⟨y,ys,e,⟨tmps,todo,e1,Js e2 k,e3⟩,EI ks h2⟩
theorem wJ:∀ (c:Fr) (r:List Fr) (ks:List (List Nat)) (c':Fr) (r':List Fr),lS (c::r) ks=c'::r'->kX c' r'=kX c r
 |c,[],[],c',r',h=>by cases h;rfl
 |c,[],k::ks,c',r',h=>by
  have h:{c with tm:=Bg c.tm k}::lS [] ks=c'::r':=h
  cases ks<;>cases h<;>rfl
 |c,d::r,[],c',r',h=>by
  have h:{c with tm:=[]}::lS (d::r) []=c'::r':=h
  cases hr:lS (d::r) [] with
  |nil=>cases hr
  |cons d' r''=>rw[hr] at h;cases h;exact wJ d r [] d' r'' hr
 |c,d::r,k::ks,c',r',h=>by
  have h:{c with tm:=Bg c.tm k}::lS (d::r) ks=c'::r':=h
  cases hr:lS (d::r) ks with
  |nil=>cases ks<;>cases hr
  |cons d' r''=>rw[hr] at h;cases h;exact wJ d r ks d' r'' hr
theorem aeK{t:dB}{s s':St}{E:Env}{fr:Frame}{cs:List Frame}(h:qW X o E s cs0 fr cs)(hc:canon t s=some s'):∃ E':Env,E'.w=E.w∧qW X o E' s' cs0 fr cs:=by
 unfold canon at hc
 cases hraw:t.raw with
 |true=>
  rw[hraw,cond_true] at hc
  split at hc
  ·cases hc;exact⟨E,rfl,h⟩
  ·split at hc
   ·rename_i c cr hk
    have hc':=Option.some.inj hc
    subst hc'
    obtain⟨cs1,ec,hcs⟩:=h.callers
    have hall:=EI t.keep (KP:=s.cur::s.callers) (l:=fr::cs1) ⟨fr,cs1,rfl,h.cur,hcs⟩
    rw[hk] at hall
    obtain⟨y,ys,e,h1,h2⟩:=hall
    cases e
    exact⟨E,rfl,⟨h.ok,h.objs,h1,⟨_,ec,h2⟩,h.bx,(wJ _ _ _ _ _ hk).trans h.root⟩⟩
   ·cases hc
 |false=>
  rw[hraw] at hc
  dsimp only[cond_false] at hc
  split at hc
  ·rename_i s1 h1
   obtain⟨E1,w1,k1⟩:=WE h h1
   obtain⟨E2,w2,k2⟩:=H6 (l:=t.Eb) k1
   split at hc
   ·rename_i m hm
    obtain⟨hn,hc⟩:=aX hc
    simp only[Bool.and_eq_true] at hn
    obtain⟨hn,hfx⟩:=hn
    split at hc
    ·rename_i O' hO
     obtain⟨n1,n2⟩:=MJ hm
     obtain⟨r1,r2⟩:=Du hO
     have hinv:∀ i j,(i,j)∈m->inv m j=i:=fun i j hij=>n2 _ _ j (WG hij) hij
     have ren:Ren E2 m O':=by
      refine⟨fun i j a hij ha la=> ?_,fun a ha=>(k2.ok.num _ a ha).2 rfl⟩
      have hmem:=qm hij
      obtain⟨a',q1,_,q3⟩:=r2 i j hmem fun i' hi'=>n2 _ _ j hi' hmem
      rw[k2.objs] at ha
      rw[ha] at q1;cases q1
      exact⟨q3,hinv i j hmem⟩
     have lv:∀ j a',look O' j=some a'->∃ i a,(i,j)∈m∧look E2.O i=some a∧live a=true∧a'=Jm m a∧inv m j=i∧Oe a=true:=by
      intro j a' hj
      obtain⟨i,a,q1,q2,q3,q4,q6⟩:=r1 j a' hj
      exact⟨i,a,q1,by rw[k2.objs];exact q2,q3,q4,hinv i j q1,q6⟩
     have hok:OK X o (Jp E2 m O') (t.Eb.length+1):=by
      refine⟨Nat.succ_pos _,fun j a' hj=> ?_,fun j a' hj=> ?_,fun j j' b hj hj' hb hb'=> ?_,fun j b hj hb=> ?_,k2.ok.zx,k2.ok.kept,k2.ok.size,k2.ok.fg,k2.ok.us,fun q hq=> ?_⟩
      ·obtain⟨i,a,q1,_⟩:=lv j a' hj
       have:=n1 i j q1
       exact⟨by omega,fun e=>by rw[e] at this;have:=this.1;exact absurd this (by decide)⟩
      ·obtain⟨i,a,q1,q2,q3,q4,q5,q6⟩:=lv j a' hj
       have ho:=k2.ok.obj i a q2
       subst q4
       cases a with
       |dead=>cases q3
       |map d=>
        obtain⟨b,ent,clk,e1,e2,e3⟩:=ho
        exact⟨b,ent,clk,by show (E2.ρ (inv m j)).b=_;rw[q5];exact e1,e2,ren.xQ q6 e3⟩
       |box bs=>
        obtain⟨b,c,tt,f,e1,e2,e3,e4⟩:=ho
        exact⟨b,c,tt,f,by show (E2.ρ (inv m j)).b=_;rw[q5];exact e1,e2,e3,ren.oZ _ _ e4⟩
       |arr ts rows wr=>
        show fV (Jp E2 m O') j (.arr ts rows wr)
        unfold fV at ho⊢
        show match (E2.ρ (inv m j)).b with|none=>rows=[]∧(E2.ρ (inv m j)).cap=0|some b=>∃ c t f,E2.w.heap[b]? =some (.cells c t f)∧free c f∧rows.length<=(E2.ρ (inv m j)).cap∧(E2.ρ (inv m j)).cap*ts.n<=c.size∧dV ts.n (ts.rp E2.w E2.N) rows c.toList
        rw[q5];exact ho
      ·obtain⟨x,hx,lx⟩:=hj
       obtain⟨x',hx',lx'⟩:=hj'
       obtain⟨i,a,q1,q2,q3,q4,q5,_⟩:=lv j x hx
       obtain⟨i',a',p1,p2,p3,p4,p5,_⟩:=lv j' x' hx'
       have hb:(E2.ρ (inv m j)).b=some b:=hb
       have hb':(E2.ρ (inv m j')).b=some b:=hb'
       rw[q5] at hb;rw[p5] at hb'
       have:=k2.ok.inj i i' b ⟨a,q2,q3⟩ ⟨a',p2,p3⟩ hb hb'
       subst this
       have e1:=Jl hn q1
       rw[Jl hn p1] at e1
       cases e1;rfl
      ·obtain⟨x,hx,lx⟩:=hj
       obtain⟨i,a,q1,q2,q3,q4,q5,_⟩:=lv j x hx
       have hb:(E2.ρ (inv m j)).b=some b:=hb
       rw[q5] at hb
       exact k2.ok.own i b ⟨a,q2,q3⟩ hb
      ·have:=ren.av _ _ (k2.ok.bx q hq)
       have e:=Jq hfx q.1 (by rw[k2.bx];exact List.mem_map.2 ⟨q,hq,rfl⟩)
       unfold jV at this
       rw[e] at this
       exact this
     obtain⟨cs1,ec,hcs⟩:=k2.callers
     have hall:=EH (E':=Jp E2 m O') (m:=m) ren.av t.keep (KP:=(su s1 t.Eb).cur::(su s1 t.Eb).callers) (l:=fr::cs1) ⟨fr,cs1,rfl,k2.cur,hcs⟩
     split at hc
     ·rename_i c cr hk
      have hc':=Option.some.inj hc
      subst hc'
      rw[hk] at hall
      obtain⟨y,ys,e,hy,hys⟩:=hall
      cases e
      exact⟨Jp E2 m O',w2.trans w1,hok,rfl,hy,⟨cs1,ec,hys⟩,k2.bx,(wI _ _ _ _ _ hk).trans k2.root⟩
     ·cases hc
    ·cases hc
   ·cases hc
  ·cases hc
end
end Go.E
end
section
namespace Go.E
section
variable {P:Program} {main:Bool} {Rl:Ow->World->World->Prop} {C:kC} {Rc:ah}
def Out(C:kC)(s:dX)(X:Ctx)(cs0:List Frame)(r:s.B)(o:Ow)(fr:Frame)(cs:List Frame)(w:World):Prop:=
 ∃ (E:Env) (st:St) (tmps:Array Value) (todo:List Item) (vs:List AV) (fn:Func),fr={frame st.cur.fn tmps todo with mode:= .returning}∧cs=cs0∧E.w=w∧qW X o E st cs0 (frame st.cur.fn tmps todo) cs0∧kD E st.cur.tm tmps∧
  look C.fns st.cur.fn=some fn∧sD C fn st=some vs∧fin s vs st=some r
theorem aeL{X:Ctx}{cs0:List Frame}{s:dX}(vs:List AV)(st:St)(r:s.B)(fn:Func)(h:fin s vs st=some r)(hfn:look C.fns st.cur.fn=some fn)(hd:sD C fn st=some vs)(o:Ow)(E:Env)(tmps:Array Value)(todo:List Item)
  (hst:qW X o E st cs0 (frame st.cur.fn tmps todo) cs0) (ht:kD E st.cur.tm tmps):Via P main Rl (Out C s X cs0 r) o {frame st.cur.fn tmps todo with mode:= .returning} cs0 E.w:=
 .stop ⟨E,st,tmps,todo,vs,fn,rfl,rfl,rfl,hst,ht,hfn,hd,h⟩
end
end Go.E
end
section
namespace Go.E
section
variable {X:Ctx} {o:Ow} {E:Env} {aG:Nat}
theorem aao{id:Nat}{ts:aC}{rows:List ts.D}{wr:Bool}(h:OK X o E aG)(hl:look E.O id=some (.arr ts rows wr)):
  let E':Env:={E with O:=dw [.kill id,.dO id] ((id,.dead)::E.O)}
  OK X o E' aG∧Step E E' [.kill id,.dO id]:=by
 intro E'
 have Zu:=lW (es:=[.kill id,.dO id]) (id:=id) (a':= .dead) (O:=E.O) (fun _=>rfl) rfl
 have XB:look E'.O id=some .dead:=Zu.1
 have lk:∀ i,i≠id->look E'.O i=(look E.O i).map (jd [.kill id,.dO id]):=Zu.2
 have hk:Keep E E' fun i=>i=id:=by
  refine⟨fun b hb=>⟨hb,rfl⟩,fun b hb=>⟨hb,rfl⟩,fun i hi ts' pK wr' hl'=>⟨by rw[lk i hi,hl'];rfl,rfl,fun b hb=>rfl⟩,fun i cs hl'=> ?_,fun i m hl'=> ?_⟩
  ·have x:i≠id:=fun x=>by rw[x,hl] at hl';cases hl'
   exact⟨gK [.kill id,.dO id] cs,by rw[lk i x,hl'];rfl,rfl⟩
  ·have x:i≠id:=fun x=>by rw[x,hl] at hl';cases hl'
   exact⟨m,by rw[lk i x,hl'];rfl,rfl⟩
 have hs:=hk.gone
 refine⟨h.next hs (fun i=>i=id) (fun b hb=>rfl) (Nat.le_refl _) (fun _ hb=>hb) rfl (fun _ hb=>hb) (fun _ hb=>hb) h.us (Nat.le_refl _) ?_ ?_ ?_ h.zx,hs⟩
 ·intro i x hi hne
  rw[lk i hne] at hi
  obtain⟨x,hx,rfl⟩:=Option.map_eq_some_iff.1 hi
  exact⟨x,hx,rfl,fun l=>⟨rfl,fun b' hb'=>⟨(h.own i b' ⟨x,hx,l⟩ hb').2.1,rfl⟩⟩⟩
 ·intro i x hi hi'
  subst hi
  rw[XB] at hi'
  cases hi'
  have:=h.num i _ hl
  exact⟨this.1,this.2,trivial⟩
 ·intro i b hi ⟨x,hx,l⟩ _
  subst hi
  rw[XB] at hx
  cases hx;cases l
inductive Lets (O:bn):List Eff->List Nat->Prop
 |nil:Lets O [] []
 |shut {id:Nat} {ts:aC} {rows:List ts.D} {wr:Bool} {r:List Eff} {mv:List Nat}:look O id=some (.arr ts rows wr)->Lets O r mv->Lets O (.shut id ts rows::r) mv
 |gone {id:Nat} {ts:aC} {rows:List ts.D} {wr:Bool} {r:List Eff} {mv:List Nat}:look O id=some (.arr ts rows wr)->Lets O r mv->Lets O (.kill id:: .dO id::r) (id::mv)
theorem Lets.append{O:bn}{es fs:List Eff}{mv mv':List Nat}(h:Lets O es mv)(h':Lets O fs mv'):Lets O (es++fs) (mv++mv'):=by
 induction h with
 |nil=>exact h'
 |shut a _ ih=>exact .shut a ih
 |gone a _ ih=>exact .gone a ih
theorem qj.lets{O:bn}{es:List Eff}(h:qj O es):Lets O es []:=by
 induction h with
 |nil=>exact .nil
 |cons a _ ih=>exact .shut a ih
end
end Go.E
end
section
namespace Go.E
section
variable {X:Ctx} {o:Ow}
theorem MK{E E1 E':Env}{e r:List Eff}{mv:List Nat}{id:Nat}{b:Bool}(h1:∀ i,look E1.O i=if i=id then some .dead else (look E.O i).map (jd e))(hid:∃ a,look E.O id=some a)
  (h2:∀ i,look E'.O i=if i∈mv∨aQ i r=true then (look E1.O i).map fun _=> .dead else (look E1.O i).map (jd r)) (i:Nat) (q:Prop) [Decidable q] (hq:q↔i=id∨i∈mv∨aQ i r=true):
  look E'.O i=if q then (look E.O i).map fun _=> .dead else (look E.O i).map (jd (e++r)):=by
 rw[h2,h1]
 by_cases x:i=id
 ·subst x
  obtain⟨a,ha⟩:=hid
  rw[if_pos rfl,if_pos (hq.2 (.inl rfl)),ha]
  split<;>rfl
 ·rw[if_neg x]
  by_cases y:i∈mv∨aQ i r=true
  ·rw[if_pos y,if_pos (hq.2 (.inr y))]
   cases look E.O i<;>rfl
  ·rw[if_neg y,if_neg (fun z=>(hq.1 z).elim x y)]
   cases look E.O i with
   |none=>rfl
   |some a=>simp only[Option.map_some,qQ]
theorem Jt:∀ {es:List Eff} {mv:List Nat} {E:Env} {aG:Nat} {O:bn},Lets O es mv->OK X o E aG->(∀ id ts rows wr,look O id=some (.arr ts rows wr)->id∉mv->look E.O id=some (.arr ts rows wr)∨look E.O id=some .dead)->
  (∀ id∈mv,∃ ts rows wr,look O id=some (.arr ts rows wr)∧look E.O id=some (.arr ts rows wr))->mv.Nodup->(∀ id∈mv,aQ id es=false)->
  ∃ E':Env,E'.w=E.w∧E'.ρ=E.ρ∧E'.F=E.F∧OK X o E' aG∧Step E E' es∧(∀ b,E.N b->E'.N b)∧
   (∀ i,look E'.O i=if i∈mv∨aQ i es=true then (look E.O i).map fun _=> .dead else (look E.O i).map (jd es))∧
   (∀ i ts rows wr b,aQ i es=true->look E.O i=some (.arr ts rows wr)->(E.ρ i).b=some b->E'.N b)∧
   (∀ b,E'.N b->E.N b∨∃ i ts rows wr,aQ i es=true∧look E.O i=some (.arr ts rows wr)∧(E.ρ i).b=some b)
 | _,_,E,aG,O,.nil,h,_,_,_,_=>⟨E,rfl,rfl,rfl,h,Step.refl E,fun _ hb=>hb,fun i=>by
   rw[if_neg (by rintro (x|x);cases x;cases x)]
   cases look E.O i with
   |none=>rfl
   |some a=>simp[lV],fun _ _ _ _ _ hx=>(by cases hx),fun _ hb=> .inl hb⟩
 | _,_,E,aG,O,.shut (id:=id) (ts:=ts) (rows:=rows) (wr:=wr) (r:=r) (mv:=mv) hl hr,h,hO,hm,hn,hs=>by
  have hmv:id∉mv:=fun x=>by
   have:(Nat.beq id id||aQ id r)=false:=hs id x
   rw[Nat.beq_refl] at this;cases this
  have fin:∀ E1:Env,E1.w=E.w->E1.ρ=E.ρ->E1.F=E.F->E1.O=dw [.shut id ts rows] E.O->OK X o E1 aG->Step E E1 [.shut id ts rows]->(∀ b,E.N b->E1.N b)->(∀ ts' rows' wr' b,look E.O id=some (.arr ts' rows' wr')->(E.ρ id).b=some b->E1.N b)->(∀ b,E1.N b->E.N b∨∃ ts' rows' wr',look E.O id=some (.arr ts' rows' wr')∧(E.ρ id).b=some b)->(∃ a,look E.O id=some a)->
    ∃ E':Env,E'.w=E.w∧E'.ρ=E.ρ∧E'.F=E.F∧OK X o E' aG∧Step E E' (.shut id ts rows::r)∧(∀ b,E.N b->E'.N b)∧
     (∀ i,look E'.O i=if i∈mv∨aQ i (.shut id ts rows::r)=true then (look E.O i).map fun _=> .dead else (look E.O i).map (jd (.shut id ts rows::r)))∧
     (∀ i ts' rows' wr' b,aQ i (.shut id ts rows::r)=true->look E.O i=some (.arr ts' rows' wr')->(E.ρ i).b=some b->E'.N b)∧
   (∀ b,E'.N b->E.N b∨∃ i ts rows wr,aQ i (.shut id ts rows::r)=true∧look E.O i=some (.arr ts rows wr)∧(E.ρ i).b=some b):=by
   intro E1 e1 e2 e3 e4 ok1 st1 n1 m1 b1 hex
   have lk:∀ i,look E1.O i=if i=id then some .dead else (look E.O i).map (jd [.shut id ts rows]):=by
    intro i
    rw[e4,bT]
    show (if (Nat.beq id i||false)=true then _ else _)=_
    by_cases x:i=id
    ·subst x;simp
    ·rw[cZ (fun y=>x y.symm)];simp[x]
   obtain⟨E',w1,r1,f1,ok2,st2,n2,l2,m2,b2⟩:=Jt hr ok1 (fun id' ts' rows' wr' hl' hm'=>by
     rw[lk]
     by_cases x:id'=id
     ·rw[if_pos x];exact .inr rfl
     ·rw[if_neg x]
      rcases hO id' ts' rows' wr' hl' hm' with g|g<;>rw[g]
      ·exact .inl rfl
      ·exact .inr rfl) (fun id' hi'=>by
     obtain⟨ts',rows',wr',g1,g2⟩:=hm id' hi'
     refine⟨ts',rows',wr',g1,?_⟩
     rw[lk,if_neg (fun x=>hmv (by rw[<- x];exact hi')),g2];rfl) hn (fun id' hi'=>by
     have:(Nat.beq id id'||aQ id' r)=false:=hs id' hi'
     exact (Bool.or_eq_false_iff.1 this).2)
   refine⟨E',w1.trans e1,r1.trans e2,f1.trans e3,ok2,st1.trans st2,fun b hb=>n2 b (n1 b hb),fun i=> ?_,?_,fun b hb=> ?_⟩
   ·refine MK (b:=true) (e:=[.shut id ts rows]) lk hex l2 i _ ?_
    show (i∈mv∨(Nat.beq id i||aQ i r)=true)↔_
    simp only[Bool.or_eq_true,Nat.beq_eq]
    constructor
    ·rintro (x|x|x)
     ·exact .inr (.inl x)
     ·exact .inl x.symm
     ·exact .inr (.inr x)
    ·rintro (x|x|x)
     ·exact .inr (.inl x.symm)
     ·exact .inl x
     ·exact .inr (.inr x)
   ·intro i ts' rows' wr' b hx hi hb
    by_cases x:i=id
    ·subst x;exact n2 b (m1 ts' rows' wr' b hi hb)
    ·have hx:(Nat.beq id i||aQ i r)=true:=hx
     rw[cZ (fun y=>x y.symm),Bool.false_or] at hx
     exact m2 i ts' rows' wr' b hx (by rw[lk,if_neg x,hi];rfl) (by rw[e2];exact hb)
   ·rcases b2 b hb with hb|⟨i,ts',rows',wr',q1,q2,q3⟩
    ·rcases b1 b hb with hb|⟨ts',rows',wr',q2,q3⟩
     ·exact .inl hb
     ·exact .inr ⟨id,ts',rows',wr',by show (Nat.beq id id||aQ id r)=true;rw[Nat.beq_refl];rfl,q2,q3⟩
    ·refine .inr ⟨i,ts',rows',wr',by show (Nat.beq id i||aQ i r)=true;rw[q1,Bool.or_true],?_,by rw[<- e2];exact q3⟩
     rw[lk] at q2
     split at q2
     ·cases q2
     ·obtain⟨a,ha,e⟩:=Option.map_eq_some_iff.1 q2
      cases a<;>cases e
      exact ha
  rcases hO id ts rows wr hl hmv with g|g
  ·obtain⟨a,b⟩:=QB h g
   exact fin {E with N:=fun b=>E.N b∨(E.ρ id).b=some b,O:=dw [.shut id ts rows] E.O} rfl rfl rfl rfl a b (fun _ hb=> .inl hb) (fun _ _ _ b _ hb=> .inr hb) (fun b hb=>hb.imp (fun x=>x) fun x=>⟨_,_,_,g,x⟩) ⟨_,g⟩
  ·obtain⟨a,b⟩:=LJ (ts:=ts) (rows:=rows) h g
   exact fin {E with O:=dw [.shut id ts rows] E.O} rfl rfl rfl rfl a b (fun _ hb=>hb) (fun _ _ _ _ hx _=>by rw[g] at hx;cases hx) (fun _ hb=> .inl hb) ⟨_,g⟩
 | _,_,E,aG,O,.gone (id:=id) (ts:=ts) (rows:=rows) (wr:=wr) (r:=r) (mv:=mv) hl hr,h,hO,hm,hn,hs=>by
  obtain⟨vV,jW,wr0,g1,g2⟩:=hm id aee
  obtain⟨ok1,st1⟩:=aao h g2
  have Zu:=lW (es:=[.kill id,.dO id]) (id:=id) (a':= .dead) (O:=E.O) (fun _=>rfl) rfl
  have hn':=List.nodup_cons.1 hn
  have lk:∀ i,look (dw [.kill id,.dO id] ((id,.dead)::E.O)) i=if i=id then some .dead else (look E.O i).map (jd [.kill id,.dO id]):=by
   intro i
   by_cases x:i=id
   ·rw[if_pos x,x];exact Zu.1
   ·rw[if_neg x];exact Zu.2 i x
  obtain⟨E',w1,r1,f1,ok2,st2,n2,l2,m2,b2⟩:=Jt hr ok1 (fun id' ts' rows' wr' hl' hm'=>by
    show look (dw [.kill id,.dO id] ((id,.dead)::E.O)) id'=_∨look (dw [.kill id,.dO id] ((id,.dead)::E.O)) id'=_
    rw[lk]
    by_cases x:id'=id
    ·rw[if_pos x];exact .inr rfl
    ·rw[if_neg x]
     rcases hO id' ts' rows' wr' hl' (fun y=>(List.mem_cons.1 y).elim x hm') with g|g<;>rw[g]
     ·exact .inl rfl
     ·exact .inr rfl) (fun id' hi'=>by
    obtain⟨ts',rows',wr',q1,q2⟩:=hm id' (aef _ hi')
    refine⟨ts',rows',wr',q1,?_⟩
    show look (dw [.kill id,.dO id] ((id,.dead)::E.O)) id'=_
    rw[lk,if_neg (fun x=>hn'.1 (by rw[<- x];exact hi')),q2];rfl) hn'.2 (fun id' hi'=>hs id' (aef _ hi'))
  refine⟨E',w1,r1,f1,ok2,st1.trans st2,n2,fun i=> ?_,?_,fun b hb=> ?_⟩
  ·refine MK (b:=true) (E1:={E with O:=dw [.kill id,.dO id] ((id,.dead)::E.O)}) (e:=[.kill id,.dO id]) lk ⟨_,g2⟩ l2 i _ ?_
   show (i∈id::mv∨aQ i r=true)↔_
   simp only[List.mem_cons,or_assoc]
  ·intro i ts' rows' wr' b hx hi hb
   have hx:aQ i r=true:=hx
   have x:i≠id:=fun x=>by
    have:=hs id aee
    rw[<- x] at this
    have this:aQ i r=false:=this
    rw[hx] at this;cases this
   exact m2 i ts' rows' wr' b hx (by show look (dw [.kill id,.dO id] ((id,.dead)::E.O)) i=_;rw[lk,if_neg x,hi];rfl) hb
  ·rcases b2 b hb with hb|⟨i,ts',rows',wr',q1,q2,q3⟩
   ·exact .inl hb
   ·refine .inr ⟨i,ts',rows',wr',q1,?_,q3⟩
    have q2:look (dw [.kill id,.dO id] ((id,.dead)::E.O)) i=_:=q2
    rw[lk] at q2
    split at q2
    ·cases q2
    ·obtain⟨a,ha,e⟩:=Option.map_eq_some_iff.1 q2
     cases a<;>cases e
     exact ha
end
end Go.E
end
section
namespace Go.E
section
variable {X:Ctx} {o:Ow}
structure Ux (E E1 Ec:Env) (mv:List Nat):Prop where
 w:Ec.w=E.w
 w1:E1.w=E.w
 n:∀ b,E.N b->E1.N b
 nc:∀ b,E1.N b->Ec.N b
 f:∀ b,E.F b->Ec.F b
 a:∀ i ts rows wr b,look E.O i=some (.arr ts rows wr)->i∉mv->(E.ρ i).b=some b->Ec.F b
variable {E E1 Ec:Env} {mv:List Nat} {aG:Nat}
theorem Ux.ro(L:Ux E E1 Ec mv){deps:List Nat}{ts:aC}{rows:List ts.D}{v:Value}(h:TL E deps ts rows v)(hd:∀ i∈deps,i∉mv):TL Ec [foreign] ts rows v:=by
 refine nC ?_ (fun b hb=>⟨L.nc b (L.n b hb),by rw[L.w]⟩) h
 intro b e c t f hb hc
 refine⟨?_,c,t,f,by rw[L.w];exact hc,rfl⟩
 rcases hb with hb|⟨i,hi,hb|⟨ts',rows',wr',q1,q2,_⟩⟩
 ·exact .inl (L.nc b (L.n b hb))
 ·exact .inr ⟨foreign,aee,.inl ⟨rfl,L.f b hb.2⟩⟩
 ·exact .inr ⟨foreign,aee,.inl ⟨rfl,L.a i ts' rows' wr' b q1 (hd i hi) q2⟩⟩
def eu(m:Md)(t:CT)(x:AV):List (Option Nat):=match t,m,x with
 | .sl _,.mv,.own id=>[some id]
 | .sl _,.mv,_=>[none]
 | _,_,_=>[]
def qI(E:Env):Option Nat->Pt
 |some id=>E.ρ id
 |none=>⟨none,0⟩
theorem H7{E E2:Env}{t:CT}{x:AV}{d:t.D}{v:Value}(ht:jH t=false)(hd:t.jq E.O x=some d)(hv:VR E x v):VR E2 (t.av d) v:=by
 cases t with
 |int k=>rw[xY hd] at hv;unfold VR at hv;unfold CT.av VR;exact hv
 |bool=>rw[vg hd] at hv;unfold VR at hv;unfold CT.av VR;exact hv
 |str=>rw[xZ hd] at hv;unfold VR at hv;unfold CT.av VR;exact hv
 |sl ts=>cases ht
theorem ML(h:OK X o E aG)(L:Ux E E1 Ec mv){ts:aC}{m:Md}{x:AV}{d:List ts.D}{v:Value}{n:Nat}{es:List Eff}{mo us:List Nat}(hd:CT.jq E.O (.sl ts) x=some d)(hv:VR E x v)(hu:rW m E.O x=some (es,mo,us))(hus:∀ i∈us,i∉mv)
  (hsh:m= .leak->Shut E E1 x) (gW:∀ p∈(gJ m (.sl ts) d n).2.1,look Ec.O p.1=some p.2) (hρ:∀ q∈eu m (.sl ts) x,Ec.ρ n=qI E q):
  VR Ec (gJ m (.sl ts) d n).1 v∧∀ p∈(gJ m (.sl ts) d n).2.1,fV Ec p.1 p.2:=by
 have hn:uX E.N Ec.N E.w Ec.w:=fun b hb=>⟨L.nc b (L.n b hb),by rw[L.w]⟩
 cases m with
 |ro=>
  refine⟨?_,fun p hp=>by cases hp⟩
  show VR Ec (.ro ts d [foreign]) v
  unfold VR
  rcases oC hd with ⟨rfl,rfl⟩|⟨deps,rfl⟩|⟨id,wr,rfl,hl⟩
  ·unfold VR at hv;subst hv
   exact⟨_,_,_,rfl,rfl,Nat.le_refl _,fun x=>absurd rfl x⟩
  ·unfold VR at hv
   cases hu
   exact L.ro hv hus
  ·have hq:rowsOf E.O (.own id)=some ⟨ts,d,[id]⟩:=by
    show (match look E.O id with|some (.arr ts rows _)=>some (Rows.mk ts rows [id])| _=>none)=_
    rw[hl]
   cases hu
   exact L.ro (kL h hq hv) hus
 |leak=>
  refine⟨?_,fun p hp=>by cases hp⟩
  show VR Ec (.ro ts d []) v
  have h1:=zC (E':=E1) h (fun b hb=>⟨L.n b hb,by rw[L.w1]⟩) (.sl ts) x d v hd hv (hsh rfl)
  have h2:=CT.jI (w':=Ec.w) (N':=Ec.N) (fun b hb=>⟨L.nc b hb,by rw[L.w,L.w1]⟩) (.sl ts) d v h1
  exact Wh (E:=Ec) (.sl ts) d v h2
 |mv=>
  have hlook:look Ec.O n=some (.arr ts d true):=gW (n,.arr ts d true) aee
  show VR Ec (.own n) v∧_
  rcases oC hd with ⟨rfl,rfl⟩|⟨deps,rfl⟩|⟨id,wr,rfl,hl⟩
  ·have hp:Ec.ρ n=⟨none,0⟩:=hρ none aee
   unfold VR at hv;subst hv
   refine⟨?_,fun p hpm=> ?_⟩
   ·unfold VR;exact⟨ts,[],true,hlook,by rw[hp];rfl⟩
   ·obtain rfl:p=(n,.arr ts [] true):=by simpa [gJ] using hpm
    unfold fV;rw[hp];exact⟨rfl,rfl⟩
  ·cases hu
  ·have hp:Ec.ρ n=E.ρ id:=hρ (some id) aee
   unfold VR at hv
   obtain⟨ts',rows',wr',g1,g2⟩:=hv
   rw[hl] at g1;cases g1
   refine⟨?_,fun p hpm=> ?_⟩
   ·unfold VR;exact⟨ts,d,true,hlook,by rw[hp];exact g2⟩
   ·obtain rfl:p=(n,.arr ts d true):=by simpa [gJ] using hpm
    have ho:=h.obj id _ hl
    unfold fV at ho⊢
    rw[hp]
    cases hb:(E.ρ id).b with
    |none=>rw[hb] at ho;exact ho
    |some b=>
     rw[hb] at ho
     obtain⟨c,t,f,k1,k2,k3,k4,k5⟩:=ho
     exact⟨c,t,f,by rw[L.w];exact k1,k2,k3,k4,fJ (fun d l=>aC.jI hn ts d l) _ _ k5⟩
end
end Go.E
end
section
namespace Go.E
section
variable {X:Ctx} {o:Ow} {E E1 Ec:Env} {mv:List Nat} {aG:Nat}
def bH:List CT->List Md->List AV->List (Option Nat)
 |t::ts,ms,x::xs=>bif jH t then match ms with
   |m::ms=>eu m t x++bH ts ms xs
   |[]=>[]
  else bH ts ms xs
 | _,_,_=>[]
def oH(E E1:Env)(es:List Eff):Prop:=∀ i,aQ i es=true->i≠foreign∧∀ b ts rows wr,look E.O i=some (.arr ts rows wr)->(E.ρ i).b=some b->E1.N b∧E1.w.heap[b]? =E.w.heap[b]?
theorem oH.left{es fs:List Eff}(h:oH E E1 (es++fs)):oH E E1 es:=fun i hi=>h i (by rw[iH,hi];rfl)
theorem oH.right{es fs:List Eff}(h:oH E E1 (es++fs)):oH E E1 fs:=fun i hi=>h i (by rw[iH,hi,Bool.or_true])
theorem oH.leak{x:AV}{es:List Eff}{mo us:List Nat}(hu:rW .leak E.O x=some (es,mo,us))(h:oH E E1 es):Shut E E1 x:=by
 unfold rW at hu
 obtain⟨e,he,hq⟩:=Option.map_eq_some_iff.1 hu
 cases hq
 exact fun i hi=>h i ((wz he).2 i hi)
theorem MN(m:Md)(t:CT)(d:t.D)(x:AV)(n:Nat):(gJ m t d n).2.2=n+(eu m t x).length:=by
 cases t<;>cases m<;>first|rfl|(cases x<;>rfl)
theorem Ju{ms:List Md}{t:CT}{d:t.D}{n:Nat}(ht:jH t=false):dP (.one t) ms d n=([t.av d],[],n):=by
 cases t<;>first|rfl|cases ht
theorem sW(h:OK X o E aG)(L:Ux E E1 Ec mv):∀ (ts:aC) (ms:List Md) (xs:List AV) (d:ts.D) (l:List Value) (n:Nat) {es:List Eff} {mo us:List Nat},ts.iL E.O xs=some d->dG E xs l->iG E.O ts.list ms xs=some (es,mo,us)->(∀ i∈us,i∉mv)->oH E E1 es->
  (∀ p∈(dP ts ms d n).2.1,look Ec.O p.1=some p.2)->(∀ k q,(bH ts.list ms xs)[k]? =some q->Ec.ρ (n+k)=qI E q)->
  dG Ec (dP ts ms d n).1 l∧(∀ p∈(dP ts ms d n).2.1,fV Ec p.1 p.2)∧(dP ts ms d n).2.2=n+(bH ts.list ms xs).length
 | .one t,ms,xs,d,l,n,es,mo,us,hd,hv,hu,hus,hsh,gW,hρ=>by
  match xs,hd,hv,hu,hρ with
  |[x],hd,hv,hu,hρ=>
   have hd:t.jq E.O x=some d:=hd
   unfold dG at hv
   obtain⟨v,q,rfl,h1,h2⟩:=hv
   unfold dG at h2;subst h2
   cases ht:jH t with
   |false=>
    have e:=Ju (ms:=ms) (d:=d) (n:=n) ht
    have e2:bH [t] ms [x]=[]:=by show (bif jH t then _ else _)=_;rw[ht];rfl
    rw[e]
    refine⟨?_,fun p hp=>(by cases hp),?_⟩
    ·unfold dG;exact⟨v,[],rfl,H7 ht hd h1,by unfold dG;rfl⟩
    ·show n=n+(bH [t] ms [x]).length;rw[e2,List.length_nil,Nat.add_zero]
   |true=>
    cases t with
    |sl ts=>
     cases ms with
     |nil=>cases hu
     |cons m ms=>
      have hu:(match rW m E.O x,(some ([],[],[]):Option (List Eff×List Nat×List Nat)) with|some (a,b,c),some (a',b',c')=>some (a++a',b++b',c++c')| _,_=>none)=some (es,mo,us):=hu
      split at hu
      ·rename_i a b c a' b' c' Uy e
       cases e
       cases hu
       simp only[List.append_nil] at*
       have:=ML h L (n:=n) hd h1 Uy hus (fun e=>by subst e;exact oH.leak Uy hsh) gW fun q hq=>by
        obtain⟨k,hk⟩:=List.getElem?_of_mem hq
        have hk0:k=0:=by
         have:(eu m (.sl ts) x).length<=1:=by cases m<;>first|exact Nat.zero_le _|(cases x<;>exact Nat.le_refl _)
         have hlt:k<(eu m (.sl ts) x).length:=by
          rcases Nat.lt_or_ge k (eu m (.sl ts) x).length with y|y
          ·exact y
          ·rw[List.getElem?_eq_none y] at hk;cases hk
         omega
        subst hk0
        exact hρ 0 q (by show (eu m (.sl ts) x++[])[0]? =some q;rw[List.append_nil];exact hk)
       refine⟨?_,this.2,?_⟩
       ·show dG Ec [(gJ m (.sl ts) d n).1] [v]
        unfold dG;exact⟨v,[],rfl,this.1,by unfold dG;rfl⟩
       ·show (gJ m (.sl ts) d n).2.2=n+(eu m (.sl ts) x++[]).length
        rw[List.append_nil];exact MN m (.sl ts) d x n
      ·cases hu
    | _=>cases ht
  |[],hd,_,_,_=>cases hd
  |x::y::r,hd,_,_,_=>cases hd
 | .cons t ts,ms,xs,d,l,n,es,mo,us,hd,hv,hu,hus,hsh,gW,hρ=>by
  match xs,hd,hv,hu,hρ with
  |[],hd,_,_,_=>cases hd
  |x::xs,hd,hv,hu,hρ=>
   unfold dG at hv
   obtain⟨v,q,rfl,h1,h2⟩:=hv
   have hd:(match t.jq E.O x,ts.iL E.O xs with|some d,some e=>some (d,e)| _,_=>none)=some d:=hd
   split at hd
   case h_2=>cases hd
   rename_i d1 d2 g1 g2
   cases hd
   cases ht:jH t with
   |false=>
    have e:dP (.cons t ts) ms (d1,d2) n=(t.av d1::(dP ts ms d2 n).1,(dP ts ms d2 n).2.1,(dP ts ms d2 n).2.2):=by
     show (bif jH t then _ else _)=_
     rw[ht];rfl
    have e2:bH (t::ts.list) ms (x::xs)=bH ts.list ms xs:=by show (bif jH t then _ else _)=_;rw[ht];rfl
    have hu:(bif jH t then _ else iG E.O ts.list ms xs)=some (es,mo,us):=hu
    rw[ht] at hu
    rw[e] at gW⊢
    have:=sW h L ts ms xs d2 q n g2 h2 hu hus hsh gW (fun k q' hq=>hρ k q' (by show (bH (t::ts.list) ms (x::xs))[k]? =_;rw[e2];exact hq))
    refine⟨?_,this.2.1,?_⟩
    ·unfold dG;exact⟨v,q,rfl,H7 ht g1 h1,this.1⟩
    ·show _=n+(bH (t::ts.list) ms (x::xs)).length;rw[e2];exact this.2.2
   |true=>
    cases t with
    |sl vV=>
     cases ms with
     |nil=>cases hu
     |cons m ms=>
      have hu:(match rW m E.O x,iG E.O ts.list ms xs with|some (a,b,c),some (a',b',c')=>some (a++a',b++b',c++c')| _,_=>none)=some (es,mo,us):=hu
      split at hu
      case h_2=>cases hu
      rename_i a b c a' b' c' Uy hub
      cases hu
      have e:dP (.cons (.sl vV) ts) (m::ms) (d1,d2) n=((gJ m (.sl vV) d1 n).1::(dP ts ms d2 (gJ m (.sl vV) d1 n).2.2).1,(dP ts ms d2 (gJ m (.sl vV) d1 n).2.2).2.1++(gJ m (.sl vV) d1 n).2.1,(dP ts ms d2 (gJ m (.sl vV) d1 n).2.2).2.2):=rfl
      have e2:bH ((CT.sl vV)::ts.list) (m::ms) (x::xs)=eu m (.sl vV) x++bH ts.list ms xs:=rfl
      have hn:=MN m (.sl vV) d1 x n
      rw[e] at gW⊢
      have k1:=ML h L (n:=n) g1 h1 Uy (fun i hi=>hus i (adh.2 (.inl hi))) (fun e=>by subst e;exact oH.leak Uy hsh.left) (fun p hp=>gW p (adh.2 (.inr hp))) fun q' hq=>by
       obtain⟨k,hk⟩:=List.getElem?_of_mem hq
       have hlt:k<(eu m (.sl vV) x).length:=by
        rcases Nat.lt_or_ge k (eu m (.sl vV) x).length with y|y
        ·exact y
        ·rw[List.getElem?_eq_none y] at hk;cases hk
       have hk0:k=0:=by
        have:(eu m (.sl vV) x).length<=1:=by cases m<;>first|exact Nat.zero_le _|(cases x<;>exact Nat.le_refl _)
        omega
       subst hk0
       exact hρ 0 q' (by show (eu m (.sl vV) x++bH ts.list ms xs)[0]? =_;rw[List.getElem?_append_left hlt];exact hk)
      have k2:=sW h L ts ms xs d2 q (gJ m (.sl vV) d1 n).2.2 g2 h2 hub (fun i hi=>hus i (adh.2 (.inr hi))) hsh.right (fun p hp=>gW p (adh.2 (.inl hp))) fun k q' hq=>by
       rw[hn,Nat.add_assoc]
       refine hρ _ q' ?_
       show (eu m (.sl vV) x++bH ts.list ms xs)[_]? =_
       rw[List.getElem?_append_right (by omega),Nat.add_sub_cancel_left];exact hq
      refine⟨?_,fun p hp=>(adh.1 hp).elim (k2.2.1 p) (k1.2 p),?_⟩
      ·unfold dG;exact⟨v,q,rfl,k1.1,k2.1⟩
      ·show _=n+(eu m (.sl vV) x++bH ts.list ms xs).length
       rw[List.length_append, <- Nat.add_assoc, <- hn];exact k2.2.2
    | _=>cases ht
end
end Go.E
end
