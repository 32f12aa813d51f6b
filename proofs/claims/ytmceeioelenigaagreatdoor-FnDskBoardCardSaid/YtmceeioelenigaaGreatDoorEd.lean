/- Operations, control and calls. -/
import Derived.Laws.BytesArg
import Derived.Test.YtmceeioelenigaaGreatDoorEc
section
namespace Go.E
variable {E:Env} {tm:List (Nat×AV)} {a:Act} {R:Type} {C:kC} {Rc:ah} {P:Program} {X:Ctx} {o:Ow} {aG:Nat}
section ops
variable {op:Oper} {K:KK R} {r:R}
theorem Wq{w:World}{N:Nat->Prop}:∀ (ts:aC) (d:ts.D) (l:List Value),ts.rp w N d l->∀ v∈l,v.oneCell=true
 | .one t,d,l,h,v,hv=>by
  unfold aC.rp at h;obtain⟨u,rfl,h⟩:=h
  obtain rfl:v=u:=by simpa using hv
  exact Ir h
 | .cons t ts,d,l,h,v,hv=>by
  obtain⟨u,q,rfl,h1,h2⟩:=C9.1 h
  rcases List.mem_cons.1 hv with rfl|hv
  ·exact Ir h1
  ·exact Wq ts d.2 q h2 v hv
theorem IK{w:World}{N:Nat->Prop}{ts:aC}:∀ (ds:List ts.D) (l:List Value),dV ts.n (ts.rp w N) ds l->l.length=ds.length*ts.n->∀ v∈l,v.oneCell=true
 |[],l,_,hl,v,hv=>by
  have:l=[]:=List.eq_nil_of_length_eq_zero (by simpa using hl)
  rw[this] at hv;cases hv
 |d::ds,l,⟨h1,h2,h3⟩,hl,v,hv=>by
  rw[<- List.take_append_drop ts.n l] at hv
  rcases adh.1 hv with hv|hv
  ·exact Wq ts d _ h2 v hv
  ·refine IK ds _ h3 ?_ v hv
   simp only[List.length_cons,Nat.add_mul] at hl
   simp only[List.length_drop];omega
theorem ug{α:Type}{n:Nat}{Q:α->List Value->Prop}(ds es:List α)(l m rest:List Value)(h1:dV n Q ds l)(h2:l.length=ds.length*n)(h3:dV n Q es m)(h4:m.length=es.length*n):dV n Q (ds++es) (l++m++rest):=by
 rw[kT]
 constructor
 ·rw[<- jK ds _ (ds.length*n) (Nat.le_refl _),List.append_assoc,List.take_append_of_le_length (by omega),List.take_of_length_le (by omega)];exact h1
 ·rw[List.append_assoc,List.drop_append_of_le_length (by omega),List.drop_of_length_le (by omega),List.nil_append, <- jK es _ (es.length*n) (Nat.le_refl _),List.take_append_of_le_length (by omega),List.take_of_length_le (by omega)];exact h3
def Src(P:Program)(E:Env)(ts:aC)(o:Ow)(ys:List ts.D)(u:Value):Prop:=
 ∃ m:List Value,m.length=ys.length*ts.n∧dV ts.n (ts.rp E.w E.N) ys m∧(∀ (wr rd:Nat->Prop) (Q:Nat->World->Prop) (w:World),Q ys.length w->acc P wr rd (Builtin.lenOf u) Q w)∧
  (∀ (w:World) (wr:Nat->Prop) (Q:Array Value->World->Prop),w.heap=E.w.heap->Q m.toArray w->acc P wr (vU o E.w) (Builtin.firstCells ts.n ys.length u) Q w)
theorem Hr(h:OK X o E aG){ts:aC}{ys:List ts.D}{deps:List Nat}{u:Value}(hs:TL E deps ts ys u):Src P E ts o ys u:=by
 obtain⟨ad,len,cap,rfl,rfl,h3,h4⟩:=hs
 by_cases hne:ys=[]
 ·subst hne
  refine⟨[],by simp,trivial,fun wr rd Q w hq=>hq,fun w wr Q hw hq=> ?_⟩
  cases ad with
  |none=>exact hq
  |some ad=>
   show acc P wr _ (loadCells ad (0*ts.n)) Q w
   rw[Nat.zero_mul]
   exact uH (vs:=[]) rfl (fun x=>absurd rfl x) hq
 ·obtain⟨b,off,c,e,f,rfl,k2,k3,k4⟩:=h4 hne
  have hl:=wu _ _ k4
  refine⟨(c.toList.drop off).take (ys.length*ts.n),by simp only[List.length_take];omega,(jK ys _ _ (Nat.le_refl _)).2 k4,fun wr rd Q w hq=>hq,fun w wr Q hw hq=> ?_⟩
  refine uH (by simp only[List.length_take];omega) (fun _ j v hj=> ?_) hq
  rw[ou]
  refine⟨?_,?_⟩
  ·rcases k2 with hb|⟨j,_,hb|⟨_,_,_,hl,hb,_⟩⟩
   ·exact .inl (h.zx _ hb).2.1
   ·exact .inl (h.kept _ (h.fg _ hb.2)).2.2
   ·exact .inl (h.us _ (h.own j _ ⟨_,hl,rfl⟩ hb).2.2.2)
  ·unfold World.cell?
   rw[hw,k3]
   rw[List.getElem?_take] at hj
   split at hj
   ·rw[List.getElem?_drop] at hj;simpa using hj
   ·cases hj
theorem FI(s:ByteArray):(tK s).length=s.size:=by unfold tK;simp
theorem Bq{w:World}{N:Nat->Prop}:∀ (l:List UInt8),dV 1 (aC.rp w N (.one (.int .u8))) (l.map fun b=>((b.toNat:Nat):Int)) (l.map fun b=>Value.int .u8 b.toNat)
 |[]=>trivial
 |b::l=>by
  refine⟨by simp,?_,by simpa using Bq l⟩
  exact⟨Value.int .u8 b.toNat,by simp,rfl⟩
theorem aeC{s:ByteArray}:Src P E (.one (.int .u8)) o (tK s) (.string s):=by
 have e: @List.length (aC.one (.int .u8)).D (tK s)=s.size:=FI s
 refine⟨s.data.toList.map fun b=> .int .u8 b.toNat,?_,?_,fun wr rd Q w hq=> ?_,fun w wr Q hw hq=> ?_⟩
 ·rw[e];simp[aC.n]
 ·exact Bq s.data.toList
 ·rw[e] at hq;exact hq
 ·rw[e]
  show Q _ w
  have:(s.extract 0 s.size).data.map (fun b=>Value.int .u8 b.toNat)=(s.data.toList.map fun b=>Value.int .u8 b.toNat).toArray:=by
   apply Array.ext';simp
  rw[this];exact hq
theorem FK{wr rd:Nat->Prop}{b:Bool}{Q:Bool->World->Prop}{w:World}(hb:b=false)(hq:Q false w):acc P wr rd (pure b) Q w:=by rw[hb];exact hq
theorem Am{t t' elem:TypeId}{i:TypeInfo}{ts:aC}{ys:List ts.D}{u:Value}{ad:Option Addr}{len cap:Nat}{ty:TypeId}(hU:P.underlying t=some (.slice elem))(Y7:∃ d,P.underlying t'=some d∧∀ k,d≠ .int k)(hi:P.info? elem=some i)(hsz:i.size=ts.n)
  (hlen:∀ (wr rd:Nat->Prop) (Q:Nat->World->Prop) (w:World),Q ys.length w->acc P wr rd (Builtin.lenOf u) Q w) (hin:len+ys.length<=cap) {wr rd:Nat->Prop} {Q:Value->World->Prop} {w:World}
  (hq:acc P wr rd (Builtin.firstCells ts.n ys.length u) (fun m w=>acc P wr rd (match ad with|some a=>storeCells (a.add (len*ts.n)) m.toList|none=>pure ()) (fun _ w=>Q (.slice ad (len+ys.length) cap) w) w) w):
  acc P wr rd (Builtin.append_ #[t,t'] ty #[.slice ad len cap,u]) Q w:=by
 obtain⟨d',Y7,hd'⟩:=Y7
 unfold Builtin.append_
 simp only[List.getElem?_toArray,List.getElem?_cons_zero,List.getElem?_cons_succ]
 rw[ak,aB hU]
 dsimp only
 rw[ak,fM hi,hsz,ak,aB Y7]
 rw[ak]
 refine FK (b:=_) (by cases d'<;>first|rfl|exact absurd rfl (hd' _)) ?_
 simp only[Bool.false_eq_true,if_false,Bool.not_false,if_true]
 rw[ak]
 refine hlen _ _ _ _ ?_
 rw[if_pos hin,ak]
 refine xP hq fun m w' hm=> ?_
 cases ad with
 |none=>exact hm
 |some ad=>
  dsimp only at hm⊢
  rw[ak]
  exact hm
theorem yj{t t' elem:TypeId}{i:TypeInfo}{z:Value}{ts:aC}{ys:List ts.D}{u:Value}{ad:Option Addr}{len cap:Nat}{ty:TypeId}(hU:P.underlying t=some (.slice elem))(Y7:∃ d,P.underlying t'=some d∧∀ k,d≠ .int k)(hi:P.info? elem=some i)(hsz:i.size=ts.n)
  (hz:i.zero=some z) (hb0:0<i.bytes) (hlen:∀ (wr rd:Nat->Prop) (Q:Nat->World->Prop) (w:World),Q ys.length w->acc P wr rd (Builtin.lenOf u) Q w) (hout:cap<len+ys.length) (hsmall:(len+ys.length)*i.bytes<=140737488355328) {wr rd:Nat->Prop} {Q:Value->World->Prop} {w:World}
  (hq:∀ newCap,len+ys.length<=newCap->acc P wr rd (do let old <- Builtin.firstCells ts.n len (.slice ad len cap);let new <- Builtin.firstCells ts.n ys.length u;pure (old,new)) (fun q w=>Q (.slice (some ⟨w.heap.size,0,none⟩) (len+ys.length) newCap) {w with heap:=w.heap.push (.cells (q.1++q.2++Builtin.zeroCells z.cells (newCap-(len+ys.length))) elem)}) {w with drawn:=w.drawn+1}):
  acc P wr rd (Builtin.append_ #[t,t'] ty #[.slice ad len cap,u]) Q w:=by
 obtain⟨d',Y7,hd'⟩:=Y7
 unfold Builtin.append_
 simp only[List.getElem?_toArray,List.getElem?_cons_zero,List.getElem?_cons_succ]
 rw[ak,aB hU]
 dsimp only
 rw[ak,fM hi,hsz,ak,aB Y7]
 rw[ak]
 refine FK (b:=_) (by cases d'<;>first|rfl|exact absurd rfl (hd' _)) ?_
 simp only[Bool.false_eq_true,if_false,Bool.not_false,if_true]
 rw[ak]
 refine hlen _ _ _ _ ?_
 have hmax:((len+ys.length:Nat):Int)<=IntKind.i64.max:=by
  show ((len+ys.length:Nat):Int)<=9223372036854775807
  have:len+ys.length<=(len+ys.length)*i.bytes:=Nat.le_mul_of_pos_right _ hb0
  omega
 have hfit:=growslice_fits hout hsmall
 rw[if_neg (Nat.not_le.2 hout),ak,kJ hi,if_neg (by simp;omega),ak,kJ hi]
 have aja:¬ (Builtin.nextslicecap (len+ys.length) cap*i.bytes>2^48):=by
  have:(2:Nat)^48=281474976710656:=by decide
  omega
 rw[if_neg aja,ak]
 have hch:∀ (Q':Nat->World->Prop),(∀ n,len+ys.length<=n->Q' n {w with drawn:=w.drawn+1})->acc P wr rd (choose (.appendCap (len+ys.length) cap elem)) Q' w:=by
  intro Q' h'
  show (if (Question.appendCap (len+ys.length) cap elem).forced then _ else _)
  rw[if_neg (by simp[Question.forced])]
  exact h' _ (Nat.le_add_right _ _)
 refine hch _ fun newCap hnew=> ?_
 rw[ak,kJ hi,ak]
 have room:∀ {Q:Unit->World->Prop} {w:World},Q () w->acc P wr rd (askRoom (newCap*i.bytes)) Q w:=by
  intro Q w hq
  unfold askRoom
  split
  ·exact⟨.inl rfl,hq⟩
  ·exact hq
 refine room ?_
 have hq:=hq newCap hnew
 rw[ak] at hq⊢
 refine xP hq fun old w' hold=> ?_
 rw[ak] at hold⊢
 refine xP hold fun new w'' hnw=> ?_
 rw[bY] at hnw
 rw[ak,iY hi hz,ak,nG,bY]
 exact hnw
end ops
end Go.E
end
section
namespace Go.E
variable {E:Env} {tm:List (Nat×AV)} {a:Act} {R:Type} {C:kC} {Rc:ah} {P:Program} {X:Ctx} {o:Ow} {aG:Nat}
section ops
variable {op:Oper} {K:KK R} {r:R}
theorem ZP{id:Nat}{ts:aC}{rows:List ts.D}{wr:Bool}(h:OK X o E aG)(hl:look E.O id=some (.arr ts rows wr))(hb:(E.ρ id).b=none):
  let E':Env:={E with O:=dw [.kill id] ((id,.arr ts rows true)::E.O)}
  OK X o E' aG∧Step E E' [.kill id]:=by
 intro E'
 have Zu:=lW (es:=[.kill id]) (id:=id) (a':= .arr ts rows true) (O:=E.O) (fun _=>rfl) rfl
 have XB:look E'.O id=some (.arr ts rows true):=Zu.1
 have lk:∀ i,i≠id->look E'.O i=(look E.O i).map (jd [.kill id]):=Zu.2
 have hk:Keep E E' fun i=>i=id:=by
  refine⟨fun b hb=>⟨hb,rfl⟩,fun b hb=>⟨hb,rfl⟩,fun i hi ts' pK wr' hl'=>⟨by rw[lk i hi,hl'];rfl,rfl,fun b hb=>rfl⟩,fun i cs hl'=> ?_,fun i m hl'=> ?_⟩
  ·have x:i≠id:=fun x=>by rw[x,hl] at hl';cases hl'
   exact⟨gK [.kill id] cs,by rw[lk i x,hl'];rfl,rfl⟩
  ·have x:i≠id:=fun x=>by rw[x,hl] at hl';cases hl'
   exact⟨m,by rw[lk i x,hl'];rfl,rfl⟩
 have hs:Step E E' [.kill id]:=hk.kill fun deps b e c t f hb' hc=>by
  rcases hb' with hb'|⟨i,hi,hb'|⟨ts',pK,wr',hl',hr,he⟩⟩
  ·exact⟨.inl hb',c,t,f,hc,rfl⟩
  ·exact⟨.inr ⟨i,hi,.inl hb'⟩,c,t,f,hc,rfl⟩
  ·have x:i≠id:=fun x=>by rw[x,hb] at hr;cases hr
   exact⟨.inr ⟨i,hi,.inr ⟨ts',pK,wr',(hk.arr i x ts' pK wr' hl').1,hr,he⟩⟩,c,t,f,hc,rfl⟩
 refine⟨h.next hs (fun i=>i=id) (fun b hb=>rfl) (Nat.le_refl _) (fun _ hb=>hb) rfl (fun _ hb=>hb) (fun _ hb=>hb) h.us (Nat.le_refl _) ?_ ?_ ?_ h.zx,hs⟩
 ·intro i x hi hne
  rw[lk i hne] at hi
  obtain⟨x,hx,rfl⟩:=Option.map_eq_some_iff.1 hi
  exact⟨x,hx,rfl,fun l=>⟨rfl,fun b' hb'=>⟨(h.own i b' ⟨x,hx,l⟩ hb').2.1,rfl⟩⟩⟩
 ·intro i x hi hi'
  subst hi
  rw[XB] at hi'
  cases hi'
  have:=h.num i _ hl
  refine⟨this.1,this.2,?_⟩
  have ho:=h.obj i _ hl
  unfold fV at ho⊢
  rw[hb] at ho
  show match (E.ρ i).b with|none=>_|some b=>_
  rw[hb];exact ho
 ·intro i b hi _ hb'
  subst hi
  have hb':(E.ρ i).b=some b:=hb'
  rw[hb] at hb';cases hb'
theorem Ws(z:Array Value)(n:Nat):(Builtin.zeroCells z n).size=n*z.size:=by simp[Builtin.zeroCells]
theorem XE(T:gU P C){args:Array Operand}{tys:Array TypeId}(h:OK X o E aG)(ht:kD E tm a.tmps)(hop:op.op= .call ⟨.builtin .append,args,tys⟩)(hr:fP C Rc tm E.O aG op K=some r):Does P X o E a.eval op K r:=by
 unfold fP at hr
 rw[hop] at hr
 dsimp only at hr
 split at hr
 case h_2=>cases hr
 rename_i x y t t' h1 h2
 split at hr
 case h_2=>cases hr
 rename_i ti row hl hsl
 obtain⟨hst,hr⟩:=gG hr
 obtain⟨ti',te',e1,hU,e2,e3,_⟩:=T.D7 hsl
 rw[hl] at e1;cases e1
 have Y7:∃ d,P.underlying t'=some d∧∀ k,d≠ .int k:=by
  simp only[Bool.not_eq_false',Bool.or_eq_true] at hst
  rcases hst with hs|hs
  ·exact⟨_,T.Zw hs,fun k x=>by cases x⟩
  ·split at hs
   ·rename_i ts2 hs2
    obtain⟨_,_,_,hU2,_⟩:=T.D7 hs2
    exact⟨_,hU2,fun k x=>by cases x⟩
   ·cases hs
 obtain⟨u,u',ha,v1,v2⟩:=CY ht h1
 unfold qM at hr
 rw[e2] at hr
 dsimp only at hr
 rw[e3] at hr
 dsimp only at hr
 obtain⟨_,hr⟩:=gG hr
 obtain⟨i,z,hi,hsz,hby,hb0,_,hz,hzs,hrp⟩:=T.NV e2 e3
 split at hr
 case h_2=>cases hr
 rename_i ys hys
 have hsrc:Src P E row o ys u':=by
  split at hys
  ·cases hys
   unfold VR at v2;subst v2
   exact Hr (deps:=[]) h ⟨_,_,_,rfl,rfl,Nat.le_refl _,fun x=>absurd rfl x⟩
  ·obtain⟨rfl,rfl⟩:=kU hys
   unfold VR at v2;subst v2
   exact aeC
  ·split at hys
   ·rename_i q hq
    obtain⟨e,rfl⟩:=kU hys
    have:=kL h hq v2
    obtain⟨qts,ajb,ajc⟩:=q
    dsimp only at e this⊢
    subst e
    exact Hr h this
   ·cases hys
 obtain⟨m,m1,m2,m3,m4⟩:=hsrc
 have ex:∀ {Q:Next->World->Prop},acc P (wC o E.w) (vU o E.w) (Builtin.append_ #[t,t'] op.type #[u,u']) (fun v w=>Q (.value v) w) E.w->acc P (wC o E.w) (vU o E.w) (execOp a.eval op) Q E.w:=by
  intro Q hq
  rw[lX hop,ha,aeA h2]
  unfold builtin
  dsimp only
  rw[jL]
  exact hq
 split at hr
 ·
  obtain⟨hc,hr⟩:=aP hr
  unfold VR at v1;subst v1
  by_cases h0:ys=[]
  ·subst h0
   obtain⟨hs,hok⟩:=V7 h row true
   refine⟨.own aG,_,_,[],hr,ex (Am hU Y7 hi hsz m3 (Nat.le_refl _) (m4 E.w _ _ rfl ?_))⟩
   show Qn X o E _ _ _ _ _ _
   refine⟨{E with ρ:=upd E.ρ aG ⟨none,0⟩,O:=(aG,.arr row [] true)::E.O},rfl,rfl,rfl,hok.grow,hs,.inr ⟨_,rfl,?_⟩⟩
   unfold VR
   refine⟨row,[],true,dA _ _ _,?_⟩
   show _=Value.slice ((upd E.ρ aG _ aG).b.map _) _ (upd E.ρ aG _ aG).cap
   rw[kK];rfl
  ·have hpos:0<ys.length:=List.length_pos_iff.2 h0
   refine⟨.own aG,_,_,[],hr,ex (yj hU Y7 hi hsz hz (by rw[hby];exact hb0) m3 (by omega) (by rw[Nat.zero_add,hby];exact hc) fun newCap hnew=> ?_)⟩
   rw[ak]
   show acc P _ _ (do let new <- Builtin.firstCells row.n ys.length u';pure (#[],new)) _ _
   rw[ak]
   refine m4 _ _ _ rfl ?_
   rw[bY]
   show Qn X o E _ _ _ _ _ _
   let w2:World:={heap:=E.w.heap.push (.cells (#[]++m.toArray++Builtin.zeroCells z.cells (newCap-(0+ys.length))) ti.elem),tape:=E.w.tape,drawn:=E.w.drawn+1,os:=E.w.os,output:=E.w.output}
   obtain⟨hk,hs,hok⟩:=aeu (w':=w2) h rfl (.arr row ys true) newCap
   refine⟨{E with w:=w2,ρ:=upd E.ρ aG ⟨some E.w.heap.size,newCap⟩,O:=(aG,.arr row ys true)::E.O},rfl,rfl,rfl,hok ?_,hs,.inr ⟨_,rfl,?_⟩⟩
   ·unfold fV
    show match (upd E.ρ aG _ aG).b with|none=>_|some b=>_
    rw[kK]
    refine⟨_,_,_,by show (E.w.heap.push _)[_]? =_;simp;exact⟨rfl,rfl⟩,IC _,?_,?_,?_⟩
    ·show _<=(upd E.ρ aG _ aG).cap
     rw[kK];simpa using hnew
    ·show (upd E.ρ aG _ aG).cap*_<=_
     rw[kK]
     simp only[Array.size_append,Ws,hzs,List.size_toArray,m1,Nat.sub_mul]
     have:=Nat.mul_le_mul_right row.n hnew
     simp only[Nat.zero_add] at this⊢
     simp;omega
    ·have:=ug [] ys [] m (Builtin.zeroCells z.cells (newCap-(0+ys.length))).toList trivial (by simp) m2 m1
     have:=fJ (fun d l=>aC.jI hk.Bj row d l) _ _ this
     simpa using this
   ·unfold VR
    refine⟨row,ys,true,dA _ _ _,?_⟩
    show _=Value.slice ((upd E.ρ aG _ aG).b.map _) _ (upd E.ρ aG _ aG).cap
    rw[kK];simp
 ·
  rename_i id _ _
  split at hr
  case h_2=>cases hr
  rename_i ts' jW hlo
  split at hr
  case h_2=>cases hr
  rename_i rows hcast
  obtain⟨e,rfl⟩:=kU hcast
  subst e
  obtain⟨hc,hr⟩:=aP hr
  unfold VR at v1
  obtain⟨ts1,Iy,wr1,g1,rfl⟩:=v1
  rw[hlo] at g1;cases g1
  have ho:=h.obj id _ hlo
  unfold fV at ho
  have lt:=lW (es:=[.kill id]) (id:=id) (a':= .arr ts' (jW++ys) true) (O:=E.O) (fun _=>rfl) rfl
  by_cases hin:jW.length+ys.length<=(E.ρ id).cap
  ·refine⟨.own id,_,_,[.kill id],hr,ex (Am hU Y7 hi hsz m3 hin (m4 E.w _ _ rfl ?_))⟩
   cases hb:(E.ρ id).b with
   |none=>
    rw[hb] at ho
    obtain⟨h0,hcap0⟩:=ho
    subst h0
    have hy:ys=[]:=List.eq_nil_of_length_eq_zero (by rw[hcap0] at hin;omega)
    subst hy
    obtain⟨hok,hs⟩:=ZP h hlo hb
    show Qn X o E _ _ _ _ _ _
    refine⟨{E with O:=dw [.kill id] ((id,.arr ts' [] true)::E.O)},rfl,rfl,rfl,hok.grow,hs,.inr ⟨_,rfl,?_⟩⟩
    unfold VR
    refine⟨ts',[],true,lt.1,?_⟩
    show _=Value.slice ((E.ρ id).b.map _) _ (E.ρ id).cap
    rw[hb];rfl
   |some b=>
    rw[hb] at ho
    obtain⟨c,tt,f,k1,k2,k3,k4,k5⟩:=ho
    show acc P _ _ (storeCells (Addr.add ⟨b,0,none⟩ (jW.length*ts'.n)) m.toArray.toList) _ _
    rw[ou,Nat.zero_add]
    have hend:jW.length*ts'.n+ys.length*ts'.n<=c.size:=by
     rw[<- Nat.add_mul];exact Nat.le_trans (Nat.mul_le_mul_right _ hin) k4
    refine oz m _ 0 E.w c tt f _ (CZ h hlo rfl hb) k1 k2 (IK ys m m2 m1) (by rw[m1];omega) ?_
    intro w' c' z1 z2 z3 z4 z5
    have wo:=zA (w':=w') h hlo rfl hb z1 z2 (.arr ts' (jW++ys) true) rfl [.kill id] (fun _=>rfl) rfl
    have hk:=wo.1 rfl
    have htk:c'.toList.take (jW.length*ts'.n)=c.toList.take (jW.length*ts'.n):=by
     have hcl:c.toList.length=c.size:=by simp
     rw[z5,Nat.add_zero,List.append_assoc,List.take_append_of_le_length (by simp;omega),List.take_take,Nat.min_self]
    have hs:=hk.kill fun deps=>ahb h hlo hb k1 z3 z2 (by simp) htk true deps
    have hok:=wo.2 hs (by
     unfold fV
     show match (E.ρ id).b with|none=>_|some b=>_
     rw[hb]
     refine⟨c',tt,f,z3,fun j hj=>k2 j (by omega),by simpa using hin,by rw[z4];exact k4,?_⟩
     have q1:=fJ (fun d l=>aC.jI hk.Bj ts' d l) _ _ ((jK jW _ _ (Nat.le_refl _)).2 k5)
     have q2:=fJ (fun d l=>aC.jI hk.Bj ts' d l) _ _ m2
     have:=ug jW ys (c.toList.take (jW.length*ts'.n)) m (c.toList.drop (jW.length*ts'.n+m.length)) q1 (by simp;omega) q2 m1
     rw[z5,Nat.add_zero];exact this)
    show Qn X o E _ _ _ _ _ _
    refine⟨{E with w:=w',O:=dw [.kill id] ((id,.arr ts' (jW++ys) true)::E.O)},rfl,rfl,rfl,hok.grow,hs,.inr ⟨_,rfl,?_⟩⟩
    unfold VR
    refine⟨ts',jW++ys,true,lt.1,?_⟩
    show _=Value.slice ((E.ρ id).b.map _) _ (E.ρ id).cap
    rw[hb];simp
  ·have hq:rowsOf E.O (.own id)=some ⟨ts',jW,[id]⟩:=by
    show (match look E.O id with|some (.arr ts jW _)=>some (Rows.mk ts jW [id])| _=>none)=_
    rw[hlo]
   have hown:VR E (.own id) (.slice ((E.ρ id).b.map fun b=>⟨b,0,none⟩) jW.length (E.ρ id).cap):=by
    unfold VR;exact⟨ts',jW,true,hlo,rfl⟩
   obtain⟨l0,l1,l2,_,l4⟩:=Hr (P:=P) h (kL h hq hown)
   refine⟨.own id,_,_,[.kill id],hr,ex (yj hU Y7 hi hsz hz (by rw[hby];exact hb0) m3 (by omega) (by rw[hby];exact hc) fun newCap hnew=> ?_)⟩
   rw[ak]
   refine l4 _ _ _ rfl ?_
   rw[ak]
   refine m4 _ _ _ rfl ?_
   rw[bY]
   show Qn X o E _ _ _ _ _ _
   let w2:World:={heap:=E.w.heap.push (.cells (l0.toArray++m.toArray++Builtin.zeroCells z.cells (newCap-(jW.length+ys.length))) ti.elem),tape:=E.w.tape,drawn:=E.w.drawn+1,os:=E.w.os,output:=E.w.output}
   obtain⟨hs,hok⟩:=Zt (w':=w2) h hlo rfl (jW++ys) newCap
   have hN:uX E.N (fun b=>E.N b∨(E.ρ id).b=some b) E.w w2:=fun b hb=>⟨.inl hb,by
    show (E.w.heap.push _)[b]? =_
    rw[Array.getElem?_push];simp[Nat.ne_of_lt (h.zx b hb).1]⟩
   refine⟨{E with w:=w2,N:=fun b=>E.N b∨(E.ρ id).b=some b,ρ:=upd E.ρ id ⟨some E.w.heap.size,newCap⟩,O:=dw [.kill id] ((id,.arr ts' (jW++ys) true)::E.O)},rfl,rfl,rfl,hok ?_,hs,.inr ⟨_,rfl,?_⟩⟩
   ·unfold fV
    show match (upd E.ρ id _ id).b with|none=>_|some b=>_
    rw[kK]
    refine⟨_,_,_,by show (E.w.heap.push _)[_]? =_;simp;exact⟨rfl,rfl⟩,IC _,?_,?_,?_⟩
    ·show _<=(upd E.ρ id _ id).cap
     rw[kK];simpa using hnew
    ·show (upd E.ρ id _ id).cap*_<=_
     rw[kK]
     have l1':l0.length=jW.length*ts'.n:=l1
     simp only[Array.size_append,Ws,hzs,List.size_toArray,List.length_append,m1,l1',Nat.sub_mul]
     have:=Nat.mul_le_mul_right ts'.n hnew
     simp only[Nat.add_mul] at this⊢
     omega
    ·have:=ug jW ys l0 m (Builtin.zeroCells z.cells (newCap-(jW.length+ys.length))).toList l2 l1 m2 m1
     have:=fJ (fun d l=>aC.jI hN ts' d l) _ _ this
     simpa using this
   ·unfold VR
    refine⟨ts',jW++ys,true,lt.1,?_⟩
    show _=Value.slice ((upd E.ρ id _ id).b.map _) _ (upd E.ρ id _ id).cap
    rw[kK];simp
 ·cases hr
end ops
end Go.E
end
section
namespace Go.E
variable {E:Env} {tm:List (Nat×AV)} {a:Act} {R:Type} {C:kC} {Rc:ah} {P:Program} {X:Ctx} {o:Ow} {aG:Nat}
section ops
variable {op:Oper} {K:KK R} {r:R}
theorem GK{wr rd:Nat->Prop}{w:World}(f:Value->ByteArray->Sem (ForInStep ByteArray))(hf:∀ (n:Int) (s:ByteArray) (Q:ForInStep ByteArray->World->Prop),Q (.yield (s.push (UInt8.ofNat n.toNat))) w->acc P wr rd (f (.int .u8 n) s) Q w):
  ∀ (ns:List Int) (s:ByteArray) (Q:ByteArray->World->Prop),Q (ns.foldl (fun r n=>r.push (UInt8.ofNat n.toNat)) s) w->acc P wr rd (forIn (ns.map (Value.int .u8)) s f) Q w:=by
 intro ns
 induction ns with
 |nil=>intro s Q hq;simpa [bY] using hq
 |cons n ns ih=>
  intro s Q hq
  simp only[List.map_cons,List.forIn_cons]
  rw[ak]
  exact hf n s _ (ih _ _ hq)
theorem KY(ns:List Int):ns.foldl (fun r n=>r.push (UInt8.ofNat n.toNat)) ByteArray.empty=bU ns:=by
 rw[foldl_push_bytes]
 unfold bU
 show ByteArray.mk (#[]++_)=_
 congr 1
 simp
theorem FM{w:World}{N:Nat->Prop}:∀ (ds:List Int) (l:List Value),dV 1 (aC.rp w N (.one (.int .u8))) ds l->l.take ds.length=ds.map (Value.int .u8)
 |[],_,_=>by simp
 |d::ds,l,⟨h1,h2,h3⟩=>by
  obtain⟨v,e,h2⟩:=h2
  have h2:v= .int .u8 d:=h2
  subst h2
  cases l with
  |nil=>simp at h1
  |cons x l=>
   simp only[List.take_succ_cons,List.take_zero,List.cons.injEq,and_true] at e
   subst e
   have:=FM ds l (by simpa using h3)
   simp[this]
theorem QH{α:Type}(A:Array α)(x:α)(f:α->α):(A.push x).modify A.size f=A.push (f x):=by
 apply Array.ext
 ·simp
 ·intro i h1 h2
  rw[Array.getElem_modify]
  simp only[Array.getElem_push]
  split
  ·rename_i e;subst e;simp
  ·rename_i e
   have:i<A.size:=by simp at h2;omega
   simp[this]
theorem Ud(T:gU P C){src dst:TypeId}{x:Operand}(h:OK X o E aG)(ht:kD E tm a.tmps)(hop:op.op= .convert src dst x)(hr:fP C Rc tm E.O aG op K=some r):Does P X o E a.eval op K r:=by
 have ex:∀ {Q:Next->World->Prop} {ds dd:TypeDesc},P.underlying src=some ds->P.underlying dst=some dd->(∀ u:Value,u=a.eval x->acc P (wC o E.w) (vU o E.w) (do
   match ds,dd,u with
   | _,.int k,.int _ n=>Conv.intToInt k n
   | _,.float k,.int _ n=>Conv.intToFloat k n
   | _,.int k,.float s b=>Conv.floatToInt s b k
   | _,.float k,.float s b=>Conv.floatToFloat s b k
   | _,.complex k,.complex s a b=>Conv.complexToComplex s a b k
   | _,.string,.int _ n=>Conv.intToString n
   | _,.string,.string _=>pure u
   | _,.slice e,.string s=>
    match <- underlying e with
    | .int .u8=>Conv.stringToBytes e s
    | .int .i32=>Conv.stringToRunes e s
    | _ => stuck "Convert: string to a slice of what?"
   | .slice _,.slice e,.slice (some a) _ _=>
    match src==dst, <- underlying e with
    |true,.int .u8=>do markStringish a;pure u
    | _,_ => unsupported (.noEntry "convert/other")
   | .slice e,.string,x=>
    match <- underlying e with
    | .int .u8=>Conv.bytesToString x
    | .int .i32=>Conv.runesToString x
    | _ => stuck "Convert: a slice of what to string?"
   | .unsafePointer,_,x| _,.unsafePointer,x=>Conv.unsafePointer src dst x
   | .int _,_,.pointer (some _)=>unsupported .addressObserved
   | _,_,_ => unsupported (.noEntry "convert/other")) (fun u w => Q (.value u) w) E.w) -> acc P (wC o E.w) (vU o E.w) (execOp a.eval op) Q E.w := by
  intro Q ds dd hs hd hq
  unfold execOp
  rw[hop]
  dsimp only
  rw[jL]
  unfold convert
  rw[ak,aB hs,ak,aB hd]
  exact hq _ rfl
 have kdS:∀ {t:TypeId} {ti:TI},look C.ty t=some ti->Nat.beq ti.kd 9=true->P.underlying t=some .string:=fun hl hk=>
  T.Zw (by unfold AZ;rw[hl];exact hk)
 have kdI:∀ {t:TypeId} {ti:TI} {k:IntKind},look C.ty t=some ti->Nat.beq ti.kd 11=true->ti.row=some (.one (.int k))->P.underlying t=some (.int k):=by
  intro t ti k hl hk hrow
  obtain⟨d,h1,h2⟩:=T.under t ti hl
  have hk:=aeh hk
  have:=TI.nD h2 (by rw[hk];decide)
  rw[hk] at this
  obtain⟨k',rfl⟩:∃ k,d= .int k:=by simpa using this
  have:=h2.2.2 _ hrow
  cases this
  exact h1
 unfold fP at hr
 rw[hop] at hr
 dsimp only at hr
 split at hr
 ·rename_i k n td ts h1 h2 h3
  split at hr
  ·rename_i k' hrow
   obtain⟨hk,hr⟩:=aX hr
   have e1:=dR ht h1
   unfold VR at e1
   obtain⟨d,hd,_⟩:=T.under src ts h3
   refine Does.val (u:= .int k' (k'.wrap n)) h hr (by unfold VR;rfl) fun Q hq=>ex hd (kdI h2 hk hrow) fun u hu=> ?_
   rw[hu,e1]
   exact hq
  ·cases hr
 ·rename_i s td ts h1 h2 h3
  have e1:=dR ht h1
  unfold VR at e1
  obtain⟨d,hd,_⟩:=T.under src ts h3
  cases hk:Nat.beq td.kd 9 with
  |true=>
   rw[hk] at hr
   refine Does.val (u:= .string s) h hr (by unfold VR;rfl) fun Q hq=>ex hd (kdS h2 hk) fun u hu=> ?_
   rw[hu,e1]
   exact hq
  |false=>
   rw[hk] at hr
   dsimp only[cond_false] at hr
   split at hr
   ·rename_i hsl
    split at hr
    ·rename_i te hl2
     obtain⟨hke,hr⟩:=aX hr
     obtain⟨ti',te',f1,hU,f2,f3,_⟩:=T.D7 hsl
     rw[h2] at f1;cases f1
     rw[hl2] at f2;cases f2
     have hE:=kdI hl2 hke f3
     obtain⟨q,hq⟩:∃ q,q=(Question.appendCap s.size 0 td.elem).cut (E.w.tape E.w.drawn (.appendCap s.size 0 td.elem)):=⟨_,rfl⟩
     have hqs:s.size<=q:=by rw[hq];exact Nat.le_add_right _ _
     let elems:Array Value:=s.data.map fun b=> .int .u8 b.toNat
     let cells:Array Value:=elems++Array.replicate (q-s.size) (.int .u8 0)
     have hcs:cells.size=q:=by simp[cells,elems];have:s.size=s.data.size:=rfl;omega
     let w2:World:={heap:=E.w.heap.push (.cells cells td.elem (q,q+1)),tape:=E.w.tape,drawn:=E.w.drawn+1,os:=E.w.os,output:=E.w.output}
     refine Does.new (cap:=q) (w':=w2) (u:= .slice (some ⟨E.w.heap.size,0,none⟩) s.size q) h hr rfl ?_ ?_
     ·intro E' _ _ _ _ _ e2 e3 e4
      have hln: @List.length (aC.one (.int .u8)).D (tK s)=s.size:=FI s
      refine⟨?_,?_⟩
      ·unfold fV
       rw[e2]
       refine⟨_,_,_,e4,fun off ho hh=>by rw[hcs] at ho;exact absurd hh.1 (Nat.not_le.2 ho),by rw[hln];exact hqs,by rw[hcs];simp[aC.n],?_⟩
       have h5:=Bq (w:=E'.w) (N:=E'.N) s.data.toList
       have h6:=ug (n:=1) (Q:=aC.rp E'.w E'.N (.one (.int .u8))) [] _ [] (s.data.toList.map fun b=>Value.int .u8 b.toNat) (Array.replicate (q-s.size) (Value.int .u8 0)).toList trivial rfl h5 (by rw[Nat.mul_one];exact (List.length_map _).trans (List.length_map _).symm)
       have h7:cells.toList=[]++(s.data.toList.map fun b=>Value.int .u8 b.toNat)++(Array.replicate (q-s.size) (Value.int .u8 0)).toList:=by simp[cells,elems]
       rw[h7];exact h6
      ·unfold VR
       exact⟨_,_,true,by rw[e3];exact dA _ _ _,by rw[e2,hln];rfl⟩
     ·intro Q hQ
      refine ex hd hU fun u hu=> ?_
      rw[hu,e1]
      have base : acc P (wC o E.w) (vU o E.w) (do match <- underlying td.elem with | .int .u8 => Conv.stringToBytes td.elem s | .int .i32 => Conv.stringToRunes td.elem s | _ => stuck "Convert: string to a slice of what?") (fun u w => Q (.value u) w) E.w := by
       rw[ak,aB hE]
       dsimp only
       unfold Conv.stringToBytes
       rw[ak]
       show (if (Question.appendCap s.size 0 td.elem).forced then _ else _)
       rw[if_neg (by simp[Question.forced]), <- hq,show (Sem.pure q:Sem Nat)=pure q from rfl,bY]
       dsimp only
       rw[ak,nG]
       dsimp only
       rw[ak]
       unfold markStringish
       rw[ak]
       show acc P _ _ (match (World.shape? _ _:Option (TypeId×Nat)) with|some (_,n)=>_| _=>_) _ _
       have hsh:World.shape? {heap:=E.w.heap.push (.cells cells td.elem),tape:=E.w.tape,drawn:=E.w.drawn+1,os:=E.w.os,output:=E.w.output} E.w.heap.size=some (td.elem,q):=by
        unfold World.shape?
        simp[hcs]
       rw[hsh]
       dsimp only
       show wC o E.w E.w.heap.size∧_
       refine⟨.inr (Nat.le_refl _),?_⟩
       have hfr:World.freeze {heap:=E.w.heap.push (.cells cells td.elem),tape:=E.w.tape,drawn:=E.w.drawn+1,os:=E.w.os,output:=E.w.output} ⟨E.w.heap.size,q,none⟩ 1=w2:=by
        unfold World.freeze
        rw[if_neg (by decide)]
        dsimp only
        rw[QH]
        rfl
       show Q _ (World.freeze _ _ _)
       rw[hfr]
       exact hQ
      cases d<;>exact base
    ·cases hr
   ·cases hr
 ·rename_i v td tsr hni hns h1 h2 h3
  have e1:=dR ht h1
  split at hr
  ·rename_i hsl
   split at hr
   ·rename_i te hl2
    obtain⟨hk,hr⟩:=aX hr
    simp only[Bool.and_eq_true] at hk
    obtain⟨ti',te',f1,hU,f2,f3,_⟩:=T.D7 hsl
    rw[h3] at f1;cases f1
    rw[hl2] at f2;cases f2
    have hE:=kdI hl2 hk.1 f3
    have hD:=kdS h2 hk.2
    have fin:∀ {ad:Option Addr} {len cap:Nat} {Q:Next->World->Prop},a.eval x= .slice ad len cap->acc P (wC o E.w) (vU o E.w) (Conv.bytesToString (.slice ad len cap)) (fun u w=>Q (.value u) w) E.w->acc P (wC o E.w) (vU o E.w) (execOp a.eval op) Q E.w:=by
     intro ad len cap Q e hq
     refine ex hU hD fun u hu=> ?_
     rw[hu,e]
     dsimp only
     rw[ak,aB hE]
     exact hq
    split at hr
    ·unfold VR at e1
     exact Does.val (u:= .string .empty) h hr (by unfold VR;rfl) fun Q hq=>fin e1 hq
    ·split at hr
     ·rename_i q hq
      split at hr
      ·rename_i l hcast
       have hs:=kL h hq e1
       obtain⟨e,hl⟩:=kU hcast
       obtain⟨qts,ajb,ajc⟩:=q
       dsimp only at e hs hl
       subst e
       subst hl
       refine Does.val (u:= .string (bU l)) h hr (by unfold VR;rfl) fun Q hQ=> ?_
       obtain⟨m,m1,m2,m3,m4⟩:=Hr (P:=P) h hs
       obtain⟨ad,len,cap,g1,g2,g3,g4⟩:=hs
       refine fin g1 ?_
       have hm:m=l.map (Value.int .u8):=by
        have:=FM l m m2
        rw[<- this,List.take_of_length_le (by rw[m1];exact Nat.le_of_eq (Nat.mul_one _))]
       rw[g1] at m4
       cases ad with
       |none=>
        have h0:l=[]:=Classical.byContradiction fun hne=>by
         obtain⟨_,_,_,_,_,x,_⟩:=g4 hne;cases x
        subst h0
        exact hQ
       |some ad=>
        unfold Conv.bytesToString
        dsimp only
        rw[ak]
        have hl: @List.length (aC.one (.int .u8)).D l*1=len:=by rw[Nat.mul_one];exact g2.symm
        have step:∀ (Q':Array Value->World->Prop),Q' m.toArray E.w->acc P (wC o E.w) (vU o E.w) (loadCells ad len) Q' E.w:=by
         intro Q' h'
         have:=m4 E.w (wC o E.w) Q' rfl h'
         rw[<- hl]
         exact this
        refine step _ ?_
        rw[hm]
        simp only[List.forIn_toArray]
        rw[ak]
        refine GK _ ?_ _ _ _ ?_
        ·intro n s Q' h';exact h'
        ·exact Eq.mpr (congrArg (fun z=>Q (Next.value (Value.string z)) E.w) (KY l)) hQ
      ·cases hr
     ·cases hr
   ·cases hr
  ·cases hr
 ·cases hr
end ops
end Go.E
end
section
namespace Go.E
variable {E:Env} {tm:List (Nat×AV)} {a:Act} {R:Type} {C:kC} {Rc:ah} {P:Program} {X:Ctx} {o:Ow} {aG:Nat}
def mR(kt:CT){β:Type}(Rv:β->Value->Prop):List (kt.D×β)->List MapEntry->Prop
 |[],l=>l=[]
 |(k,x)::r,l=>∃ e l',l=e::l'∧lC kt k e.key∧Rv x e.val∧mR kt Rv r l'
theorem Dc{kt:CT}:∀ {es:List (kt.D×AV)} {l:List MapEntry},TT E kt es l↔mR kt (fun x v=>pX x=true∧VR E x v) es l
 |[],l=>Iff.rfl
 |(k,x)::r,l=>by
  constructor
  ·rintro⟨e,l',h1,h2,h3,h4,h5⟩;exact⟨e,l',h1,h2,⟨h3,h4⟩,Dc.1 h5⟩
  ·rintro⟨e,l',h1,h2,⟨h3,h4⟩,h5⟩;exact⟨e,l',h1,h2,h3,h4,Dc.2 h5⟩
theorem uh{kt vt:CT}:∀ {es:List (kt.D×vt.D)} {l:List MapEntry},aer kt vt es l↔mR kt (lC vt) es l
 |[],l=>Iff.rfl
 |(k,x)::r,l=>by
  constructor
  ·rintro⟨e,l',h1,h2,h3,h5⟩;exact⟨e,l',h1,h2,h3,uh.1 h5⟩
  ·rintro⟨e,l',h1,h2,h3,h5⟩;exact⟨e,l',h1,h2,h3,uh.2 h5⟩
theorem FN{kt:CT}{d:TypeDesc}(hd:cellT kt d){k j:kt.D}{u v:Value}(hu:lC kt k u)(hv:lC kt j v):Instr.sameNow d u v=some (keq kt k j):=by
 cases kt with
 |int q=>have hd:d= .int q:=hd;subst hd;have hu:u= .int q k:=hu;have hv:v= .int q j:=hv;subst hu hv;show (if q=q then some (_==_) else none)=_;rw[if_pos rfl];rfl
 |bool=>have hd:d= .bool:=hd;subst hd;have hu:u= .bool k:=hu;have hv:v= .bool j:=hv;subst hu hv;rfl
 |str=>have hd:d= .string:=hd;subst hd;have hu:u= .string k:=hu;have hv:v= .string j:=hv;subst hu hv;rfl
 |sl _=>exact hd.elim
theorem ZQ{kt:CT}{k j:kt.D}(h:keq kt k j=true):k=j:=by
 cases kt with
 |int q=>exact eq_of_beq (α:=Int) h
 |bool=>exact eq_of_beq (α:=Bool) h
 |str=>
  have h:(show ByteArray from k)==(show ByteArray from j):=h
  rw[vw] at h
  exact h
 |sl _=>cases h
 where
 vw {x y:ByteArray}:((x==y)=true)=(x=y):=by
  obtain⟨⟨x⟩⟩:=x
  obtain⟨⟨y⟩⟩:=y
  apply propext
  constructor
  ·intro h
   have h:((⟨x⟩:Array UInt8)==⟨y⟩)=true:=h
   rw[eq_of_beq h]
  ·intro h
   rw[h]
   show ((⟨y⟩:Array UInt8)==⟨y⟩)=true
   exact beq_self_eq_true _
theorem QI{kt:CT}{k:kt.D}{u v:Value}(hu:lC kt k u)(hv:lC kt k v):u=v:=by
 cases kt with
 |sl _=>exact hu.elim
 | _=>exact Eq.trans hu (Eq.symm hv)
theorem ZR(n:Nat)(q:IntKind)(k:Int):Instr.sameBits n (.int q k) (.int q k)=true:=by unfold Instr.sameBits;simp
theorem XF(n:Nat)(k:Bool):Instr.sameBits n (.bool k) (.bool k)=true:=by unfold Instr.sameBits;simp
theorem ZT(n:Nat)(k:ByteArray):Instr.sameBits n (.string k) (.string k)=true:=by
 unfold Instr.sameBits
 show (k==k)=true
 rw[ZQ.vw]
theorem QJ{kt:CT}{k:kt.D}{u:Value}(hu:lC kt k u)(n:Nat):Instr.sameBits n u u=true:=by
 cases kt with
 |int q=>have hu:u= .int q k:=hu;subst hu;exact ZR n q k
 |bool=>have hu:u= .bool k:=hu;subst hu;exact XF n k
 |str=>have hu:u= .string k:=hu;subst hu;exact ZT n k
 |sl _=>exact hu.elim
theorem Ue{kt:CT}{d:TypeDesc}(hd:cellT kt d){β:Type}{Rv:β->Value->Prop}{k:kt.D}{u:Value}(hu:lC kt k u):∀ (es:List (kt.D×β)) (l:List MapEntry) (i:Nat),mR kt Rv es l->
  (match NG (keq kt) k es with
  |some x=>∃ j e,Instr.findNow d u l i=some (some (i+j,e.val))∧l[j]? =some e∧lC kt k e.key∧Rv x e.val∧∀ (y:β) (v:Value),Rv y v->mR kt Rv (Ee (keq kt) k y es) (l.modify j fun e=>{e with key:=u,val:=v})
  |none=>Instr.findNow d u l i=some none∧∀ (y:β) (v:Value) (b:Nat),Rv y v->mR kt Rv (Ee (keq kt) k y es) (l++[{key:=u,val:=v,born:=b}]))
 |[],l,i,h=>by
  have h:l=[]:=h
  subst h
  exact⟨rfl,fun y v b hv=>⟨_,[],rfl,hu,hv,rfl⟩⟩
 |(j,x)::r,l,i,h=>by
  obtain⟨e,l',rfl,h1,h2,h3⟩:=h
  have hs:=FN hd hu h1
  have ef:Instr.findNow d u (e::l') i=match (some (keq kt k j):Option Bool) with
   |some true=>some (some (i,e.val))
   |some false=>Instr.findNow d u l' (i+1)
   |none=>none:=by rw[<- hs];rfl
  show (match (bif keq kt k j then some x else NG (keq kt) k r) with|some x=>_|none=>_)
  have em:∀ y:β,Ee (keq kt) k y ((j,x)::r)=bif keq kt k j then (k,y)::r else (j,x)::Ee (keq kt) k y r:=fun _=>rfl
  cases hk:keq kt k j with
  |true=>
   rw[hk] at ef
   have:=ZQ hk
   subst this
   refine⟨0,e,ef,rfl,h1,h2,fun y v hv=> ?_⟩
   rw[em,hk]
   exact⟨_,l',rfl,hu,hv,h3⟩
  |false=>
   rw[hk] at ef
   have ih:=Ue hd hu r l' (i+1) h3
   show (match NG (keq kt) k r with|some x=>_|none=>_)
   split at ih
   ·rename_i x' hx
    obtain⟨q,e',g1,g2,g3,g4,g5⟩:=ih
    refine⟨q+1,e',by rw[ef];show Instr.findNow d u l' (i+1)=_;rw[g1,Nat.add_assoc,Nat.add_comm 1 q],by simpa using g2,g3,g4,fun y v hv=> ?_⟩
    rw[em,hk]
    exact⟨e,_,by simp[List.modify_succ_cons],h1,h2,g5 y v hv⟩
   ·rename_i hx
    obtain⟨g1,g2⟩:=ih
    refine⟨by rw[ef];exact g1,fun y v b hv=> ?_⟩
    rw[em,hk]
    exact⟨e,_,rfl,h1,h2,g2 y v b hv⟩
theorem af6{kt:CT}{d:TypeDesc}(hd:cellT kt d){β:Type}{Rv:β->Value->Prop}{k:kt.D}{u:Value}(hu:lC kt k u):∀ (es:List (kt.D×β)) (l:List MapEntry) (i:Nat),mR kt Rv es l->
  (∃ j v,Instr.findNow d u l i=some (some (i+j,v))∧j<l.length∧mR kt Rv (TN (keq kt) k es) (l.eraseIdx j))∨(Instr.findNow d u l i=some none∧mR kt Rv (TN (keq kt) k es) l)
 |[],l,i,h=>by
  have h:l=[]:=h
  subst h
  exact .inr ⟨rfl,rfl⟩
 |(j,x)::r,l,i,h=>by
  obtain⟨e,l',rfl,h1,h2,h3⟩:=h
  have hs:=FN hd hu h1
  have ef:Instr.findNow d u (e::l') i=match (some (keq kt k j):Option Bool) with
   |some true=>some (some (i,e.val))
   |some false=>Instr.findNow d u l' (i+1)
   |none=>none:=by rw[<- hs];rfl
  have em:TN (keq kt) k ((j,x)::r)=bif keq kt k j then r else (j,x)::TN (keq kt) k r:=rfl
  cases hk:keq kt k j with
  |true=>
   rw[hk] at ef em
   exact .inl ⟨0,e.val,ef,by simp,by rw[em];exact h3⟩
  |false=>
   rw[hk] at ef em
   rcases af6 hd hu r l' (i+1) h3 with ⟨q,v,g1,g2,g3⟩|⟨g1,g2⟩
   ·refine .inl ⟨q+1,v,by rw[ef];show Instr.findNow d u l' (i+1)=_;rw[g1,Nat.add_assoc,Nat.add_comm 1 q],by simpa using g2,?_⟩
    rw[em]
    exact⟨e,_,by simp,h1,h2,g3⟩
   ·refine .inr ⟨by rw[ef];exact g1,?_⟩
    rw[em]
    exact⟨e,l',rfl,h1,h2,g2⟩
theorem FP{kt:CT}{k:kt.D}{z:AV}{K:AV->Bool->Option R}{r:R}:∀ {es:List (kt.D×AV)},Ef kt k z K es=some r->match NG (keq kt) k es with|some v=>K v true=some r|none=>K z false=some r
 |[],h=>h
 |(j,v)::es,h=>by
  have h:sel (keq kt k j) (K v true) (Ef kt k z K es)=some r:=h
  show match (bif keq kt k j then some v else NG (keq kt) k es) with|some v=>_|none=>_
  cases hk:keq kt k j with
  |true=>rw[hk] at h;exact h
  |false=>rw[hk] at h;exact FP (es:=es) h
theorem FQ{kt:CT}{k:kt.D}{v:AV}{K:List (kt.D×AV)->Option R}{r:R}:∀ {es acc:List (kt.D×AV)},Ba kt k v K acc es=some r->K (acc++Ee (keq kt) k v es)=some r
 |[],acc,h=>h
 |(j,u)::es,acc,h=>by
  have h:sel (keq kt k j) (K (acc++(k,v)::es)) (Ba kt k v K (acc++[(j,u)]) es)=some r:=h
  have em:Ee (keq kt) k v ((j,u)::es)=bif keq kt k j then (k,v)::es else (j,u)::Ee (keq kt) k v es:=rfl
  cases hk:keq kt k j with
  |true=>rw[hk] at h em;rw[em];exact h
  |false=>
   rw[hk] at h em
   have:=FQ (es:=es) (acc:=acc++[(j,u)]) h
   rw[em]
   simpa using this
theorem sJ{t:CT}{O:bn}{x:AV}{d:t.D}{v:Value}{t':TypeDesc}(ht:cellT t t')(h:t.jq O x=some d)(hv:VR E x v):lC t d v:=by
 cases t with
 |int k=>rw[xY h] at hv;unfold VR at hv;exact hv
 |bool=>rw[vg h] at hv;unfold VR at hv;exact hv
 |str=>rw[xZ h] at hv;unfold VR at hv;exact hv
 |sl _=>exact ht.elim
theorem XG{t:CT}{d:t.D}{v:Value}(h:lC t d v):VR E (t.av d) v:=by
 cases t with
 |int k=>unfold CT.av VR;exact h
 |bool=>unfold CT.av VR;exact h
 |str=>unfold CT.av VR;exact h
 |sl _=>exact h.elim
theorem qU{wr rd:Nat->Prop}{w:World}{b:Bool}{t:TypeId}{v:Value}{d:TypeDesc}{kt:CT}(hu:P.underlying t=some d)(hc:cellT kt d){Q:Unit->World->Prop}(hq:Q () w):acc P wr rd (Instr.checkKey b 10000 t v) Q w:=by
 show acc P wr rd (Instr.checkKey b (9999+1) t v) Q w
 unfold Instr.checkKey
 rw[ak,aB hu]
 cases kt with
 |int k=>have hc:d= .int k:=hc;subst hc;exact hq
 |bool=>have hc:d= .bool:=hc;subst hc;exact hq
 |str=>have hc:d= .string:=hc;subst hc;exact hq
 |sl _=>exact hc.elim
theorem nO{wr rd:Nat->Prop}{w:World}{t:TypeId}{v:Value}{d:TypeDesc}{l:List MapEntry}{x:Option (Nat×Value)}(hu:P.underlying t=some d)(hf:Instr.findNow d v l 0=some x){Q:Option (Nat×Value)->World->Prop}(hq:Q x w):acc P wr rd (Instr.findKey t v l) Q w:=by
 unfold Instr.findKey
 rw[ak,aB hu,hf]
 exact hq
section ops
variable {op:Oper} {K:KK R} {r:R}
theorem Uf{wr rd:Nat->Prop}{w:World}{b:Nat}{ent:Array MapEntry}{clk:Nat}(hr:rd b)(hw:w.heap[b]? =some (.map ent clk)){α:Type}{f:Array MapEntry->Nat->Sem α}{Q:α->World->Prop}(hq:acc P wr rd (f ent clk) Q w){g:Obj->Sem α}:
  (∀ e c,g (.map e c)=f e c)->acc P wr rd (do let x <- getObj b;g x) Q w:=by
 intro hg
 rw[ak]
 refine⟨hr,_,hw,(fun _ _ _ x=>by cases x),rfl,?_⟩
 show acc P wr rd (g (.map ent clk)) Q w
 rw[hg];exact hq
theorem Ug{t:TypeId}{rv:Option Operand}(h:OK X o E aG)(hop:op.op= .makeMap t rv)(hr:fP C Rc tm E.O aG op K=some r):Does P X o E a.eval op K r:=by
 unfold fP at hr
 rw[hop] at hr
 cases rv with
 |some q=>cases hr
 |none=>
  dsimp only at hr
  have mk:∀ m:Ih,xQ E [] m->(∀ E':Env,xQ E' [] m)->K (.mp aG) ((aG,.map m)::E.O) (aG+1) []=some r->Does P X o E a.eval op K r:=by
   intro m _ hm hr
   refine Does.new (cap:=0) (w':={E.w with heap:=E.w.heap.push (.map #[] 0)}) (u:= .map (some E.w.heap.size)) h hr rfl ?_ ?_
   ·intro E' _ _ _ _ _ e2 e3 e4
    refine⟨⟨_,_,_,by rw[e2],e4,hm E'⟩,?_⟩
    unfold VR
    exact⟨_,_,by rw[e3];exact dA _ _ _,by rw[e2],rfl⟩
   ·intro Q hq
    unfold execOp
    rw[hop]
    dsimp only
    rw[jL]
    unfold Instr.makeMap
    dsimp only[Option.map_none]
    rw[ak]
    exact hq
  split at hr
  ·exact mk (.lit _ []) rfl (fun _=>rfl) hr
  ·exact mk (.dat _ _ []) rfl (fun _=>rfl) hr
  ·cases hr
theorem Keep.aeD{E E':Env}{id:Nat}{m:Ih}(h:Keep E E' fun i=>i=id)(hl:look E.O id=some (.map m)):Keep E E' fun _=>False:=
 {h with arr:=fun i _ ts rows wr hi=>h.arr i (fun e=>by rw[e,hl] at hi;cases hi) ts rows wr hi}
theorem Ht{id b:Nat}{m m':Ih}{XH:Array MapEntry}{aeE:Nat}(h:OK X o E aG)(hl:look E.O id=some (.map m))(hb:(E.ρ id).b=some b)(hm:∀ E':Env,Step E E' []->xQ E' XH.toList m'){v:AV}{nx:Next}(hv:nx= .skip∧v= .undef∨nx= .value (.tuple #[])∧v= .AY []):
  Qn X o E aG ((id,.map m')::E.O) [] v nx {E.w with heap:=E.w.heap.setIfInBounds b (.map XH aeE)}:=by
 have hblt:=(h.own id b ⟨_,hl,rfl⟩ hb).1
 have wo:=zA (w':={E.w with heap:=E.w.heap.setIfInBounds b (.map XH aeE)}) h hl rfl hb (by simp) (fun b' hb'=>by simp[Array.getElem?_setIfInBounds_ne (Ne.symm hb')]) (.map m') rfl [] (fun _=>rfl) rfl
 have hk:=(wo.1 rfl).aeD hl
 have hok:=wo.2 hk.step ⟨b,XH,aeE,hb,by simp[hblt],hm _ hk.step⟩
 refine⟨{E with w:={E.w with heap:=E.w.heap.setIfInBounds b (.map XH aeE)},O:=dw [] ((id,.map m')::E.O)},rfl,rfl,rfl,hok.grow,hk.step,?_⟩
 rcases hv with ⟨e1,e2⟩|⟨e1,e2⟩
 ·exact .inl ⟨e1,e2⟩
 ·subst e2
  exact .inr ⟨_,e1,by unfold VR;exact⟨[],rfl,by unfold dG;rfl⟩⟩
theorem Df(T:gU P C){t:TypeId}{x y z:Operand}(h:OK X o E aG)(ht:kD E tm a.tmps)(hop:op.op= .insert t x y z∨op.op= .mapUpdate t x y z)(hr:fP C Rc tm E.O aG op K=some r):Does P X o E a.eval op K r:=by
 have hr:(match CG C t,ev tm x with
  |some (kt,_,_),some (.mp id)=>match look E.O id,ev tm y,ev tm z with
   |some (.map (.lit tH es)),some k,some v=>bif tH.beq kt&&pX v then match tH.jq [] k with
    |some k=>Ba tH k v (fun es=>K .undef ((id,.map (.lit tH es))::E.O) aG []) [] es
    |none=>none
    else none
   |some (.map (.dat tH vt es)),some k,some v=>bif tH.beq kt&& !jH vt then match tH.jq [] k,vt.jq [] v with
    |some k,some v=>K .undef ((id,.map (.dat tH vt (Ee (keq tH) k v es)))::E.O) aG []
    | _,_=>none
    else none
   | _,_,_=>none
  | _,_=>none)=some r:=by
  unfold fP at hr;rcases hop with e|e<;>(rw[e] at hr;exact hr)
 have ex:∀ {Q:Next->World->Prop},acc P (wC o E.w) (vU o E.w) (Instr.mapUpdate t (a.eval x) (a.eval y) (a.eval z)) (fun _ w=>Q .skip w) E.w->acc P (wC o E.w) (vU o E.w) (execOp a.eval op) Q E.w:=by
  intro Q hq
  unfold execOp
  rcases hop with e|e<;>(rw[e];dsimp only;rw[af5];exact hq)
 have go:∀ {id b:Nat} {m:Ih} {kt:CT} {β:Type} {Rv:β->Value->Prop} {es:List (kt.D×β)} {k:kt.D} {kk:TypeId} {d dv:TypeDesc} {tv:TypeId} {ent:Array MapEntry} {clk:Nat} {yv:β} (mk:List (kt.D×β)->Ih),look E.O id=some (.map m)->(E.ρ id).b=some b->a.eval x= .map (some b)->
   P.underlying t=some (.map kk tv)->P.underlying kk=some d->cellT kt d->E.w.heap[b]? =some (.map ent clk)->mR kt Rv es ent.toList->lC kt k (a.eval y)->Rv yv (a.eval z)->(∀ (E':Env) l,Step E E' []->mR kt Rv (Ee (keq kt) k yv es) l->xQ E' l (mk (Ee (keq kt) k yv es)))->
   acc P (wC o E.w) (vU o E.w) (Instr.mapUpdate t (a.eval x) (a.eval y) (a.eval z)) (fun _ w=>Qn X o E aG ((id,.map (mk (Ee (keq kt) k yv es)))::E.O) [] .undef .skip w) E.w:=by
  intro id b m kt β Rv es k kk d dv tv ent clk yv mk hl hb hx hU hk hd hw hes hky hyv hmk
  have hwr:wC o E.w b:=CZ h hl rfl hb
  have hrd:vU o E.w b:= .inl (h.us _ (h.own id b ⟨_,hl,rfl⟩ hb).2.2.2)
  unfold Instr.mapUpdate
  rw[ak,aB hU,hx]
  dsimp only
  refine Uf hrd hw (f:=fun es clock=>_) ?_ (fun _ _=>rfl)
  rw[ak]
  refine qU hk hd ?_
  rw[ak]
  have hf:=Ue hd hky es ent.toList 0 hes
  split at hf
  ·rename_i xv _
   obtain⟨j,e,f1,f2,f3,f4,f5⟩:=hf
   refine nO hk f1 ?_
   dsimp only
   rw[ak]
   have hold:(((ent[0+j]?).map (·.key)).getD (a.eval y))=a.eval y:=by
    rw[Nat.zero_add, <- Array.getElem?_toList,f2]
    exact QI f3 hky
   rw[hold]
   unfold Instr.keyThatStays
   rw[if_pos (QJ hky 10000),bY]
   refine⟨hwr,⟨_,hw,fun _ _ _ x=>by cases x⟩,rfl,?_⟩
   refine Ht h hl hb (fun E' hs=>hmk E' _ hs ?_) (.inl ⟨rfl,rfl⟩)
   have:=f5 yv _ hyv
   rw[Nat.zero_add,Array.toList_modify]
   exact this
  ·obtain⟨f1,f2⟩:=hf
   refine nO hk f1 ?_
   dsimp only
   refine⟨hwr,⟨_,hw,fun _ _ _ x=>by cases x⟩,rfl,?_⟩
   refine Ht h hl hb (fun E' hs=>hmk E' _ hs ?_) (.inl ⟨rfl,rfl⟩)
   rw[Array.toList_push]
   exact f2 yv _ _ hyv
 split at hr
 ·rename_i kt tv dv id hmt h1
  have e1:=dR ht h1
  obtain⟨kk,d,hU,hk,hd,_⟩:=T.CG hmt
  unfold VR at e1
  obtain⟨m0,b,g1,g2,g3⟩:=e1
  obtain⟨b',ent,clk,k1,k2,k3⟩:=h.obj id _ g1
  rw[g2] at k1;cases k1
  split at hr
  ·rename_i tH es k v hl h2 h3
   rw[hl] at g1;cases g1
   obtain⟨hb,hr1⟩:=aX hr
   clear hr
   rw[Bool.and_eq_true] at hb
   have:=CT.beq_eq hb.1
   subst this
   split at hr1
   ·rename_i kd hkd
    have hr2:=FQ hr1
    rw[List.nil_append] at hr2
    refine⟨.undef,_,_,[],hr2,ex ?_⟩
    exact go (dv:= .bool) (yv:=v) (fun es=> .lit tH es) hl g2 g3 hU hk hd k2 (Dc.1 k3) (sJ hd hkd (dR ht h2)) ⟨hb.2,dR ht h3⟩ fun E' l hs hm=>by
     refine Ep hs (Dc.2 hm)
   ·cases hr1
  ·rename_i tH vt es k v hl h2 h3
   rw[hl] at g1;cases g1
   obtain⟨hb,hr1⟩:=aX hr
   clear hr
   rw[Bool.and_eq_true] at hb
   have:=CT.beq_eq hb.1
   subst this
   split at hr1
   ·rename_i kd vd hkd hvd
    refine⟨.undef,_,_,[],hr1,ex ?_⟩
    refine go (dv:= .bool) (yv:=vd) (fun es=> .dat tH vt es) hl g2 g3 hU hk hd k2 (uh.1 k3) (sJ hd hkd (dR ht h2)) ?_ fun E' l hs hm=>uh.2 hm
    cases vt with
    |int q=>have:=dR ht h3;rw[xY hvd] at this;unfold VR at this;exact this
    |bool=>have:=dR ht h3;rw[vg hvd] at this;unfold VR at this;exact this
    |str=>have:=dR ht h3;rw[xZ hvd] at this;unfold VR at this;exact this
    |sl q=>cases hb.2
   ·cases hr1
  ·cases hr
 ·cases hr
theorem XI(T:gU P C){t:TypeId}{x y:Operand}{ok:Bool}(h:OK X o E aG)(ht:kD E tm a.tmps)(hop:op.op= .lookup t x y ok)(hr:fP C Rc tm E.O aG op K=some r):Does P X o E a.eval op K r:=by
 unfold fP at hr
 rw[hop] at hr
 dsimp only at hr
 have go:∀ {id b:Nat} {m:Ih} {kt:CT} {β:Type} {Rv:β->Value->Prop} {es:List (kt.D×β)} {k:kt.D} {kk:TypeId} {d:TypeDesc} {tv:TypeId} {ent:Array MapEntry} {clk:Nat} {i:TypeInfo} {zv:Value},look E.O id=some (.map m)->(E.ρ id).b=some b->a.eval x= .map (some b)->
   P.underlying t=some (.map kk tv)->P.underlying kk=some d->cellT kt d->E.w.heap[b]? =some (.map ent clk)->mR kt Rv es ent.toList->lC kt k (a.eval y)->P.info? tv=some i->i.zero=some zv->
   ∃ v b,(match NG (keq kt) k es with|some xv=>Rv xv v∧b=true|none=>v=zv∧b=false)∧
    ∀ Q:Next->World->Prop,Q (.value (if ok=true then .tuple #[v,.bool b] else v)) E.w->acc P (wC o E.w) (vU o E.w) (execOp a.eval op) Q E.w:=by
  intro id b m kt β Rv es k kk d tv ent clk i zv hl hb hx hU hk hd hw hes hky hi hz
  have hrd:vU o E.w b:= .inl (h.us _ (h.own id b ⟨_,hl,rfl⟩ hb).2.2.2)
  have hf:=Ue hd hky es ent.toList 0 hes
  have start:∀ {Q:Next->World->Prop} {f:Option (Nat×Value)},Instr.findNow d (a.eval y) ent.toList 0=some f->acc P (wC o E.w) (vU o E.w) (match f with
    |some (_,v)=>do
     let x <- pure (v,true)
     pure (if ok=true then Value.tuple #[x.1,.bool x.2] else x.1)
    |none=>do
     let z <- zeroValue tv
     let x <- pure (z,false)
     pure (if ok=true then Value.tuple #[x.1,.bool x.2] else x.1)) (fun u w=>Q (.value u) w) E.w->acc P (wC o E.w) (vU o E.w) (execOp a.eval op) Q E.w:=by
   intro Q f hfn hq
   unfold execOp
   rw[hop]
   dsimp only
   rw[jL]
   unfold Instr.lookup
   rw[ak,aB hU,hx]
   dsimp only
   rw[ak]
   refine⟨hrd,_,hw,(fun _ _ _ x=>by cases x),rfl,?_⟩
   refine (bY _ _).2 ?_
   dsimp only
   rw[ak,bY,ak]
   refine qU hk hd ?_
   rw[ak]
   refine nO hk hfn ?_
   exact hq
  split at hf
  ·rename_i xv hxv
   obtain⟨j,e,f1,f2,f3,f4,f5⟩:=hf
   refine⟨e.val,true,⟨f4,rfl⟩,fun Q hq=>start f1 ?_⟩
   rw[ak]
   exact hq
  ·rename_i hxv
   obtain⟨f1,f2⟩:=hf
   refine⟨zv,false,⟨rfl,rfl⟩,fun Q hq=>start f1 ?_⟩
   rw[ak,iY hi hz,ak]
   exact hq
 have zero:∀ {tv:Nat} {z:AV},LD C tv=some z->∃ i zv,P.info? tv=some i∧i.zero=some zv∧VR E z zv:=by
  intro tv z hz
  unfold LD at hz
  split at hz
  ·rename_i ti hl
   obtain⟨hag,hz⟩:=gG hz
   split at hz
   ·rename_i z' hz'
    obtain⟨hs,hz⟩:=aX hz
    cases hz
    have hs:=aeh hs
    obtain⟨i,hi,_,_,hzero,_⟩:=T.info _ ti hl
    obtain⟨zv,z1,z2⟩:=hzero (by rw[hz',hs];rfl)
    refine⟨i,zv,hi,z1,?_⟩
    have hne:=T.zsh _ ti i zv hl hi z1 hag
    rw[hz'] at z2
    have hc:zv.cells= #[zv]:=by cases zv<;>first|rfl|exact absurd rfl (hne _)
    rw[hc] at z2
    have:=nN (E:=E) z2
    unfold dG at this
    obtain⟨v,q,e1,e2,_⟩:=this
    simp at e1
    rw[e1.1];exact e2
   ·cases hz
  ·cases hz
 have AY:∀ {b:Bool} {x:AV} {v:Value},VR E x v->VR E (Ij ok x b) (if ok=true then .tuple #[v,.bool b] else v):=by
  intro b x v hv
  unfold Ij
  cases ok with
  |false=>exact hv
  |true=>
   show VR E (.AY [x,.bool b]) (.tuple #[v,.bool b])
   unfold VR
   refine⟨[v,.bool b],rfl,?_⟩
   unfold dG
   refine⟨_,_,rfl,hv,?_⟩
   unfold dG
   refine⟨_,_,rfl,by unfold VR;rfl,by unfold dG;rfl⟩
 split at hr
 ·rename_i kt tv dv id hmt h1
  have e1:=dR ht h1
  obtain⟨kk,d,hU,hk,hd,_⟩:=T.CG hmt
  unfold VR at e1
  obtain⟨m0,b,g1,g2,g3⟩:=e1
  obtain⟨b',ent,clk,k1,k2,k3⟩:=h.obj id _ g1
  rw[g2] at k1;cases k1
  split at hr
  ·rename_i tH es k hl h2
   rw[hl] at g1;cases g1
   obtain⟨hb,hr1⟩:=aX hr
   clear hr
   have:=CT.beq_eq hb
   subst this
   split at hr1
   ·rename_i kd z hkd hz
    obtain⟨i,zv,z1,z2,z3⟩:=zero hz
    obtain⟨v,bb,c1,c2⟩:=go hl g2 g3 hU hk hd k2 (Dc.1 k3) (sJ hd hkd (dR ht h2)) z1 z2
    have hg:=FP hr1
    split at c1
    ·rename_i xv hxv
     rw[hxv] at hg
     obtain⟨⟨_,c1⟩,rfl⟩:=c1
     exact Does.val h hg (AY c1) c2
    ·rename_i hxv
     rw[hxv] at hg
     obtain⟨rfl,rfl⟩:=c1
     exact Does.val h hg (AY z3) c2
   ·cases hr1
  ·rename_i tH vt es k hl h2
   rw[hl] at g1;cases g1
   obtain⟨hb,hr1⟩:=aX hr
   clear hr
   have:=CT.beq_eq hb
   subst this
   split at hr1
   ·rename_i kd z hkd hz
    split at hr1
    ·rename_i zd hzd
     obtain⟨i,zv,z1,z2,z3⟩:=zero hz
     have zz:∀ zd,CT.jq [] vt z=some zd->VR E (vt.av zd) zv:=by
      intro zd hzd
      cases vt with
      |int q=>rw[xY hzd] at z3;exact z3
      |bool=>rw[vg hzd] at z3;exact z3
      |str=>rw[xZ hzd] at z3;exact z3
      |sl q=>
       rcases oC hzd with ⟨rfl,rfl⟩|⟨deps,rfl⟩|⟨id',wr,rfl,hx⟩
       ·show VR E (.ro q [] []) zv
        unfold VR at z3⊢
        exact⟨_,_,_,z3,rfl,Nat.le_refl _,fun x=>absurd rfl x⟩
       ·unfold LD at hz
        exact absurd hz (by
         intro hz
         split at hz
         ·rename_i ti hl'
          obtain⟨_,hz⟩:=gG hz
          split at hz
          ·rename_i z' hz'
           obtain⟨hs,hz⟩:=aX hz
           cases hz
           obtain⟨i,hi,_,_,hzero,_⟩:=T.info _ ti hl'
           obtain⟨zv',y1,y2⟩:=hzero (by rw[hz',aeh hs];rfl)
           rw[hz'] at y2
           generalize zv'.cells.toList=l at y2
           cases l with
           |nil=>cases y2
           |cons c cs=>
            unfold ofValues at y2
            split at y2
            ·rename_i c1 c2 y3 y4
             cases y2
             unfold uQ at y3
             split at y3<;>cases y3
            ·cases y2
          ·cases hz
         ·cases hz)
       ·cases hx
     obtain⟨v,bb,c1,c2⟩:=go hl g2 g3 hU hk hd k2 (uh.1 k3) (sJ hd hkd (dR ht h2)) z1 z2
     split at c1
     ·rename_i xv hxv
      rw[hxv] at hr1
      obtain⟨c1,rfl⟩:=c1
      exact Does.val h hr1 (AY (XG c1)) c2
     ·rename_i hxv
      rw[hxv] at hr1
      obtain⟨rfl,rfl⟩:=c1
      exact Does.val h hr1 (AY (zz _ hzd)) c2
    ·cases hr1
   ·cases hr1
  ·cases hr
 ·rename_i kt tv dv hmt h1
  have e1:=dR ht h1
  obtain⟨kk,d,hU,hk,hd,_⟩:=T.CG hmt
  unfold VR at e1
  split at hr
  ·rename_i k h2
   split at hr
   ·rename_i kd z hkd hz
    obtain⟨i,zv,z1,z2,z3⟩:=zero hz
    refine Does.val h hr (AY z3) fun Q hq=> ?_
    unfold execOp
    rw[hop]
    dsimp only
    rw[jL]
    unfold Instr.lookup
    rw[ak,aB hU,e1.1]
    dsimp only
    rw[ak,bY,ak]
    refine qU hk hd ?_
    rw[ak]
    refine nO (x:=none) hk rfl ?_
    dsimp only
    rw[ak,iY z1 z2,ak]
    exact hq
   ·cases hr
  ·cases hr
 ·cases hr
theorem XJ(T:gU P C){args:Array Operand}{tys:Array TypeId}(h:OK X o E aG)(ht:kD E tm a.tmps)(hop:op.op= .call ⟨.builtin .delete,args,tys⟩)(hr:fP C Rc tm E.O aG op K=some r):Does P X o E a.eval op K r:=by
 unfold fP at hr
 rw[hop] at hr
 dsimp only at hr
 split at hr
 ·rename_i id k t tr h1 h2
  obtain⟨u,u',e1,e2,e3⟩:=CY ht h1
  split at hr
  ·rename_i kt tv dv tH vt es hmt hl
   obtain⟨kk,d,hU,hk,hd,_⟩:=T.CG hmt
   obtain⟨hb,hr1⟩:=aX hr
   clear hr
   have:=CT.beq_eq hb
   subst this
   split at hr1
   ·rename_i kd hkd
    unfold VR at e2
    obtain⟨m0,b,g1,g2,g3⟩:=e2
    rw[hl] at g1;cases g1
    obtain⟨b',ent,clk,k1,k2,k3⟩:=h.obj id _ hl
    rw[g2] at k1;cases k1
    have hky:=sJ hd hkd e3
    have hwr:wC o E.w b:=CZ h hl rfl g2
    have hrd:vU o E.w b:= .inl (h.us _ (h.own id b ⟨_,hl,rfl⟩ g2).2.2.2)
    have am4:tys[0]? =some t:=by rw[<- Array.getElem?_toList,h2];rfl
    refine⟨.AY [],_,_,[],hr1,?_⟩
    rw[lX hop,e1]
    unfold builtin
    dsimp only
    rw[jL]
    unfold Builtin.delete_
    rw[am4]
    simp only[List.getElem?_toArray,List.getElem?_cons_zero,List.getElem?_cons_succ]
    rw[ak,aB hU,g3]
    dsimp only
    rw[ak]
    refine⟨hrd,_,k2,(fun _ _ _ x=>by cases x),rfl,?_⟩
    refine (bY _ _).2 ?_
    dsimp only
    rw[ak]
    refine qU hk hd ?_
    rw[ak]
    rcases af6 hd hky es ent.toList 0 (uh.1 k3) with ⟨j,v,f1,f2,f3⟩|⟨f1,f2⟩
    ·refine nO hk f1 ?_
     dsimp only
     refine⟨hwr,⟨_,k2,fun _ _ _ x=>by cases x⟩,rfl,?_⟩
     refine Ht h hl g2 (fun E' hs=> ?_) (.inr ⟨rfl,rfl⟩)
     have:(ent.eraseIdxIfInBounds (0+j)).toList=ent.toList.eraseIdx j:=by
      rw[Nat.zero_add,Array.toList_eraseIdxIfInBounds]
     rw[this]
     exact uh.2 f3
    ·refine nO hk f1 ?_
     dsimp only
     refine⟨hwr,⟨_,k2,fun _ _ _ x=>by cases x⟩,rfl,?_⟩
     exact Ht (m':= .dat tH vt (TN (keq tH) kd es)) (XH:=ent) h hl g2 (fun E' hs=>uh.2 f2) (.inr ⟨rfl,rfl⟩)
   ·cases hr1
  ·cases hr
 ·cases hr
end ops
end Go.E
end
section
namespace Go.E
variable {E:Env} {tm:List (Nat×AV)} {a:Act} {R:Type} {C:kC} {Rc:ah} {P:Program} {X:Ctx} {o:Ow} {aG:Nat}
variable {op:Oper} {K:KK R} {r:R}
theorem ZU(T:gU P C)(h:OK X o E aG)(ht:kD E tm a.tmps)(hn:callee C tm op.op=none)(hr:fP C Rc tm E.O aG op K=some r):Does P X o E a.eval op K r:=by
 have no:(∀ q,op.op=q->fP C Rc tm E.O aG op K=none)->Does P X o E a.eval op K r:=fun q=>by rw[q _ rfl] at hr;cases hr
 cases hop:op.op with
 |move x=>exact V8 h ht (.inl hop) hr
 |assign x=>exact V8 h ht (.inr hop) hr
 |pick c x y=>exact aev h ht hop hr
 |alloc t=>exact ZJ T h hop hr
 |box t x=>exact ahj h ht hop hr
 |build t ps=>exact ZO T h ht hop hr
 |buildSlice t n ps=>exact KX T h ht hop hr
 |load t x=>exact aez T h ht hop hr
 |store t x y=>exact ZM T h ht hop hr
 |nilCheck x=>exact QD h ht hop hr
 |binOp f t x y yt=>exact ZB T h ht hop hr
 |unOp f t x=>exact aey h ht hop hr
 |convert s d x=>exact Ud T h ht hop hr
 |makeInterface t x=>exact Et T h ht hop hr
 |makeFunc fn x y=>exact QC h ht hop hr
 |makeSlice t l c=>exact NW T h ht hop hr
 |slice t x lo hi mx=>cases mx with
  |none=>exact ZH T h ht hop hr
  |some m=>exact no fun q e=>by unfold fP;rw[hop];rfl
 |fieldAddr t x f=>exact NU T h ht hop hr
 |field t x f=>exact ZF T h ht hop hr
 |sliceToArrayPointer t x=>exact KW T h ht hop hr
 |makeMap t rv=>exact Ug h hop hr
 |insert t x y z=>exact Df T h ht (.inl hop) hr
 |mapUpdate t x y z=>exact Df T h ht (.inr hop) hr
 |lookup t x y ok=>exact XI T h ht hop hr
 |indexAddr t x i=>exact NS T h ht hop hr
 |index t x i=>exact ZC T h ht hop hr
 |extract x i=>exact TY h ht hop hr
 |call c=>
  obtain⟨callee,args,tys⟩:=c
  cases callee with
  |value f=>exact no fun q e=>by rw[hop] at hn;unfold fP;rw[hop];dsimp only;rw[hn]
  |invoke x m=>exact no fun q e=>by rw[hop] at hn;unfold fP;rw[hop];dsimp only;rw[hn]
  |builtin b=>cases b with
   |len=>exact ahg T h ht hop hr
   |delete=>exact XJ T h ht hop hr
   |append=>exact XE T h ht hop hr
   |min=>exact ahh h ht hop hr
   |max=>exact ahi h ht hop hr
   | _=>exact no fun q e=>by unfold fP;rw[hop];rfl
 | _=>exact no fun q e=>by unfold fP;rw[hop];rfl
end Go.E
end
section
namespace Go.E
structure FT (all:List Oper) (p x:Oper):Prop where
 a:∀ d,p.dst=some d->d∉kZ (opers x.op)∧gslot all x≠some d∧x.dst≠some d
 b:∀ d,x.dst=some d->d∉kZ (opers p.op)∧gslot all p≠some d
def qV(pr:Nat->List Nat)(D ord:List Nat):Prop:=∀ l i r,ord=l++i::r->∀ q∈pr i,q∈D∨q∈l
def Eager(qt:Nat->Bool)(pr:Nat->List Nat)(ord:List Nat):Prop:=∀ l b r,ord=l++b::r->qt b=false->∀ p∈r,qt p=true->∃ q∈pr p,q∈b::r
structure IL (qt:Nat->Bool) (all:List Oper) (an:Nat->List Nat) (D ord σ:List Nat):Prop where
 mem:∀ x,x∈ord↔x∈σ
 nd:ord.Nodup
 nds:σ.Nodup
 out:∀ x∈ord,x∉D
 ex:∀ x∈ord,x<all.length
 t1:qV an D ord
 t2:qV an D σ
 t3:qV (uV all) D σ
 t4:qV (uV all) D ord
 eager:Eager qt (uV all) ord
 loud:fD qt ord=fD qt σ
 ind:∀ p x,p≠x->p∉an x->x∉an p->∀ op ox,nth all p=some op->nth all x=some ox->qt p=true->FT all op ox
def Left(pins:List Nat)(all:List Oper)(rest:List (Nat×List Nat))(σ:List Nat):Prop:=
 ∃ (an:Nat->List Nat) (D:List Nat),(∀ p∈rest,an p.1=p.2)∧IL (qP pins all) all an D (idxs rest) σ
section
variable {qt:Nat->Bool} {all:List Oper} {an:Nat->List Nat}
theorem zD{α:Type}:∀ (l:List α) (i:Nat),nth l i=l[i]?
 |[],i=>by cases i<;>rfl
 | _::_,0=>rfl
 | _::r,i+1=>by rw[nth,zD r i];simp
theorem iJ{i:Nat}:∀ {l:List Nat},i∈fD qt l↔i∈l∧qt i=false
 |[]=>by simp[fD]
 |x::r=>by
  show i∈(bif qt x then fD qt r else x::fD qt r)↔_
  cases h:qt x with
  |true=>
   rw[cond_true,iJ (l:=r),List.mem_cons]
   constructor
   ·rintro⟨a,b⟩;exact⟨.inr a,b⟩
   ·rintro⟨a|a,b⟩
    ·subst a;rw[h] at b;cases b
    ·exact⟨a,b⟩
  |false=>
   rw[cond_false,List.mem_cons,List.mem_cons,iJ (l:=r)]
   constructor
   ·rintro (a|⟨a,b⟩)
    ·subst a;exact⟨.inl rfl,h⟩
    ·exact⟨.inr a,b⟩
   ·rintro⟨a|a,b⟩
    ·exact .inl a
    ·exact .inr ⟨a,b⟩
theorem vC:∀ (l r:List Nat),fD qt (l++r)=fD qt l++fD qt r
 |[],_=>rfl
 |x::l,r=>by
  show (bif qt x then fD qt (l++r) else x::fD qt (l++r))=(bif qt x then fD qt l else x::fD qt l)++_
  rw[vC l r]
  cases qt x<;>rfl
theorem yu:∀ {l:List Nat},l.Nodup->(fD qt l).Nodup
 |[],h=>h
 |x::r,h=>by
  have h':=List.nodup_cons.1 h
  show (bif qt x then fD qt r else x::fD qt r).Nodup
  cases qt x
  ·exact List.nodup_cons.2 ⟨fun y=>h'.1 (iJ.1 y).1,yu h'.2⟩
  ·exact yu h'.2
theorem Uh{a b c d:List Nat}{i:Nat}(h:a++i::b=c++i::d)(h1:i∉a)(h2:i∉c):a=c∧b=d:=by
 induction a generalizing c with
 |nil=>
  cases c with
  |nil=>simp at h;exact⟨rfl,h⟩
  |cons y c=>simp at h;exact absurd (by rw[h.1];exact aee) h2
 |cons x a ih=>
  cases c with
  |nil=>simp at h;exact absurd (by rw[h.1];exact aee) h1
  |cons y c=>
   simp at h
   obtain⟨e1,e2⟩:=ih h.2 (fun z=>h1 (aef _ z)) (fun z=>h2 (aef _ z))
   exact⟨by rw[h.1,e1],e2⟩
theorem zF{l r:List Nat}{i:Nat}(h:(l++i::r).Nodup):i∉l∧i∉r∧l.Nodup∧r.Nodup∧∀ x∈l,x∉r:=by
 rw[List.nodup_append] at h
 obtain⟨h1,h2,h3⟩:=h
 have h4:=List.nodup_cons.1 h2
 exact⟨fun x=>h3 i x i aee rfl,h4.1,h1,h4.2,fun x hx hr=>h3 x hx x (aef _ hr) rfl⟩
theorem Dh{f:Nat->List Nat}{D l r:List Nat}{i:Nat}(h:qV f D (l++i::r)):qV f D l:=fun a x b e q hq=>h a x (b++i::r) (by rw[e];simp) q hq
theorem zG{f:Nat->List Nat}{D D2 l r:List Nat}{i:Nat}(h:qV f D (l++i::r))(hD:∀ q,q∈D∨q∈l∨q=i->q∈D2):qV f D2 r:=fun a x b e q hq=>by
 rcases h (l++i::a) x b (by rw[e];simp) q hq with y|y
 ·exact .inl (hD q (.inl y))
 ·rcases adh.1 y with z|z
  ·exact .inl (hD q (.inr (.inl z)))
  ·rcases List.mem_cons.1 z with z|z
   ·exact .inl (hD q (.inr (.inr z)))
   ·exact .inr z
theorem Ui{D pre post σ:List Nat}{i:Nat}(h:IL qt all an D (pre++i::post) σ)(hi:qt i=false)(hpost:∀ x∈post,i∈an x∨qt x=false)(hpre:∀ x∈pre,x∈an i∨qt x=false):
  ∃ σ1 σ2,σ=σ1++i::σ2∧IL qt all an D pre σ1∧IL qt all an (i::(pre++D)) post σ2:=by
 have him:i∈σ:=(h.mem i).1 (by simp)
 obtain⟨σ1,σ2,rfl⟩:=List.append_of_mem him
 obtain⟨n1,n2,n3,n4,n5⟩:=zF h.nd
 obtain⟨m1,m2,m3,m4,m5⟩:=zF h.nds
 have hl:=h.loud
 rw[vC,vC] at hl
 have ei:∀ r,fD qt (i::r)=i::fD qt r:=fun r=>by
  show (bif qt i then fD qt r else i::fD qt r)=_
  rw[hi];rfl
 rw[ei,ei] at hl
 obtain⟨l1,l2⟩:=Uh hl (fun x=>n1 (iJ.1 x).1) (fun x=>m1 (iJ.1 x).1)
 have iD:i∉D:=h.out i (by simp)
 have e1:∀ x,x∈pre↔x∈σ1:=by
  intro x
  constructor
  ·intro hx
   rcases hpre x hx with y|y
   ·rcases h.t2 σ1 i σ2 rfl x y with z|z
    ·exact absurd z (h.out x (adh.2 (.inl hx)))
    ·exact z
   ·have:x∈fD qt σ1:=by rw[<- l1];exact iJ.2 ⟨hx,y⟩
    exact (iJ.1 this).1
  ·intro hx
   have hm:=(h.mem x).2 (adh.2 (.inl hx))
   rcases adh.1 hm with y|y
   ·exact y
   ·rcases List.mem_cons.1 y with y|y
    ·exact absurd (by rw[<- y];exact hx) m1
    ·rcases hpost x y with z|z
     ·obtain⟨la,lb,e⟩:=List.append_of_mem hx
      rcases h.t2 la x (lb++i::σ2) (by rw[e];simp) i z with w|w
      ·exact absurd w iD
      ·exact absurd (by rw[e];exact adh.2 (.inl w)) m1
     ·have:x∈fD qt pre:=by rw[l1];exact iJ.2 ⟨hx,z⟩
      exact (iJ.1 this).1
 have e2:∀ x,x∈post↔x∈σ2:=by
  intro x
  constructor
  ·intro hx
   have hm:=(h.mem x).1 (adh.2 (.inr (aef _ hx)))
   rcases adh.1 hm with y|y
   ·exact absurd hx (n5 x ((e1 x).2 y))
   ·rcases List.mem_cons.1 y with y|y
    ·exact absurd (by rw[<- y];exact hx) n2
    ·exact y
  ·intro hx
   have hm:=(h.mem x).2 (adh.2 (.inr (aef _ hx)))
   rcases adh.1 hm with y|y
   ·exact absurd hx (m5 x ((e1 x).1 y))
   ·rcases List.mem_cons.1 y with y|y
    ·exact absurd (by rw[<- y];exact hx) m2
    ·exact y
 have D2:∀ {l:List Nat},(∀ x,x∈pre↔x∈l)->∀ q,q∈D∨q∈l∨q=i->q∈i::(pre++D):=fun hl q hq=>by
  rcases hq with y|y|y
  ·exact aef _ (adh.2 (.inr y))
  ·exact aef _ (adh.2 (.inl ((hl q).2 y)))
  ·rw[y];exact aee
 refine⟨σ1,σ2,rfl,⟨e1,n3,m3,fun x hx=>h.out x (adh.2 (.inl hx)),fun x hx=>h.ex x (adh.2 (.inl hx)),Dh h.t1,Dh h.t2,Dh h.t3,Dh h.t4,?_,l1,h.ind⟩,
  ⟨e2,n4,m4,?_,fun x hx=>h.ex x (adh.2 (.inr (aef _ hx))),zG h.t1 (D2 fun _=>Iff.rfl),zG h.t2 (D2 e1),zG h.t3 (D2 e1),zG h.t4 (D2 fun _=>Iff.rfl),?_,l2,h.ind⟩⟩
 ·intro l b r e hb p hp hq
  obtain⟨q,q1,q2⟩:=h.eager l b (r++i::post) (by rw[e];simp) hb p (adh.2 (.inl hp)) hq
  refine⟨q,q1,?_⟩
  obtain⟨ra,rb,e3⟩:=List.append_of_mem hp
  rcases h.t4 (l++b::ra) p (rb++i::post) (by rw[e,e3];simp) q q1 with y|y
  ·refine absurd y (h.out q ?_)
   rw[e]
   rcases List.mem_cons.1 q2 with z|z
   ·rw[z];simp
   ·rcases adh.1 z with z|z
    ·simp[z]
    ·exact adh.2 (.inr z)
  ·rcases adh.1 y with z|z
   ·exfalso
    have nd:=h.nd
    rw[e] at nd
    rw[List.append_assoc,List.nodup_append] at nd
    exact nd.2.2 q z q (by rw[List.cons_append];exact q2) rfl
   ·rcases List.mem_cons.1 z with z|z
    ·rw[z];exact aee
    ·rw[e3];exact aef _ (adh.2 (.inl z))
 ·intro x hx y
  rcases List.mem_cons.1 y with z|z
  ·exact n2 (by rw[<- z];exact hx)
  ·rcases adh.1 z with z|z
   ·exact n5 x z hx
   ·exact h.out x (adh.2 (.inr (aef _ hx))) z
 ·intro l b r e hb p hp hq
  exact h.eager (pre++i::l) b r (by rw[e];simp) hb p hp hq
end
end Go.E
end
section
namespace Go.E
inductive Via (P:Program) (main:Bool) (Rl:Ow->World->World->Prop) (Stop:Ow->Frame->List Frame->World->Prop):Ow->Frame->List Frame->World->Prop
 |stop {o:Ow} {fr:Frame} {cs:List Frame} {w:World}:Stop o fr cs w->Via P main Rl Stop o fr cs w
 |step {o:Ow} {fr fr':Frame} {cs cs':List Frame} {w w':World} {es:Array Event}:stepG P main (Conc.G fr cs) w= .go (Conc.G fr' cs') w' es->Keeps o.u w w'->
   (∀ w2,Rl (o.grow w.heap.size w'.heap.size) w' w2->Via P main Rl Stop (o.grow w.heap.size w'.heap.size) fr' cs' w2)->Via P main Rl Stop o fr cs w
def Leaves(Rl:Ow->World->World->Prop):Prop:=∀ o w w2,Rl o w w2->w.heap.size<=w2.heap.size∧∀ b,o.s b->w2.heap[b]? =w.heap[b]?
theorem Via.trans{P:Program}{main:Bool}{Rl:Ow->World->World->Prop}{S S':Ow->Frame->List Frame->World->Prop}{o:Ow}{fr:Frame}{cs:List Frame}{w:World}(h:Via P main Rl S o fr cs w)
  (k:∀ o fr cs w,S o fr cs w->Via P main Rl S' o fr cs w):Via P main Rl S' o fr cs w:=by
 induction h with
 |stop h=>exact k _ _ _ _ h
 |step a b _ ih=>exact .step a b fun w2 hw=>ih w2 hw
theorem Ow.ext{o o':Ow}(hu:∀ b,o.u b↔o'.u b)(hs:∀ b,o.s b↔o'.s b):o=o':=by
 cases o;cases o'
 congr<;>funext b
 ·exact propext (hu b)
 ·exact propext (hs b)
theorem Ow.kV(o:Ow)(n:Nat):o.grow n n=o:=Ow.ext LV.1 LV.2
def qA(n:Nat)(o:Oper):Bool:=match o.dst with
 |some d=>Nat.blt d n
 |none=>true
def codeOk(n:Nat):Code->Bool
 | .region _ ops _=>ops.toList.all (qA n)
 | .seq a b=>codeOk n a&&codeOk n b
 | .cond _ a b=>codeOk n a&&codeOk n b
 | .block _ b=>codeOk n b
 | .loop b=>codeOk n b
 | _=>true
def ItR(n:Nat):It->Item->Prop
 | .code c,x=>x= .code c∧codeOk n c=true
 | .inBlock id,x=>x= .inBlock id
 | .inLoop b,x=>x= .inLoop b∧codeOk n b=true
 | .ops all rest,x=>∃ ops idx,x= .inRegion ops idx∧all=ops.toList∧ops.toList.all (qA n)=true∧idx.map (ops[·]?)=rest.map some
 | .drawn ..,_=>False
 | .wait ps all i rest,x=>∃ ops σ,x= .inRegion ops (i::σ)∧all=ops.toList∧ops.toList.all (qA n)=true∧i<ops.size∧Left ps all rest σ
def FU(n:Nat):List It->List Item->Prop
 |[],l=>l=[]
 |x::xs,l=>∃ y ys,l=y::ys∧ItR n x y∧FU n xs ys
def frame(f:FuncId)(tmps:Array Value)(todo:List Item):Frame:=(Conc.base f).at ⟨tmps,[]⟩ todo
def FrR(E:Env)(fr:Fr)(f:Frame):Prop:=∃ tmps todo,f=frame fr.fn tmps todo∧kD E fr.tm tmps∧FU tmps.size fr.td todo
def xC(E:Env):List Fr->List Frame->Prop
 |[],l=>l=[]
 |x::xs,l=>∃ y ys,l=y::ys∧FrR E x y∧xC E xs ys
def kX:Fr->List Fr->FuncId
 |c,[]=>c.fn
 | _,d::r=>kX d r
theorem yw(es:List Eff):∀ (c:Fr) (r:List Fr) (tm:List (Nat×AV)) (td:List It),kX {fn:=c.fn,tm,td} (jG es r)=kX c r
 | _,[],_,_=>rfl
 | _,d::r,_,_=>yw es d r (jU es d.tm) d.td
theorem iW:∀ (c d:Fr) (r:List Fr),c.fn=d.fn->kX c r=kX d r
 | _,_,[],h=>h
 | _,_,_::_,_=>rfl
structure qW (X:Ctx) (o:Ow) (E:Env) (s:St) (cs0:List Frame) (fr:Frame) (cs:List Frame):Prop where
 ok:OK X o E s.aG
 objs:E.O=s.objs
 cur:FrR E s.cur fr
 callers:∃ cs1,cs=cs1++cs0∧xC E s.callers cs1
 bx:s.bx=X.bx.map (·.1)
 root:kX s.cur s.callers=X.fn
theorem yx:∀ (es:List Eff) (tm:List (Nat×AV)) (t:Nat),look (jU es tm) t=(look tm t).map (fF es)
 |[],tm,t=>by show look tm t=_;cases look tm t<;>rfl
 |e::r,tm,t=>by
  show look (jU r (e.tm tm)) t=_
  rw[yx r]
  have:∀ tm:List (Nat×AV),look (e.tm tm) t=(look tm t).map e.av:=by
   intro tm
   induction tm with
   |nil=>rfl
   |cons p q ih=>
    obtain⟨j,v⟩:=p
    show (bif Nat.beq j t then some (e.av v) else look (e.tm q) t)=(bif Nat.beq j t then some v else look q t).map _
    cases Nat.beq j t
    ·exact ih
    ·rfl
  rw[this]
  cases look tm t<;>rfl
theorem kD.step{E E':Env}{es:List Eff}{tm:List (Nat×AV)}{tmps:Array Value}(h:kD E tm tmps)(hs:Step E E' es):kD E' (jU es tm) tmps:=by
 refine⟨fun t x hx=> ?_,h.2.step hs⟩
 rw[yx] at hx
 obtain⟨y,hy,rfl⟩:=Option.map_eq_some_iff.1 hx
 exact hs _ _ (h.1 t y hy)
theorem FrR.step{E E':Env}{es:List Eff}{fr:Fr}{f:Frame}(h:FrR E fr f)(hs:Step E E' es):FrR E' {fr with tm:=jU es fr.tm} f:=by
 obtain⟨tmps,todo,h1,h2,h3⟩:=h
 exact⟨tmps,todo,h1,h2.step hs,h3⟩
theorem xC.step{E E':Env}{es:List Eff}(hs:Step E E' es):∀ {KP:List Fr} {l:List Frame},xC E KP l->xC E' (jG es KP) l
 |[],_,h=>h
 | _::_,_,⟨y,ys,e,h1,h2⟩=>⟨y,ys,e,h1.step hs,xC.step hs h2⟩
theorem FrR.step0{E E':Env}{fr:Fr}{f:Frame}(h:FrR E fr f)(hs:Step E E' []):FrR E' fr f:=h.step hs
theorem xC.step0{E E':Env}(hs:Step E E' []){KP:List Fr}{l:List Frame}(h:xC E KP l):xC E' KP l:=by
 have:=h.step hs
 have e:jG [] KP=KP:=by unfold jG;induction KP with
  |nil=>rfl
  |cons a q ih=>simp[jU]
 rwa [e] at this
theorem kD.put{E:Env}{tm:List (Nat×AV)}{tmps:Array Value}{v:AV}{u:Value}{dst:Option Nat}(h:kD E tm tmps)(hv:VR E v u)(hd:∀ d,dst=some d->d<tmps.size):kD E (putDst dst v tm) ((Act.put ⟨tmps,[]⟩ dst u).tmps):=by
 cases dst with
 |none=>exact h
 |some d=>
  have hd:=hd d rfl
  refine⟨fun t x hx=> ?_,h.2⟩
  show VR E x ((tmps.setIfInBounds d u).getD t undef)
  have hx:(bif Nat.beq d t then some v else look tm t)=some x:=hx
  by_cases e:d=t
  ·subst e
   rw[Nat.beq_refl] at hx
   cases hx
   simpa [Array.getD,hd] using hv
  ·rw[cZ e] at hx
   have:=h.1 t x hx
   rwa [show (tmps.setIfInBounds d u).getD t undef=tmps.getD t undef by simp[Array.getD_eq_getD_getElem?,Array.getElem?_setIfInBounds_ne e]]
theorem OK.rely{Rl:Ow->World->World->Prop}(hR:Leaves Rl){X:Ctx}{o:Ow}{E:Env}{aG:Nat}(h:OK X o E aG){w2:World}(hw:Rl o E.w w2):OK X o {E with w:=w2} aG∧Step E {E with w:=w2} []:=by
 obtain⟨h1,h2⟩:=hR o E.w w2 hw
 have same:∀ i b,Live E i->(E.ρ i).b=some b->w2.heap[b]? =E.w.heap[b]? :=fun i b l hb=>h2 b (h.us b (h.own i b l hb).2.2.2)
 have hk:Keep E {E with w:=w2} fun _=>False:=by
  refine⟨fun b hb=>⟨hb,h2 b (h.zx b hb).2.1⟩,fun b hb=>⟨hb,h2 b (h.kept b (h.fg b hb)).2.2⟩,fun i _ ts rows wr hl=>⟨hl,rfl,fun b hb=>same i b ⟨_,hl,rfl⟩ hb⟩,fun i cs hl=>⟨cs,hl,rfl⟩,fun i m hl=>⟨m,hl,rfl⟩⟩
 refine⟨h.next hk.step (fun _=>False) (fun b hb=>hb.elim (fun x=>h2 b (h.zx b x).2.1) fun x=>h2 b (h.kept b x).2.2) h1 (fun _ hb=>hb) rfl (fun _ hb=>hb) (fun _ hb=>hb) h.us (Nat.le_refl _) ?_ (fun _ _ x=>x.elim) (fun _ _ x=>x.elim)
  (fun b hb=>⟨Nat.lt_of_lt_of_le (h.zx b hb).1 h1,(h.zx b hb).2⟩),hk.step⟩
 intro i a' hi _
 exact⟨a',hi,(lV a').symm,fun l=>⟨rfl,fun b hb=>⟨(h.own i b ⟨a',hi,l⟩ hb).2.1,same i b ⟨a',hi,l⟩ hb⟩⟩⟩
theorem qW.rely{Rl:Ow->World->World->Prop}(hR:Leaves Rl){X:Ctx}{o:Ow}{E:Env}{s:St}{cs0:List Frame}{fr:Frame}{cs:List Frame}(h:qW X o E s cs0 fr cs){w2:World}(hw:Rl o E.w w2):qW X o {E with w:=w2} s cs0 fr cs:=by
 obtain⟨h1,h2⟩:=h.ok.rely hR hw
 obtain⟨cs1,e,hc⟩:=h.callers
 exact⟨h1,h.objs,h.cur.step0 h2,⟨cs1,e,hc.step0 h2⟩,h.bx,h.root⟩
end Go.E
end
section
namespace Go.E
variable {P:Program} {main:Bool} {Rl:Ow->World->World->Prop} {C:kC} {X:Ctx} {o:Ow} {E:Env} {cs0:List Frame}
theorem zH(T:gU P C){s:St}{tmps:Array Value}{aG:Nat}(h:OK X o E aG)(ho:E.O=s.objs)(ht:kD E s.cur.tm tmps):∀ (l:List ResultVar) (vs:List AV),sD.go C s l=some vs->
  ∃ vals:List Value,dG E vs vals∧∀ (Q:List Value->World->Prop),Q vals E.w->acc P (wC o E.w) (vU o E.w) (l.mapM fun
   | .tmp t=>pure (tmps.getD t undef)
   | .cell a t=>do loadVar t (<- asAddr (tmps.getD a undef))) Q E.w
 |[],vs,hg=>by
  cases hg
  exact⟨[],by unfold dG;rfl,fun Q hq=>by simpa [bY] using hq⟩
 | .tmp t::l,vs,hg=>by
  unfold sD.go at hg
  split at hg
  ·rename_i v vs' h1 h2
   cases hg
   obtain⟨vals,k1,k2⟩:=zH T h ho ht l vs' h2
   refine⟨tmps.getD t undef::vals,by unfold dG;exact⟨_,_,rfl,ht.1 t v h1,k1⟩,fun Q hq=> ?_⟩
   rw[List.mapM_cons,ak]
   dsimp only
   rw[bY,ak]
   exact k2 _ hq
  ·cases hg
 | .cell a t::l,vs,hg=>by
  unfold sD.go at hg
  split at hg
  ·rename_i id off ti vs' h1 h2 h3
   split at hg
   ·rename_i cs hlo
    split at hg
    ·rename_i v hp
     cases hg
     obtain⟨vals,k1,k2⟩:=zH T h ho ht l vs' h3
     have e:=ht.1 a _ h1
     unfold VR at e
     rw[<- ho] at hlo
     obtain⟨cs',b,g1,g2,g3⟩:=e
     rw[hlo] at g1;cases g1
     obtain⟨b',c,tt,f,m1,m2,m3,m4⟩:=h.obj id _ hlo
     rw[g2] at m1;cases m1
     obtain⟨u,n1,n2⟩:=ql (P:=P) (base:=0) T h2 hp m2 (by simpa [List.take_of_length_le (Nat.le_of_eq (lT m4))] using m4)
     refine⟨u::vals,by unfold dG;exact⟨_,_,rfl,n1,k1⟩,fun Q hq=> ?_⟩
     rw[List.mapM_cons,ak]
     dsimp only
     rw[ak,g3]
     show acc P _ _ (loadVar t ⟨b,off,none⟩) _ _
     have:=n2 (wC o E.w) (vU o E.w) (fun x w=>acc P (wC o E.w) (vU o E.w) (do let y <- l.mapM (fun| .tmp t=>pure (tmps.getD t undef)| .cell a t=>do loadVar t (<- asAddr (tmps.getD a undef)));pure (x::y)) Q w) (.inl (h.us _ (h.own id b ⟨_,hlo,rfl⟩ g2).2.2.2)) (by
      rw[ak];exact k2 _ hq)
     rw[Nat.zero_add] at this
     exact this
    ·cases hg
   ·cases hg
  ·rename_i id i off ti vs' h1 h2 h3
   split at hg
   ·rename_i ts rows wr ts' n hlo ha
    obtain⟨hb,hg⟩:=aX hg
    cases hg
    simp only[Bool.and_eq_true] at hb
    obtain⟨⟨hm,hoff⟩,hle⟩:=hb
    have hle:=Nat.le_of_ble_eq_true hle
    obtain⟨vals,k1,k2⟩:=zH T h ho ht l vs' h3
    have e:=ht.1 a _ h1
    unfold VR at e
    rw[<- ho] at hlo
    obtain⟨ts1,Iy,wr1,b,g1,g2,g3,g4,g5⟩:=e
    rw[hlo] at g1;cases g1
    have hob:=h.obj id _ hlo
    unfold fV at hob
    rw[g2] at hob
    obtain⟨c,tt,f,q1,q2,q3,q4,q5⟩:=hob
    obtain⟨u,m1,m2⟩:=xU (P:=P) (E:=E) (y:=0) T ha (aeh hm) q1 rfl (by simpa using q5) hle
    rw[aeh hoff,Nat.add_zero] at g5
    refine⟨u::vals,by unfold dG;exact⟨_,_,rfl,m1,k1⟩,fun Q hq=> ?_⟩
    rw[List.mapM_cons,ak]
    dsimp only
    rw[ak,g5]
    show acc P _ _ (loadVar t ⟨b,i.toNat*ts.n,none⟩) _ _
    have:=m2 (wC o E.w) (vU o E.w) (fun x w=>acc P (wC o E.w) (vU o E.w) (do let y <- l.mapM (fun| .tmp t=>pure (tmps.getD t undef)| .cell a t=>do loadVar t (<- asAddr (tmps.getD a undef)));pure (x::y)) Q w) (.inl (h.us _ (h.own id b ⟨_,hlo,rfl⟩ g2).2.2.2)) (by
     rw[ak];exact k2 _ hq)
    rw[Nat.zero_add] at this
    exact this
   ·cases hg
  ·cases hg
theorem ahl{vs:List AV}{vals:List Value}(h:dG E vs vals):VR E (jr vs) (if h:vals.toArray.size=1 then vals.toArray[0] else .tuple vals.toArray):=by
 match vs,vals,h with
 |[],vals,h=>
  unfold dG at h;subst h
  unfold jr VR
  exact⟨[],by simp,by unfold dG;rfl⟩
 |[v],vals,h=>
  unfold dG at h
  obtain⟨u,q,rfl,h1,h2⟩:=h
  unfold dG at h2;subst h2
  simpa [jr] using h1
 |v::v'::vs,vals,h=>
  have hl:=lT h
  have:¬ vals.toArray.size=1:=by simp at hl ⊢;omega
  rw[dif_neg this]
  unfold jr VR
  exact⟨vals,rfl,h⟩
theorem yA(T:gU P C){s:St}{fn:Func}{tmps:Array Value}{aG:Nat}{vs:List AV}(h:OK X o E aG)(ho:E.O=s.objs)(ht:kD E s.cur.tm tmps)(hd:sD C fn s=some vs):
  ∃ v,VR E (jr vs) v∧∀ (Q:Value->World->Prop),Q v E.w->acc P (wC o E.w) (vU o E.w) (results fn tmps) Q E.w:=by
 obtain⟨vals,h1,h2⟩:=zH (P:=P) T h ho ht fn.results.toList vs hd
 refine⟨_,ahl h1,fun Q hq=> ?_⟩
 unfold results
 rw[ak,Array.mapM_eq_mapM_toList]
 show acc P _ _ (List.toArray <$> List.mapM _ fn.results.toList) _ _
 rw[map_eq_pure_bind,ak]
 exact h2 _ hq
theorem stepG_ret{f:FuncId}{fn:Func}{tmps:Array Value}{todo:List Item}{c:Frame}{cs:List Frame}{v:Value}{w w':World}(hf:P.funcs[f]? =some fn)(hr:(results fn tmps).run P w= .ok v w'):
  ∃ es,stepG P main (Conc.G {frame f tmps todo with mode:= .returning} (c::cs)) w= .go (Conc.G (c.finish v) cs) w' es:=by
 refine⟨seen P f ((results fn tmps).events P w #[]),?_⟩
 simp[Conc.G,stepG,unwind,doReturn,Frame.at,frame,Conc.base,hf,hr,GStep.after]
theorem yB{α:Type}{wr rd:Nat->Prop}{s:Sem α}{w:World}{v:α}(h:acc P wr rd s (fun a w'=>a=v∧w'=w) w):s.run P w= .ok v w:=by
 obtain⟨a,w',h1,⟨rfl,rfl⟩,_⟩:=NQ h
 exact h1
end Go.E
end
section
namespace Go.E
section
variable {P:Program} {main:Bool} {Rl:Ow->World->World->Prop} {C:kC} {Rc:ah} {R:Type} {X:Ctx} {cs0:List Frame} {Stop:R->Ow->Frame->List Frame->World->Prop}
def Goes(P:Program)(main:Bool)(Rl:Ow->World->World->Prop)(X:Ctx)(cs0:List Frame)(Stop:Ow->Frame->List Frame->World->Prop)(s:St):Prop:=
 ∀ o E fr cs,qW X o E s cs0 fr cs->Via P main Rl Stop o fr cs E.w
theorem lD{n:Nat}{x:It}{xs:List It}{y:Item}{ys:List Item}(h:ItR n x y)(h':FU n xs ys):FU n (x::xs) (y::ys):=⟨y,ys,rfl,h,h'⟩
theorem pU(hR:Leaves Rl){S:Ow->Frame->List Frame->World->Prop}{s:St}{td:List It}(hn:Goes P main Rl X cs0 S (qc s td))
  (hst:∀ (tmps:Array Value) (todo:List Item),FU tmps.size s.cur.td todo->∃ todo',FU tmps.size td todo'∧∀ cs w,∃ es,stepG P main (Conc.G (frame s.cur.fn tmps todo) cs) w= .go (Conc.G (frame s.cur.fn tmps todo') cs) w es):Goes P main Rl X cs0 S s:=by
 intro o E fr cs h
 obtain⟨tmps,todo,rfl,h1,h2⟩:=h.cur
 obtain⟨todo',h3,h4⟩:=hst tmps todo h2
 obtain⟨es,h5⟩:=h4 cs E.w
 refine .step h5 (Keeps.refl _ _) fun w2 hw=> ?_
 rw[Ow.kV] at hw⊢
 have h':qW X o E (qc s td) cs0 (frame s.cur.fn tmps todo') cs:=⟨h.ok,h.objs,⟨tmps,todo',rfl,h1,h3⟩,h.callers,h.bx,(iW {s.cur with td} s.cur s.callers rfl).trans h.root⟩
 exact hn _ _ _ _ (h'.rely hR hw)
theorem Ew{n id:Nat}:∀ {k k':List It} {todo:List Item},vY id k=some k'->FU n k todo->∃ todo',exitTo id todo=some todo'∧FU n k' todo'
 |[],k',todo,h,_=>by cases h
 | .inBlock j::k,k',todo,h,ht=>by
  obtain⟨y,ys,rfl,e,h2⟩:=ht
  have e:y= .inBlock j:=e
  subst e
  have h:(bif Nat.beq j id then some k else vY id k)=some k':=h
  show ∃ todo',(if j==id then some ys else exitTo id ys)=some todo'∧_
  by_cases x:j=id
  ·subst x
   rw[Nat.beq_refl] at h;cases h
   exact⟨ys,by simp,h2⟩
  ·rw[cZ x] at h
   obtain⟨t,k1,k2⟩:=Ew h h2
   exact⟨t,by simp[x,k1],k2⟩
 | .code c::k,k',todo,h,ht=>by
  obtain⟨y,ys,rfl,⟨rfl,_⟩,h2⟩:=ht
  obtain⟨t,k1,k2⟩:=Ew (k:=k) h h2
  exact⟨t,k1,k2⟩
 | .inLoop c::k,k',todo,h,ht=>by
  obtain⟨y,ys,rfl,⟨rfl,_⟩,h2⟩:=ht
  obtain⟨t,k1,k2⟩:=Ew (k:=k) h h2
  exact⟨t,k1,k2⟩
 | .drawn _ _ _ _ _::k,k',todo,h,ht=>by
  obtain⟨y,ys,rfl,e,h2⟩:=ht
  exact e.elim
 | .wait _ _ _ _::k,k',todo,h,ht=>by
  obtain⟨y,ys,rfl,⟨_,_,rfl,_⟩,h2⟩:=ht
  obtain⟨t,k1,k2⟩:=Ew (k:=k) h h2
  exact⟨t,k1,k2⟩
 | .ops a b::k,k',todo,h,ht=>by
  obtain⟨y,ys,rfl,⟨_,_,rfl,_⟩,h2⟩:=ht
  obtain⟨t,k1,k2⟩:=Ew (k:=k) h h2
  exact⟨t,k1,k2⟩
theorem Uj{o:Ow}{E:Env}{s:St}{fr:Frame}{cs:List Frame}{d:Nat}{b:Bool}(h:qW X o E s cs0 fr cs)(hb:look s.cur.tm d=some (.bool b)):qW X o E (know s d b) cs0 fr cs:=by
 obtain⟨tmps,todo,h1,h2,h3⟩:=h.cur
 refine⟨h.ok,h.objs,⟨tmps,todo,h1,⟨fun t x hx=> ?_,h2.2⟩,h3⟩,h.callers,h.bx,(iW {s.cur with tm:=(d,.bool b)::s.cur.tm} s.cur s.callers rfl).trans h.root⟩
 have hx:(bif Nat.beq d t then some (AV.bool b) else look s.cur.tm t)=some x:=hx
 by_cases e:d=t
 ·subst e;rw[Nat.beq_refl] at hx;cases hx;exact h2.1 d _ hb
 ·rw[cZ e] at hx;exact h2.1 t x hx
theorem ZV{o:Ow}{E:Env}{s:St}{fr:Frame}{cs:List Frame}{c:Operand}{b:Bool}(h:qW X o E s cs0 fr cs)(hb:ev s.cur.tm c=some (.bool b)):qW X o E (pq s c b) cs0 fr cs:=by
 cases c with
 |tmp t=>exact Uj h hb
 | _=>exact h
theorem XK(ops:Array Oper):(List.range ops.size).map (ops[·]?)=ops.toList.map some:=by
 apply List.ext_getElem
 ·simp
 ·intro i h1 h2
  have:i<ops.size:=by simpa using h1
  simp[this]
theorem QK{E:Env}{tm:List (Nat×AV)}{tmps:Array Value}{ops:Array Oper}{o:Oper}(ht:kD E tm tmps)(hops:ops.toList.all (qA tmps.size)=true):
  (∀ {d:Nat} {b w:Bool},wanted ops.toList tm o=some (.hang d b w)->look tm d=some (.bool b)∧Region.wanted o (yielded ops tmps)=(b==w))∧(wanted ops.toList tm o=some .yes->Region.wanted o (yielded ops tmps)=true)∧(wanted ops.toList tm o=some .no->Region.wanted o (yielded ops tmps)=false):=by
 have ahm:∀ (l:List Oper) (j:Nat),nth l j=l[j]? :=by
  intro l;induction l with
  |nil=>intro j;cases j<;>rfl
  |cons a l ih=>intro j;cases j with
   |zero=>rfl
   |succ j=>exact ih j
 unfold wanted Region.wanted
 cases hg:o.guard with
 |none=>exact⟨fun h=>(by cases h),fun _=>rfl,fun h=>(by cases h)⟩
 |some g=>
  obtain⟨j,w'⟩:=g
  dsimp only
  rw[ahm]
  have ey:∀ (oj:Oper) (d:Nat) (v:AV),ops.toList[j]? =some oj->oj.dst=some d->look tm d=some v->∃ u,VR E v u∧yielded ops tmps j=match u with| .bool b=>some b| _=>none:=by
   intro oj d v h1 h2 h3
   have hd:d<tmps.size:=by
    have:=List.all_eq_true.1 hops oj (List.mem_of_getElem? h1)
    unfold qA at this
    rw[h2] at this
    exact Nat.le_of_ble_eq_true this
   refine⟨_,ht.1 d v h3,?_⟩
   unfold yielded
   rw[<- Array.getElem?_toList,h1]
   have hget:tmps.getD d undef=tmps[d]:=by simp[Array.getD,hd]
   rw[hget]
   simp only[abJ,h2]
   rw[Array.getElem?_eq_getElem hd]
   cases tmps[d]<;>rfl
  split
  ·rename_i oj h1
   split
   ·rename_i d h2
    split
    ·rename_i b h3
     obtain⟨u,k1,k2⟩:=ey oj d _ h1 h2 h3
     unfold VR at k1;subst k1
     refine⟨fun h=> ?_,fun h=>(by cases h),fun h=>(by cases h)⟩
     cases h
     refine⟨h3,?_⟩
     rw[k2]
     cases b<;>cases w'<;>rfl
    ·rename_i h3
     obtain⟨u,k1,k2⟩:=ey oj d _ h1 h2 h3
     unfold VR at k1;subst k1
     refine⟨fun h=>(by cases h),fun h=>(by cases h),fun _=> ?_⟩
     rw[k2];rfl
    ·exact⟨fun h=>(by cases h),fun h=>(by cases h),fun h=>(by cases h)⟩
   ·exact⟨fun h=>(by cases h),fun h=>(by cases h),fun h=>(by cases h)⟩
  ·exact⟨fun h=>(by cases h),fun h=>(by cases h),fun h=>(by cases h)⟩
end
end Go.E
end
section
namespace Go.E
section
variable {P:Program} {main:Bool} {Rl:Ow->World->World->Prop} {C:kC} {Rc:ah} {R:Type} {X:Ctx} {cs0:List Frame} {S:Ow->Frame->List Frame->World->Prop}
theorem Hu{o':Ow}{E E':Env}{s:St}{cs:List Frame}{tmps:Array Value}{todo:List Item}{dst:Option Nat}{rest:List It}{v:AV}{u:Value}{O1:bn}{eY:Nat}{es:List Eff}
  (ht:kD E s.cur.tm tmps) (hcs:∃ cs1,cs=cs1++cs0∧xC E s.callers cs1) (hbx:s.bx=X.bx.map (·.1)) (hroot:kX s.cur s.callers=X.fn) (hO:E'.O=dw es O1) (hok:OK X o' E' eY) (hs:Step E E' es) (hv:VR E' v u) (hd:∀ d,dst=some d->d<tmps.size)
  (htd:FU ((Act.put ⟨tmps,[]⟩ dst u).tmps).size rest todo):qW X o' E' (after s dst rest v O1 eY es) cs0 (frame s.cur.fn ((Act.put ⟨tmps,[]⟩ dst u).tmps) todo) cs:=by
 obtain⟨cs1,e,hc⟩:=hcs
 cases es with
 |nil=>exact⟨hok,hO,⟨_,_,rfl,kD.put (E:=E') (ht.step hs) hv hd,htd⟩,⟨cs1,e,hc.step0 hs⟩,hbx,(iW {s.cur with tm:=putDst dst v s.cur.tm,td:=rest} s.cur s.callers rfl).trans hroot⟩
 |cons x r=>exact⟨hok,hO,⟨_,_,rfl,kD.put (ht.step hs) hv hd,htd⟩,⟨cs1,e,hc.step hs⟩,hbx,(yw (x::r) s.cur s.callers _ _).trans hroot⟩
theorem put_defers(tmps:Array Value)(dst:Option Nat)(u:Value):Act.put ⟨tmps,[]⟩ dst u=⟨(Act.put ⟨tmps,[]⟩ dst u).tmps,[]⟩:=by cases dst<;>rfl
theorem yC(tmps:Array Value)(dst:Option Nat)(u:Value):(Act.put ⟨tmps,[]⟩ dst u).tmps.size=tmps.size:=by cases dst<;>simp[Act.put]
theorem Wu{n:Nat}{all:List Oper}{op:Oper}{rest:List Oper}{k:List It}{todo:List Item}(h:FU n (.ops all (op::rest)::k) todo):
  ∃ ops i idx todo',todo= .inRegion ops (i::idx)::todo'∧all=ops.toList∧ops.toList.all (qA n)=true∧ops[i]? =some op∧(∀ d,op.dst=some d->d<n)∧FU n (.ops all rest::k) (.inRegion ops idx::todo')∧FU n k todo':=by
 obtain⟨y,ys,rfl,⟨ops,idx,rfl,rfl,hok,hi⟩,h2⟩:=h
 cases idx with
 |nil=>simp at hi
 |cons i idx=>
  simp only[List.map_cons,List.cons.injEq] at hi
  refine⟨ops,i,idx,ys,rfl,rfl,hok,hi.1,fun d hd=> ?_,⟨_,_,rfl,⟨ops,idx,rfl,rfl,hok,hi.2⟩,h2⟩,h2⟩
  have hm:op∈ops.toList:=by
   have:=hi.1
   rw[<- Array.getElem?_toList] at this
   exact List.mem_of_getElem? this
  have:=List.all_eq_true.1 hok op hm
  unfold qA at this
  rw[hd] at this
  exact Nat.le_of_ble_eq_true this
theorem ajd(hR:Leaves Rl){s:St}{all:List Oper}{op:Oper}{rest:List Oper}{k:List It}{o:Ow}{E:Env}{tmps:Array Value}{todo:List Item}{cs:List Frame}{ops:Array Oper}{i:Nat}{idx:List Nat}{todo':List Item}
  (h:qW X o E s cs0 (frame s.cur.fn tmps todo) cs) (ht:kD E s.cur.tm tmps) (e:todo= .inRegion ops (i::idx)::todo') (hi:ops[i]? =some op) (hd:∀ d,op.dst=some d->d<tmps.size) (htd:FU tmps.size (.ops all rest::k) (.inRegion ops idx::todo'))
  (hw:Region.wanted op (yielded ops tmps)=true) {K:KK R} {r:R} (hdo:Does P X o E (Act.eval ⟨tmps,[]⟩) op K r)
  (hK:∀ v O1 eY es,K v O1 eY es=some r->Goes P main Rl X cs0 S (after s op.dst (.ops all rest::k) v O1 eY es)):Via P main Rl S o (frame s.cur.fn tmps todo) cs E.w:=by
 obtain⟨v,O1,eY,es,hk,hacc⟩:=hdo
 obtain⟨nx,w',hrun,⟨E',hE,hF,hO,hok,hs,hv⟩,hkeep⟩:=NQ hacc
 subst e
 have keep:Keeps o.u E.w w':=hkeep.weaken fun b hb hw=>hw.elim id fun x=>absurd hb (Nat.not_lt.2 x)
 have fin:∀ u,VR E' v u->(∃ evs,stepG P main (Conc.G (frame s.cur.fn tmps (.inRegion ops (i::idx)::todo')) cs) E.w= .go (Conc.G (frame s.cur.fn ((Act.put ⟨tmps,[]⟩ op.dst u).tmps) (.inRegion ops idx::todo')) cs) w' evs)->Via P main Rl S o (frame s.cur.fn tmps (.inRegion ops (i::idx)::todo')) cs E.w:=by
  intro u hu ⟨evs,hst⟩
  refine .step hst keep fun w2 hw2=> ?_
  have hst':=Hu (cs0:=cs0) (todo:= .inRegion ops idx::todo') (rest:= .ops all rest::k) (v:=v) (u:=u) (dst:=op.dst) ht h.callers h.bx h.root hO hok hs hu hd (by rw[yC];exact htd)
  subst hE
  exact hK v O1 eY es hk _ _ _ _ (hst'.rely hR hw2)
 rcases hv with ⟨rfl,rfl⟩|⟨u,rfl,hu⟩
 ·have:=Conc.stepG_none (main:=main) (b:=Conc.base s.cur.fn) (a:=⟨tmps,[]⟩) (k:=todo') (cs:=cs) (rest:=idx) hi hw (fun x=>by cases x) hrun
  rw[put_defers] at this
  exact fin undef (by unfold VR;rfl) ⟨_,this⟩
 ·have:=Conc.stepG_value (main:=main) (b:=Conc.base s.cur.fn) (a:=⟨tmps,[]⟩) (k:=todo') (cs:=cs) (rest:=idx) hi hw (fun x=>by cases x) hrun
  rw[put_defers] at this
  exact fin u hu ⟨_,this⟩
theorem Hw(hR:Leaves Rl){s:St}{all:List Oper}{op:Oper}{rest:List Oper}{k:List It}{o:Ow}{E:Env}{tmps:Array Value}{todo:List Item}{cs:List Frame}{ops:Array Oper}{i:Nat}{idx:List Nat}{todo':List Item}
  (h:qW X o E s cs0 (frame s.cur.fn tmps todo) cs) (ht:kD E s.cur.tm tmps) (e:todo= .inRegion ops (i::idx)::todo') (hi:ops[i]? =some op) (hd:∀ d,op.dst=some d->d<tmps.size) (htd:FU tmps.size (.ops all rest::k) (.inRegion ops idx::todo'))
  (hw:Region.wanted op (yielded ops tmps)=false) (hK:Goes P main Rl X cs0 S (after s op.dst (.ops all rest::k) .undef s.objs s.aG [])):Via P main Rl S o (frame s.cur.fn tmps todo) cs E.w:=by
 subst e
 have hst:stepG P main (Conc.G (frame s.cur.fn tmps (.inRegion ops (i::idx)::todo')) cs) E.w= .go (Conc.G (frame s.cur.fn ((Act.put ⟨tmps,[]⟩ op.dst undef).tmps) (.inRegion ops idx::todo')) cs) E.w #[]:=by
  have hf:(frame s.cur.fn tmps (.inRegion ops (i::idx)::todo')).finish undef=frame s.cur.fn ((Act.put ⟨tmps,[]⟩ op.dst undef).tmps) (.inRegion ops idx::todo'):=by
   unfold frame
   rw[Frame.finish_at,hi]
   show (Conc.base s.cur.fn).at (Act.put ⟨tmps,[]⟩ op.dst undef) _=_
   rw[put_defers]
  rw[<- hf]
  have hw':((ops[i]?).map (Region.wanted · (yielded ops tmps))).getD false=false:=by rw[hi];exact hw
  simp[Conc.G,stepG,stepG.exec,frame,Frame.at,Conc.base,hw']
 refine .step hst (Keeps.refl _ _) fun w2 hw2=> ?_
 rw[Ow.kV] at hw2⊢
 have hst':=Hu (cs0:=cs0) (E':=E) (o':=o) (todo:= .inRegion ops idx::todo') (rest:= .ops all rest::k) (v:= .undef) (u:=undef) (dst:=op.dst) (O1:=s.objs) (es:=[]) ht h.callers h.bx h.root (h.objs) h.ok (Step.refl E) (by unfold VR;rfl) hd (by rw[yC];exact htd)
 exact hK _ _ _ _ (hst'.rely hR hw2)
theorem jM{n m:Nat}(h:n<=m):∀ (c:Code),codeOk n c=true->codeOk m c=true
 | .region _ ops dr,hc=>by
  unfold codeOk at hc⊢
  rw[List.all_eq_true] at hc⊢
  intro o ho
  have:=hc o ho
  unfold qA at this⊢
  cases hd:o.dst with
  |none=>rfl
  |some d=>
   rw[hd] at this
   exact Nat.ble_eq_true_of_le (Nat.le_trans (Nat.le_of_ble_eq_true this) h)
 | .seq a b,hc=>by
  unfold codeOk at hc⊢
  simp only[Bool.and_eq_true] at hc⊢
  exact⟨jM h a hc.1,jM h b hc.2⟩
 | .cond _ a b,hc=>by
  unfold codeOk at hc⊢
  simp only[Bool.and_eq_true] at hc⊢
  exact⟨jM h a hc.1,jM h b hc.2⟩
 | .block _ b,hc=>by unfold codeOk at hc ⊢;exact jM h b hc
 | .loop b,hc=>by unfold codeOk at hc ⊢;exact jM h b hc
 | .skip,_| .rangeFunc ..,_| .exit _,_| .scope _,_| .label _,_| .goto _,_| .ret,_| .refuse _,_=>rfl
theorem IQ:∀ (vs:List AV) (n t:Nat),look (uU vs n) t=if n<=t then vs[t-n]? else none
 |[],n,t=>by show none=_;split<;>simp
 |v::r,n,t=>by
  show (bif Nat.beq n t then some v else look (uU r (n+1)) t)=_
  by_cases e:n=t
  ·subst e;simp
  ·rw[cZ e,cond_false,IQ r]
   by_cases h:n<=t
   ·rw[if_pos h,if_pos (by omega),show t-n=(t-(n+1))+1 by omega];rfl
   ·rw[if_neg h,if_neg (by omega)]
theorem NY{E:Env}{vs:List AV}{vals:List Value}{pad:Array Value}(h:dG E vs vals)(hG:rO E):kD E (uU vs 0) (vals.toArray++pad):=by
 refine⟨fun t x hx=> ?_,hG⟩
 rw[IQ,if_pos (Nat.zero_le _),Nat.sub_zero] at hx
 have ahm:nth vs t=some x:=by
  clear h
  induction vs generalizing t with
  |nil=>simp at hx
  |cons a l ih=>cases t with
   |zero=>simpa [nth] using hx
   |succ t=>exact ih t (by simpa using hx)
 obtain⟨v,h1,h2⟩:=NR h ahm
 have hlt:t<vals.length:=by
  rcases Nat.lt_or_ge t vals.length with q|q
  ·exact q
  ·rw[List.getElem?_eq_none q] at h1;cases h1
 have:(vals.toArray++pad).getD t undef=v:=by
  rw[List.getElem?_eq_getElem hlt] at h1
  cases h1
  have hs:t<vals.toArray.size:=by simpa using hlt
  simp[Array.getD,hlt]
  omega
 rw[this];exact h2
end
end Go.E
end
section
namespace Go.E
section
variable {P:Program} {main:Bool} {Rl:Ow->World->World->Prop} {C:kC} {Rc:ah} {R:Type} {X:Ctx} {cs0:List Frame} {Stop:R->Ow->Frame->List Frame->World->Prop} {Rt:St->Option R} {fin:List AV->St->Option R}
theorem IU{s:St}{o:Oper}{g:FuncId}{vs:List AV}{body:Code}(h:V3 C s o=some (g,vs,body)):∃ fn,callee C s.cur.tm o.op=some (g,vs)∧look C.fns g=some fn∧fn.body=some body:=by
 unfold V3 at h
 split at h
 ·rename_i g' vs' hc
  split at h
  ·cases h
  ·split at h
   ·rename_i fn h3
    split at h
    ·rename_i c h4
     cases h
     exact⟨fn,hc,h3,h4⟩
    ·cases h
   ·cases h
 ·cases h
theorem Di {wr rd : Nat -> Prop} {w : World} {g : FuncId} {fn : Func} {body : Code} {args : Array Value} (f1 : P.funcs[g]? = some fn) (f2 : (fn.name == "runtime.NumGoroutine") = false) (hb : fn.body = some body) {Q : Next -> World -> Prop} (hq : Q (.enter g args) w) : acc P wr rd (callFunc g args) Q w := by
 unfold callFunc
 rw[ak]
 show acc P _ _ (match P.funcs[g]? with|none=>_|some fn=>_) _ _
 rw[f1]
 dsimp only
 rw[f2]
 simp only[Bool.false_eq_true,if_false,hb,Option.isNone]
 exact hq
theorem Uk{wr rd:Nat->Prop}{w:World}{t:TypeId}{m:String}{g:FuncId}(h:Iw P t m g=true){v:Value}{Q:FuncId×Value->World->Prop}(hq:Q (g,v) w)(n:Nat):acc P wr rd (method (n+1) t v m) Q w:=by
 unfold Iw at h
 split at h
 ·rename_i i hi
  split at h
  ·rename_i r hr
   rw[Bool.and_eq_true] at h
   obtain⟨hp,h⟩:=h
   have hp:r.path.toList=[]:=List.isEmpty_iff.1 hp
   split at h
   ·rename_i f pr hf
    rw[Bool.and_eq_true] at h
    obtain⟨hg,h⟩:=h
    have hg:=aeh hg
    subst hg
    unfold method
    rw[ak,kJ hi,hr]
    dsimp only
    rw[hp]
    unfold follow
    rw[ak,bY]
    dsimp only
    rw[hf]
    dsimp only
    rw[ak]
    unfold receiverAt
    split at h
    ·rename_i e hu
     subst h
     rw[ak,aB hu]
     exact hq
    ·rename_i d hne hu
     have h:pr=false:=by simpa using h
     subst h
     rw[ak,aB hu]
     cases d<;>first|exact hq|exact absurd rfl (hne _)
    ·cases h
   ·cases h
  ·cases h
 ·cases h
theorem ZW(a:Value)(b:Array Value):(#[a]++b)[0]? =some a:=by simp[Array.getElem?_append]
theorem XL(a:Value)(b:Array Value):(#[a]++b).extract 1 (#[a]++b).size=b:=by
 have: #[a]++b=⟨a::b.toList⟩:=by apply Array.ext';simp
 rw[this]
 apply Array.ext'
 simp only[Array.toList_extract,List.extract_eq_take_drop,List.drop_succ_cons,List.drop_zero]
 exact List.take_of_length_le (by simp)
theorem QL(T:gU P C){tm:List (Nat×AV)}{tmps:Array Value}{op:Oper}{g:FuncId}{vs:List AV}(h:callee C tm op.op=some (g,vs)){E0:Env}(ht0:kD E0 tm tmps){fn:Func}{body:Code}(hfn:look C.fns g=some fn)(hb:fn.body=some body):
  ∃ vals:List Value,(∀ w,(execOp (Act.eval ⟨tmps,[]⟩) op).run P w= .ok (.enter g vals.toArray) w)∧∀ E,kD E tm tmps->dG E vs vals:=by
 obtain⟨f1,f2⟩:=T.fns g fn hfn
 unfold callee at h
 split at h
 ·rename_i f args tys hop
  split at h
  ·rename_i g' a b us h1 h2
   cases h
   have e1:=dR (a:=⟨tmps,[]⟩) ht0 h1
   unfold VR at e1
   obtain⟨x,y,e1,_,_⟩:=e1
   refine⟨x++(args.toList.map (Act.eval ⟨tmps,[]⟩)++y),fun w=> ?_,fun E ht=> ?_⟩
   ·have hl:(x.toArray++args.map (Act.eval ⟨tmps,[]⟩)++y.toArray)=(x++(args.toList.map (Act.eval ⟨tmps,[]⟩)++y)).toArray:=by
     apply Array.ext';simp
    rw[<- hl]
    refine yB (wr:=fun _=>False) (rd:=fun _=>False) ?_
    unfold execOp
    rw[hop]
    dsimp only
    rw[ak]
    unfold resolve
    dsimp only
    rw[e1]
    unfold Deferred.ofValue
    dsimp only
    rw[bY]
    unfold invoke
    dsimp only
    exact Di f1 f2 hb ⟨rfl,rfl⟩
   ·have q1:=dR (a:=⟨tmps,[]⟩) ht h1
    have q2:=Bl (a:=⟨tmps,[]⟩) ht h2
    unfold VR at q1
    obtain⟨x',y',q1,ex',ey'⟩:=q1
    rw[e1] at q1
    have hxx:x=x'∧y=y':=by
     simp only[Value.func.injEq] at q1
     exact⟨by simpa using congrArg Array.toList q1.2.1,by simpa using congrArg Array.toList q1.2.2⟩
    obtain⟨rfl,rfl⟩:=hxx
    exact pI ex' (pI q2 ey')
  ·cases h
 ·rename_i x m args tys hop
  split at h
  ·rename_i t v us h1 h2
   split at h
   ·rename_i g' hm
    cases h
    have e1:=dR (a:=⟨tmps,[]⟩) ht0 h1
    unfold VR at e1
    obtain⟨v',e1,_⟩:=e1
    refine⟨v'::args.toList.map (Act.eval ⟨tmps,[]⟩),fun w=> ?_,fun E ht=> ?_⟩
    ·refine yB (wr:=fun _=>False) (rd:=fun _=>False) ?_
     unfold execOp
     rw[hop]
     dsimp only
     rw[ak]
     unfold resolve
     dsimp only
     rw[bY,e1]
     dsimp only
     unfold invoke
     dsimp only
     rw[ZW]
     dsimp only
     unfold callMethod
     dsimp only
     rw[ak]
     show acc P _ _ (program) _ _
     show acc P (fun _=>False) (fun _=>False) (method (P.types.size+Made.depth) t v' m >>= _) _ _
     rw[ak]
     refine Uk (T.meth t m g hm) ?_ (P.types.size+99)
     dsimp only
     rw[XL]
     have eb: #[v']++args.map (Act.eval ⟨tmps,[]⟩)=(v'::args.toList.map (Act.eval ⟨tmps,[]⟩)).toArray:=by
      apply Array.ext'
      simp
     rw[eb]
     exact Di f1 f2 hb ⟨rfl,rfl⟩
    ·have q1:=dR (a:=⟨tmps,[]⟩) ht h1
     have q2:=Bl (a:=⟨tmps,[]⟩) ht h2
     unfold VR at q1
     obtain⟨v1,q1,q3⟩:=q1
     rw[e1] at q1
     cases q1
     unfold dG
     exact⟨_,_,rfl,q3,q2⟩
   ·cases h
  ·cases h
 ·cases h
theorem Wv(T:gU P C)(hcode:∀ g fn c,look C.fns g=some fn->fn.body=some c->codeOk fn.ntmps c=true)(hR:Leaves Rl){S:Ow->Frame->List Frame->World->Prop}{s:St}{op:Oper}{o:Ow}{E:Env}{tmps:Array Value}{todo:List Item}{cs:List Frame}{ops:Array Oper}{i:Nat}{idx:List Nat}{todo':List Item}
  (h:qW X o E s cs0 (frame s.cur.fn tmps todo) cs) (ht:kD E s.cur.tm tmps) (e:todo= .inRegion ops (i::idx)::todo') (hi:ops[i]? =some op) (htd:FU tmps.size s.cur.td todo) (hw:Region.wanted op (yielded ops tmps)=true) {g:FuncId} {vs:List AV} {body:Code} (hg:V3 C s op=some (g,vs,body))
  (hK:Goes P main Rl X cs0 S {s with cur:={fn:=g,tm:=uU vs 0,td:=[.code body]},callers:=s.cur::s.callers}):Via P main Rl S o (frame s.cur.fn tmps todo) cs E.w:=by
 obtain⟨fn,GR,h3,h4⟩:=IU hg
 obtain⟨f1,f2⟩:=T.fns g fn h3
 obtain⟨vals,hrun,hvs⟩:=QL T GR ht h3 h4
 have hvs:=hvs E ht
 subst e
 have hst:=Conc.stepG_enter (main:=main) (b:=Conc.base s.cur.fn) (a:=⟨tmps,[]⟩) (k:=todo') (cs:=cs) (rest:=idx) hi hw (fun x=>by cases x) (hrun E.w)
 rw[Conc.enter_at _ f1 h4] at hst
 refine .step hst (Keeps.refl _ _) fun w2 hw2=> ?_
 rw[Ow.kV] at hw2⊢
 obtain⟨cs1,ec,hc⟩:=h.callers
 have h':qW X o E {s with cur:={fn:=g,tm:=uU vs 0,td:=[.code body]},callers:=s.cur::s.callers} cs0
   (frame g (vals.toArray++Array.replicate (fn.ntmps-vals.toArray.size) undef) [.code body])
   (frame s.cur.fn tmps (.inRegion ops (i::idx)::todo')::cs):=by
  refine⟨h.ok,h.objs,⟨_,_,rfl,NY hvs ht.2,?_⟩,⟨frame s.cur.fn tmps (.inRegion ops (i::idx)::todo')::cs1,by rw[ec];rfl,?_⟩,h.bx,h.root⟩
  ·refine lD ⟨rfl,jM ?_ body (hcode g fn body h3 h4)⟩ rfl
   simp only[Array.size_append,Array.size_replicate];omega
  ·exact⟨_,_,rfl,⟨tmps,_,rfl,ht,htd⟩,hc⟩
 exact hK _ _ _ _ (h'.rely hR hw2)
theorem ZX(T:gU P C)(hR:Leaves Rl){S:Ow->Frame->List Frame->World->Prop}{s:St}{o:Ow}{E:Env}{tmps:Array Value}{todo:List Item}{cs:List Frame}{fn:Func}{vs:List AV}(h:qW X o E s cs0 (frame s.cur.fn tmps todo) cs)(ht:kD E s.cur.tm tmps)
  (hend:todo=[]∨∃ k,todo= .code .ret::k) (hfn:look C.fns s.cur.fn=some fn) (hd:sD C fn s=some vs) {c:Fr} {xu:List Fr} {all:List Oper} {op:Oper} {rest:List Oper} {k:List It} (hcs:s.callers=c::xu) (NZ:c.td= .ops all (op::rest)::k)
  (hK:Goes P main Rl X cs0 S {s with cur:={c with tm:=putDst op.dst (jr vs) c.tm,td:= .ops all rest::k},callers:=xu}):Via P main Rl S o (frame s.cur.fn tmps todo) cs E.w:=by
 have hst:stepG P main (Conc.G (frame s.cur.fn tmps todo) cs) E.w= .go (Conc.G {frame s.cur.fn tmps todo with mode:= .returning} cs) E.w #[]:=by
  rcases hend with rfl|⟨k,rfl⟩<;>simp[Conc.G,stepG,stepG.exec,frame,Frame.at,Conc.base]
 refine .step hst (Keeps.refl _ _) fun w2 hw2=> ?_
 rw[Ow.kV] at hw2⊢
 have h2:=h.rely hR hw2
 obtain⟨_,hs2⟩:=h.ok.rely hR hw2
 have ht2:kD {E with w:=w2} s.cur.tm tmps:=by have:=ht.step hs2;simpa [jU] using this
 obtain⟨v,hv,hacc⟩:=yA (P:=P) T h2.ok h2.objs ht2 hd
 have hrun:=yB (hacc _ ⟨rfl,rfl⟩)
 obtain⟨f1,_⟩:=T.fns _ fn hfn
 obtain⟨cs1,ec,hc⟩:=h2.callers
 rw[hcs] at hc
 obtain⟨y,ys,rfl,hy,hys⟩:=hc
 obtain⟨ct,ctd,rfl,hct,QM⟩:=hy
 rw[NZ] at QM
 obtain⟨ops,i,idx,todo',rfl,rfl,hok,hi,hdst,htd,asQ⟩:=Wu QM
 rw[List.cons_append] at ec
 subst ec
 obtain⟨es,hst2⟩:=stepG_ret (main:=main) (todo:=todo) (c:=frame c.fn ct (.inRegion ops (i::idx)::todo')) (cs:=ys++cs0) f1 hrun
 have hf:(frame c.fn ct (.inRegion ops (i::idx)::todo')).finish v=frame c.fn ((Act.put ⟨ct,[]⟩ op.dst v).tmps) (.inRegion ops idx::todo'):=by
  unfold frame
  rw[Frame.finish_at,hi]
  show (Conc.base c.fn).at (Act.put ⟨ct,[]⟩ op.dst v) _=_
  rw[put_defers]
 rw[hf] at hst2
 refine .step hst2 (Keeps.refl _ _) fun w3 hw3=> ?_
 rw[Ow.kV] at hw3⊢
 have h3:qW X o {E with w:=w2} {s with cur:={c with tm:=putDst op.dst (jr vs) c.tm,td:= .ops ops.toList rest::k},callers:=xu} cs0 (frame c.fn ((Act.put ⟨ct,[]⟩ op.dst v).tmps) (.inRegion ops idx::todo')) (ys++cs0):=
  ⟨h2.ok,h2.objs,⟨_,_,rfl,hct.put hv hdst,by rw[yC];exact htd⟩,⟨ys,rfl,hys⟩,h2.bx,by have:=h2.root;rw[hcs] at this;exact (iW {c with tm:=putDst op.dst (jr vs) c.tm,td:= .ops ops.toList rest::k} c xu rfl).trans this⟩
 exact hK _ _ _ _ (h3.rely hR hw3)
end
end Go.E
end
section
namespace Go.E
section
variable {P:Program} {main:Bool} {Rl:Ow->World->World->Prop} {C:kC} {Rc:ah} {R:Type} {X:Ctx} {cs0:List Frame} {Stop:R->Ow->Frame->List Frame->World->Prop} {Rt:St->Option R} {fin:List AV->St->Option R}
structure IV (P:Program) (main:Bool) (Rl:Ow->World->World->Prop) (C:kC) (Rc:ah) (X:Ctx) (cs0:List Frame) (Stop:R->Ow->Frame->List Frame->World->Prop) (Rt:St->Option R) (fin:List AV->St->Option R):Prop where
 tys:gU P C
 code:∀ g fn c,look C.fns g=some fn->fn.body=some c->codeOk fn.ntmps c=true
 draws:∀ g fn c,look C.fns g=some fn->fn.body=some c->gZ C g c=true
 rely:Leaves Rl
 canon:∀ t s s',canon t s=some s'->∀ o E fr cs,qW X o E s cs0 fr cs->∃ E':Env,E'.w=E.w∧qW X o E' s' cs0 fr cs
 back:∀ s r,Rt s=some r->GI C s->Goes P main Rl X cs0 (Stop r) s
 fin:∀ vs s r fn,fin vs s=some r->s.callers=[]->look C.fns s.cur.fn=some fn->sD C fn s=some vs->∀ o E tmps todo,qW X o E s cs0 (frame s.cur.fn tmps todo) cs0->kD E s.cur.tm tmps->
  Via P main Rl (Stop r) o {frame s.cur.fn tmps todo with mode:= .returning} cs0 E.w
 call:∀ (K:KK R) s all op rest k r q,callee C s.cur.tm op.op=some q->s.cur.td= .ops all (op::rest)::k->fP C Rc s.cur.tm s.objs s.aG op K=some r->
  (∀ v O1 eY es,K v O1 eY es=some r->Goes P main Rl X cs0 (Stop r) (after s op.dst (.ops all rest::k) v O1 eY es))->∀ o E tmps todo cs ops i idx todo',qW X o E s cs0 (frame s.cur.fn tmps todo) cs->kD E s.cur.tm tmps->todo= .inRegion ops (i::idx)::todo'->
  ops[i]? =some op->(∀ d,op.dst=some d->d<tmps.size)->FU tmps.size (.ops all rest::k) (.inRegion ops idx::todo')->Region.wanted op (yielded ops tmps)=true->Via P main Rl (Stop r) o (frame s.cur.fn tmps todo) cs E.w
def ZY(C:kC)(fin:List AV->St->Option R)(k:St->Option R)(s:St):Option R:=match look C.fns s.cur.fn with
 |some fn=>match sD C fn s with
  |some vs=>match s.callers with
   |[]=>fin vs s
   |c::cs=>match c.td with
    | .ops all (o::rest)::kk=>k {s with cur:={c with tm:=putDst o.dst (jr vs) c.tm,td:= .ops all rest::kk},callers:=cs}
    | .wait ps all i rest::kk=>match nth all i with
     |some o=>k {s with cur:={c with tm:=putDst o.dst (jr vs) c.tm,td:= .drawn (some ps) all rest [] s.aG::kk},callers:=cs,aG:=s.aG+all.length}
     |none=>none
    | _=>none
  |none=>none
 |none=>none
theorem Z4{fn:Func}{s:St}{l:List Fr}:sD C fn {s with callers:=l}=sD C fn s:=by
 unfold sD
 generalize fn.results.toList=r
 induction r with
 |nil=>rfl
 |cons x r ih=>cases x<;>(unfold sD.go;rw[ih])
theorem ahn{n:Nat}{ps:List Nat}{all:List Oper}{i:Nat}{rest:List (Nat×List Nat)}{k:List It}{todo:List Item}(h:FU n (.wait ps all i rest::k) todo):
  ∃ (ops:Array Oper) (σ:List Nat) (op:Oper) (rest':List Oper),all=ops.toList∧nth all i=some op∧Left ps all rest σ∧σ.map (ops[·]?)=rest'.map some∧FU n (.ops all (op::rest')::k) todo:=by
 obtain⟨y,ys,rfl,⟨ops,σ,rfl,rfl,hok,hi,hl⟩,h2⟩:=h
 obtain⟨an,D,ha,hp⟩:=hl
 have hex:∀ x∈σ,x<ops.size:=fun x hx=>by
  have:=hp.ex x ((hp.mem x).2 hx)
  rwa [Array.length_toList] at this
 have hr:∃ rest':List Oper,σ.map (ops[·]?)=rest'.map some:=by
  have:∀ l:List Nat,(∀ x∈l,x<ops.size)->∃ rest':List Oper,l.map (ops[·]?)=rest'.map some:=by
   intro l
   induction l with
   |nil=>intro _;exact⟨[],rfl⟩
   |cons x l ih=>
    intro hl
    obtain⟨r,e⟩:=ih fun y hy=>hl y (aef _ hy)
    exact⟨ops[x]'(hl x aee)::r,by rw[List.map_cons,List.map_cons,e,Array.getElem?_eq_getElem (hl x aee)]⟩
  exact this σ hex
 obtain⟨rest',er⟩:=hr
 refine⟨ops,σ,ops[i],rest',rfl,?_,⟨an,D,ha,hp⟩,er,lD ⟨ops,i::σ,rfl,rfl,hok,?_⟩ h2⟩
 ·rw[zD,Array.getElem?_toList,Array.getElem?_eq_getElem hi]
 ·rw[List.map_cons,List.map_cons,er,Array.getElem?_eq_getElem hi]
theorem IW(L:IV P main Rl C Rc X cs0 Stop Rt fin){k:St->Option R}{s:St}{r:R}(hr:ZY C fin k s=some r)(hsd:GI C s)(hk:∀ s,k s=some r->GI C s->Goes P main Rl X cs0 (Stop r) s)
  (hkw:∀ (s2:St) (ps:List Nat) (ops:Array Oper) (rest:List (Nat×List Nat)) (kk:List It) (σ:List Nat) (rest':List Oper),k (pz s2 (some ps) ops.toList rest kk)=some r->GI C (qc s2 kk)->Left ps ops.toList rest σ->σ.map (ops[·]?)=rest'.map some->Goes P main Rl X cs0 (Stop r) (qc s2 (.ops ops.toList rest'::kk)))
  (hend:s.cur.td=[]∨∃ q,s.cur.td= .code .ret::q):Goes P main Rl X cs0 (Stop r) s:=by
 intro o E fr cs h
 obtain⟨tmps,todo,rfl,ht,htd⟩:=h.cur
 have hend':todo=[]∨∃ k,todo= .code .ret::k:=by
  rcases hend with e|⟨q,e⟩
  ·rw[e] at htd;exact .inl htd
  ·rw[e] at htd;obtain⟨y,ys,rfl,⟨rfl,_⟩,_⟩:=htd;exact .inr ⟨ys,rfl⟩
 unfold ZY at hr
 split at hr
 ·rename_i fn hfn
  split at hr
  ·rename_i vs hd
   split at hr
   ·rename_i hcs
    have hst:stepG P main (Conc.G (frame s.cur.fn tmps todo) cs) E.w= .go (Conc.G {frame s.cur.fn tmps todo with mode:= .returning} cs) E.w #[]:=by
     rcases hend' with rfl|⟨k,rfl⟩<;>simp[Conc.G,stepG,stepG.exec,frame,Frame.at,Conc.base]
    refine .step hst (Keeps.refl _ _) fun w2 hw2=> ?_
    rw[Ow.kV] at hw2⊢
    have h2:=h.rely L.rely hw2
    obtain⟨_,hs2⟩:=h.ok.rely L.rely hw2
    have ht2:kD {E with w:=w2} s.cur.tm tmps:=by have:=ht.step hs2;simpa [jU] using this
    obtain⟨cs1,ec,hc⟩:=h.callers
    rw[hcs] at hc
    obtain rfl:cs1=[]:=hc
    obtain rfl:cs=cs0:=by simpa using ec
    exact L.fin vs s r fn hr hcs hfn hd o _ tmps todo h2 ht2
   ·rename_i c xu hcs
    split at hr
    ·rename_i all op rest kk NZ
     exact ZX L.tys L.rely h ht hend' hfn hd hcs NZ (hk _ hr fun p hp=>by
      have hc:gy C c.fn c.td=true:=hsd (c.fn,c.td) (by unfold fd;rw[hcs];exact aef _ aee)
      rcases List.mem_cons.1 hp with e|hp
      ·subst e
       rw[NZ] at hc
       exact hc
      ·exact hsd p (by unfold fd;rw[hcs];exact aef _ (aef _ hp)))
    ·rename_i ps all i rest kk NZ
     split at hr
     ·rename_i op hop
      obtain⟨cs1,ec,hc⟩:=h.callers
      have hc':=hc
      rw[hcs] at hc'
      obtain⟨y,ys,rfl,⟨ct,ctd,rfl,hct,QM⟩,hys⟩:=hc'
      rw[NZ] at QM
      obtain⟨ops,σ,op',rest',rfl,hop',hl,hm,aje⟩:=ahn QM
      rw[hop] at hop';cases hop'
      let s':St:={s with callers:={c with td:= .ops ops.toList (op::rest')::kk}::xu}
      have h':qW X o E s' cs0 (frame s'.cur.fn tmps todo) cs:=⟨h.ok,h.objs,h.cur,⟨_,ec,⟨_,_,rfl,⟨ct,ctd,rfl,hct,aje⟩,hys⟩⟩,h.bx,by
       have:=h.root
       rw[hcs] at this
       show kX s.cur ({c with td:= .ops ops.toList (op::rest')::kk}::xu)=_
       rw[<- this]
       show kX {c with td:= .ops ops.toList (op::rest')::kk} xu=kX c xu
       exact iW _ _ _ rfl⟩
      have hd':sD C fn s'=some vs:=Z4.trans hd
      refine ZX (s:=s') L.tys L.rely h' ht hend' hfn hd' (c:={c with td:= .ops ops.toList (op::rest')::kk}) (xu:=xu) rfl rfl ?_
      refine hkw {s with cur:={c with tm:=putDst op.dst (jr vs) c.tm,td:=[]},callers:=xu} ps ops rest kk σ rest' hr (fun p hp=> ?_) hl hm
      have hc2:gy C c.fn c.td=true:=hsd (c.fn,c.td) (by unfold fd;rw[hcs];exact aef _ aee)
      rcases List.mem_cons.1 hp with e|hp
      ·subst e
       rw[NZ] at hc2
       exact hc2
      ·exact hsd p (by unfold fd;rw[hcs];exact aef _ (aef _ hp))
     ·cases hr
    ·cases hr
  ·cases hr
 ·cases hr
theorem uJ{n:Nat}{x:It}{k:List It}{todo:List Item}(h:FU n (x::k) todo):∃ y ys,todo=y::ys∧ItR n x y∧FU n k ys:=h
theorem qW.at{o:Ow}{E:Env}{s:St}{fr:Frame}{cs:List Frame}(h:qW X o E s cs0 fr cs):∃ tmps todo,fr=frame s.cur.fn tmps todo∧kD E s.cur.tm tmps∧FU tmps.size s.cur.td todo:=h.cur
theorem Z5(s:St)(dst:Option Nat)(td:List It)(v:AV)(O1:bn)(eY:Nat)(es:List Eff):fd (after s dst td v O1 eY es)=(s.cur.fn,td)::s.callers.map fun f=>(f.fn,f.td):=by
 cases es with
 |nil=>rfl
 |cons e r=>
  show _::List.map (fun f=>(f.fn,f.td)) (jG (e::r) s.callers)=_
  unfold jG
  rw[List.map_map];rfl
theorem Dj{s:St}{dst:Option Nat}{td:List It}{v:AV}{O1:bn}{eY:Nat}{es:List Eff}(h:GI C s)(ht:gy C s.cur.fn s.cur.td=true->gy C s.cur.fn td=true):GI C (after s dst td v O1 eY es):=by
 intro p hp
 rw[Z5] at hp
 rcases List.mem_cons.1 hp with e|hp
 ·subst e;exact ht (h (s.cur.fn,s.cur.td) aee)
 ·exact h p (aef _ hp)
theorem sK(L:IV P main Rl C Rc X cs0 Stop Rt fin){k:St->Option R}{s:St}{r:R}{all:List Oper}{op:Oper}{rest:List Oper}{kk:List It}(ajf:s.cur.td= .ops all (op::rest)::kk)
  (hsd:GI C s) (hk:∀ s,k s=some r->GI C s->Goes P main Rl X cs0 (Stop r) s):
  (∀ {o E tmps todo cs ops i idx todo'},qW X o E s cs0 (frame s.cur.fn tmps todo) cs->kD E s.cur.tm tmps->todo= .inRegion ops (i::idx)::todo'->ops[i]? =some op->(∀ d,op.dst=some d->d<tmps.size)->FU tmps.size (.ops all rest::kk) (.inRegion ops idx::todo')->FU tmps.size s.cur.td todo->
   Region.wanted op (yielded ops tmps)=true->(match V3 C s op with
    |some (g,vs,body)=>k {s with cur:={fn:=g,tm:=uU vs 0,td:=[.code body]},callers:=s.cur::s.callers}
    |none=>fP C Rc s.cur.tm s.objs s.aG op fun v O aG iP=>k (after s op.dst (.ops all rest::kk) v O aG iP))=some r->Via P main Rl (Stop r) o (frame s.cur.fn tmps todo) cs E.w):=by
 intro o E tmps todo cs ops i idx todo' h ht e hi hd htd am6 hw hr
 have Z7:∀ v O1 eY es,GI C (after s op.dst (.ops all rest::kk) v O1 eY es):=fun v O1 eY es=>Dj hsd (by rw[ajf];exact fun h=>h)
 split at hr
 ·rename_i g vs body hg
  obtain⟨fn,_,hfn,hbody⟩:=IU hg
  refine Wv L.tys L.code L.rely h ht e hi am6 hw hg (hk _ hr fun p hp=> ?_)
  rcases List.mem_cons.1 hp with e|hp
  ·subst e
   show (gZ C g body&&true)=true
   rw[Bool.and_true];exact L.draws g fn body hfn hbody
  ·exact hsd p hp
 ·cases hc:callee C s.cur.tm op.op with
  |some q=>
   exact L.call _ s all op rest kk r q hc ajf hr (fun v O1 eY es hkk=>hk _ hkk (Z7 v O1 eY es)) o E tmps todo cs ops i idx todo' h ht e hi hd htd hw
  |none=>
   rw[<- h.objs] at hr
   exact ajd L.rely h ht e hi hd htd hw (ZU L.tys h.ok (a:=⟨tmps,[]⟩) ht hc hr) fun v O1 eY es hkk=>hk _ hkk (Z7 v O1 eY es)
end
end Go.E
end
