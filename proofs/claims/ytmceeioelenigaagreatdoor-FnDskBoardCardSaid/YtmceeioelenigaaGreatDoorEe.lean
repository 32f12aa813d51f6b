/- Regions whose order is left open. -/
import Derived.Conc.CompanyDraw
import Derived.Orders
import Derived.Test.YtmceeioelenigaaGreatDoorEd
section
namespace Go.E
section
variable {C:kC} {Rc:ah} {R:Type}
theorem bJ{p:Prop}[Decidable p]{x:Option R}{r:R}(h:chk p x=some r):p∧x=some r∧∀ {R':Type} (y:Option R'),chk p y=y:=by
 unfold chk at h
 split at h
 ·rename_i hp;exact⟨hp,h,fun y=>by unfold chk;rw[if_pos hp]⟩
 ·cases h
theorem QN{op:BinOp}{k:IntKind}{x y:Int}{K:AV->Option R}{r:R}(h:Ii op k x y K=some r):∃ v,K v=some r∧v.ids=[]∧∀ {R':Type} (K':AV->Option R'),Ii op k x y K'=K' v:=by
 cases op<;>unfold Ii at h<;>first|exact⟨_,h,rfl,fun K'=>rfl⟩|(cases h;done)|(obtain⟨hp,h,hc⟩:=bJ h;exact⟨_,h,rfl,fun K'=>by unfold Ii;exact hc _⟩)
theorem IX{l:Bool}{k:IntKind}{x y:Int}{K:AV->Option R}{r:R}(h:rU l k x y K=some r):∃ v,K v=some r∧v.ids=[]∧∀ {R':Type} (K':AV->Option R'),rU l k x y K'=K' v:=by
 unfold rU at h
 obtain⟨hp,h,hc⟩:=bJ h
 cases l
 ·exact⟨_,h,rfl,fun K'=>by unfold rU;rw[hc];rfl⟩
 ·exact⟨_,h,rfl,fun K'=>by unfold rU;rw[hc];rfl⟩
theorem Z8{op:BinOp}{x y:ByteArray}{K:AV->Option R}{r:R}(h:NC op x y K=some r):∃ v,K v=some r∧v.ids=[]∧∀ {R':Type} (K':AV->Option R'),NC op x y K'=K' v:=by
 cases op<;>unfold NC at h<;>first|exact⟨_,h,rfl,fun K'=>rfl⟩|(cases h;done)|(obtain⟨hp,h,hc⟩:=bJ h;exact⟨_,h,rfl,fun K'=>by unfold NC;exact hc _⟩)
theorem fC{b:Bool}{x:Option R}{r:R}(h:(bif b then x else none)=some r):b=true∧x=some r:=by
 cases b
 ·cases h
 ·exact⟨rfl,h⟩
theorem gV{b:Bool}{x:Option R}{r:R}(h:(bif b then none else x)=some r):b=false∧x=some r:=by
 cases b
 ·exact⟨rfl,h⟩
 ·cases h
theorem Wx{kd:Nat}{cmp:List CT}{lit:Bool}{O:bn}{x y:AV}{K:Bool->Option R}{r:R}(h:aeq kd cmp lit O x y K=some r):∃ b,K b=some r∧∀ {R':Type} (K':Bool->Option R') (O':bn),(∀ i∈x.ids,look O' i=look O i)->aeq kd cmp lit O' x y K'=K' b:=by
 unfold aeq at h
 split at h<;>first
  |(obtain⟨hb,h⟩:=fC h;exact⟨_,h,fun K' O' _=>by unfold aeq;rw[hb];rfl⟩)
  |(cases h;done)
  |skip
 ·rename_i xs ys
  cases cmp with
  |nil=>cases h
  |cons c cs=>
   dsimp only at h
   split at h
   ·rename_i b hb
    exact⟨b,h,fun K' O' _=>by unfold aeq;dsimp only;rw[hb]⟩
   ·cases h
 ·rename_i id
  split at h
  ·rename_i ts rows wr hl
   obtain⟨hb,h⟩:=fC h
   obtain⟨hp,h,hc⟩:=bJ h
   refine⟨_,h,fun K' O' hO=> ?_⟩
   unfold aeq
   dsimp only
   rw[hO id aee,hl]
   dsimp only
   rw[hb,cond_true,hc]
  ·cases h
 ·obtain⟨hb,h⟩:=fC h
  obtain⟨hp,h,hc⟩:=bJ h
  exact⟨_,h,fun K' O' _=>by unfold aeq;dsimp only;rw[hb,cond_true,hc]⟩
theorem Z9{kd:Nat}{cmp:List CT}{lit:Bool}{O:bn}{op:BinOp}{x y:AV}{K:AV->Option R}{r:R}(h:CB kd cmp lit O op x y K=some r):
  ∃ v,K v=some r∧v.ids=[]∧∀ {R':Type} (K':AV->Option R') (O':bn),(∀ i∈x.ids,look O' i=look O i)->CB kd cmp lit O' op x y K'=K' v:=by
 unfold CB at h
 split at h
 ·obtain⟨v,h1,h2,h3⟩:=IX h
  exact⟨v,h1,h2,fun K' O' _=>by unfold CB;exact h3 K'⟩
 ·obtain⟨v,h1,h2,h3⟩:=IX h
  exact⟨v,h1,h2,fun K' O' _=>by unfold CB;exact h3 K'⟩
 ·rename_i n1 n2
  obtain⟨hb,h⟩:=fC h
  obtain⟨v,h1,h2,h3⟩:=QN h
  exact⟨v,h1,h2,fun K' O' _=>by rw[CB.eq_3 _ _ _ _ _ _ _ _ _ _ n1 n2,hb,cond_true];exact h3 K'⟩
 ·obtain⟨v,h1,h2,h3⟩:=Z8 h
  exact⟨v,h1,h2,fun K' O' _=>by rw[CB.eq_4];exact h3 K'⟩
 ·rename_i n1 n2
  obtain⟨b,h1,h3⟩:=Wx h
  exact⟨_,h1,rfl,fun K' O' hO=>by rw[CB.eq_5 _ _ _ _ _ _ _ n1 n2];exact h3 _ O' hO⟩
 ·rename_i n1 n2
  obtain⟨b,h1,h3⟩:=Wx h
  exact⟨_,h1,rfl,fun K' O' hO=>by rw[CB.eq_6 _ _ _ _ _ _ _ n1 n2];exact h3 _ O' hO⟩
 ·cases h
theorem yD{α:Type}{rows:List α}{lo hi:Option AV}{K:List α->Option R}{r:R}(h:kG rows lo hi K=some r):∃ l,K l=some r∧∀ {R':Type} (K':List α->Option R'),kG rows lo hi K'=K' l:=by
 unfold kG at h
 split at h
 ·exact⟨_,h,fun K'=>rfl⟩
 ·obtain⟨_,h,c1⟩:=bJ h
  obtain⟨_,h,c2⟩:=bJ h
  exact⟨_,h,fun K'=>by unfold kG;dsimp only;rw[c1,c2]⟩
 ·obtain⟨_,h,c1⟩:=bJ h
  obtain⟨_,h,c2⟩:=bJ h
  exact⟨_,h,fun K'=>by unfold kG;dsimp only;rw[c1,c2]⟩
 ·obtain⟨_,h,c1⟩:=bJ h
  obtain⟨_,h,c2⟩:=bJ h
  obtain⟨_,h,c3⟩:=bJ h
  exact⟨_,h,fun K'=>by unfold kG;dsimp only;rw[c1,c2,c3]⟩
 ·cases h
theorem Ap{n:Nat}{lo hi:Option AV}{K:Int->Int->Option R}{r:R}(h:jA n lo hi K=some r):∃ l m,K l m=some r∧∀ {R':Type} (K':Int->Int->Option R'),jA n lo hi K'=K' l m:=by
 unfold jA at h
 split at h
 ·exact⟨_,_,h,fun K'=>rfl⟩
 ·obtain⟨_,h,c1⟩:=bJ h
  obtain⟨_,h,c2⟩:=bJ h
  exact⟨_,_,h,fun K'=>by unfold jA;dsimp only;rw[c1,c2]⟩
 ·obtain⟨_,h,c1⟩:=bJ h
  obtain⟨_,h,c2⟩:=bJ h
  exact⟨_,_,h,fun K'=>by unfold jA;dsimp only;rw[c1,c2]⟩
 ·obtain⟨_,h,c1⟩:=bJ h
  obtain⟨_,h,c2⟩:=bJ h
  obtain⟨_,h,c3⟩:=bJ h
  exact⟨_,_,h,fun K'=>by unfold jA;dsimp only;rw[c1,c2,c3]⟩
 ·cases h
theorem Ul{s:ByteArray}{lo hi:Option AV}{K:ByteArray->Option R}{r:R}(h:rV s lo hi K=some r):∃ l,K l=some r∧∀ {R':Type} (K':ByteArray->Option R'),rV s lo hi K'=K' l:=by
 unfold rV at h
 split at h
 ·exact⟨_,h,fun K'=>rfl⟩
 ·obtain⟨_,h,c1⟩:=bJ h
  obtain⟨_,h,c2⟩:=bJ h
  exact⟨_,h,fun K'=>by unfold rV;dsimp only;rw[c1,c2]⟩
 ·obtain⟨_,h,c1⟩:=bJ h
  obtain⟨_,h,c2⟩:=bJ h
  exact⟨_,h,fun K'=>by unfold rV;dsimp only;rw[c1,c2]⟩
 ·obtain⟨_,h,c1⟩:=bJ h
  obtain⟨_,h,c2⟩:=bJ h
  obtain⟨_,h,c3⟩:=bJ h
  exact⟨_,h,fun K'=>by unfold rV;dsimp only;rw[c1,c2,c3]⟩
 ·cases h
end
end Go.E
end
section
namespace Go.E
section
variable {C:kC} {Rc:ah} {R:Type} {tm tm':List (Nat×AV)} {O O':bn}
theorem qB:∀ {l:List Operand},(∀ x∈l,ev tm' x=ev tm x)->evs tm' l=evs tm l
 |[],_=>rfl
 |x::r,h=>by
  unfold evs
  rw[h x aee,qB fun y hy=>h y (aef _ hy)]
theorem Hy:∀ {l:List (Nat×Operand)},(∀ x∈l.map (·.2),ev tm' x=ev tm x)->KR tm' l=KR tm l
 |[],_=>rfl
 |(i,x)::r,h=>by
  unfold KR
  rw[h x aee,Hy fun y hy=>h y (aef _ hy)]
theorem kR{x:Option Operand}(h:∀ y∈x.toList,ev tm' y=ev tm y):xg tm' x=xg tm x:=by
 cases x with
 |none=>rfl
 |some y=>show (ev tm' y).map some=(ev tm y).map some;rw[h y (by simp)]
theorem dQ:∀ {l:List Operand} {x:Operand} {v:AV} {i:Nat},x∈l->ev tm x=some v->i∈v.ids->i∈fE tm l
 |y::r,x,v,i,hx,hv,hi=>by
  show i∈(match ev tm y with|some v=>v.ids|none=>[])++fE tm r
  rcases List.mem_cons.1 hx with e|hx
  ·subst e;rw[hv];exact adh.2 (.inl hi)
  ·exact adh.2 (.inr (dQ hx hv hi))
theorem Hz:∀ {l:List Operand} {vs:List AV} {v:AV},evs tm l=some vs->v∈vs->∃ x∈l,ev tm x=some v
 |[],vs,v,h,hv=>by cases h;cases hv
 |x::r,vs,v,h,hv=>by
  unfold evs at h
  split at h
  ·rename_i u us h1 h2
   cases h
   rcases List.mem_cons.1 hv with e|hv
   ·subst e;exact⟨x,aee,h1⟩
   ·obtain⟨y,hy,e⟩:=Hz h2 hv
    exact⟨y,aef _ hy,e⟩
  ·cases h
def Again(C:kC)(tm:List (Nat×AV))(O:bn)(o:Oper)(v:AV):Prop:=
 ∀ {R':Type} (K':KK R') (oU:ah) (tm':List (Nat×AV)) (O':bn) (gq:Nat),(∀ x∈opers o.op,ev tm' x=ev tm x)->(∀ i∈dJ tm o,look O' i=look O i)->fP C oU tm' O' gq o K'=K' v O' gq []
theorem lF{v:AV}(h:∀ i∈v.ids,look O' i=look O i):rowsOf O' v=rowsOf O v:=by
 cases v with
 |own id=>show (match look O' id with|some (.arr ts rows _)=>some (Rows.mk ts rows [id])| _=>none)=_;rw[h id aee];rfl
 |sub id lo hi=>show (match look O' id with|some (.arr ts rows _)=>some (Rows.mk ts ((rows.take hi.toNat).drop lo.toNat) [id])| _=>none)=_;rw[h id aee];rfl
 | _=>rfl
theorem QO{o:Oper}(hq:quiet C o=true){K:KK R}{r:R}{aG:Nat}(h:fP C Rc tm O aG o K=some r):∃ v,K v O aG []=some r∧Again C tm O o v:=by
 obtain⟨dst,op,ty,pos,aft,guard⟩:=o
 unfold Again
 cases op with
 |move x=>
  unfold fP at h ⊢;dsimp only[opers,dJ] at h⊢
  split at h
  ·rename_i v hx
   exact⟨v,h,fun K' oU tm' O' gq he _=>by rw[he x aee,hx]⟩
  ·cases h
 |assign x=>
  unfold fP at h ⊢;dsimp only[opers,dJ] at h⊢
  split at h
  ·rename_i v hx
   exact⟨v,h,fun K' oU tm' O' gq he _=>by rw[he x aee,hx]⟩
  ·cases h
 |pick c a b=>
  unfold fP at h ⊢;dsimp only[opers,dJ] at h⊢
  split at h
  ·rename_i t x y hc ha hb
   cases t
   ·exact⟨y,h,fun K' oU tm' O' gq he _=>by rw[he c (by simp),he a (by simp),he b (by simp),hc,ha,hb];rfl⟩
   ·exact⟨x,h,fun K' oU tm' O' gq he _=>by rw[he c (by simp),he a (by simp),he b (by simp),hc,ha,hb];rfl⟩
  ·cases h
 |extract x i=>
  unfold fP at h ⊢;dsimp only[opers,dJ] at h⊢
  split at h
  ·rename_i vs hx
   split at h
   ·rename_i v hv
    exact⟨v,h,fun K' oU tm' O' gq he _=>by rw[he x aee,hx];dsimp only;rw[hv]⟩
   ·cases h
  ·cases h
 |binOp op t x y yt=>
  unfold fP at h ⊢;dsimp only[opers,dJ] at h⊢
  split at h
  ·rename_i a b hx hy
   obtain⟨v,h1,_,h2⟩:=Z9 h
   refine⟨v,h1,fun K' oU tm' O' gq he hO=> ?_⟩
   rw[he x (by simp),he y (by simp),hx,hy]
   exact h2 (fun v=>K' v O' gq []) O' fun i hi=>hO i (dQ (by simp) hx hi)
  ·cases h
 |unOp op t x=>
  unfold fP at h ⊢;dsimp only[opers,dJ] at h⊢
  split at h
  ·rename_i k n hx
   exact⟨_,h,fun K' oU tm' O' gq he _=>by rw[he x aee,hx]⟩
  ·rename_i k n hx
   obtain⟨v,h1,_,h2⟩:=QN h
   exact⟨v,h1,fun K' oU tm' O' gq he _=>by rw[he x aee,hx];exact h2 _⟩
  ·rename_i b hx
   exact⟨_,h,fun K' oU tm' O' gq he _=>by rw[he x aee,hx]⟩
  ·cases h
 |fieldAddr t x f=>
  unfold fP at h ⊢;dsimp only[opers,dJ] at h⊢
  split at h
  ·rename_i ti v hl hx
   split at h
   ·rename_i q ft id off hf
    obtain⟨hb,h⟩:=gV h
    exact⟨_,h,fun K' oU tm' O' gq he _=>by rw[he x aee,hl,hx];dsimp only;rw[hf];dsimp only;rw[hb];rfl⟩
   ·rename_i q ft id i off hf
    obtain⟨hb,h⟩:=gV h
    exact⟨_,h,fun K' oU tm' O' gq he _=>by rw[he x aee,hl,hx];dsimp only;rw[hf];dsimp only;rw[hb];rfl⟩
   ·rename_i q ft ts rows deps i off hf
    obtain⟨hb,h⟩:=gV h
    exact⟨_,h,fun K' oU tm' O' gq he _=>by rw[he x aee,hl,hx];dsimp only;rw[hf];dsimp only;rw[hb];rfl⟩
   ·cases h
  ·cases h
 |field t x f=>
  unfold fP at h ⊢;dsimp only[opers,dJ] at h⊢
  split at h
  ·rename_i ti cs hl hx
   split at h
   ·rename_i q ft hf
    split at h
    ·rename_i tf htf
     split at h
     ·rename_i v hv
      exact⟨_,h,fun K' oU tm' O' gq he _=>by rw[he x aee,hl,hx];dsimp only;rw[hf];dsimp only;rw[htf];dsimp only;rw[hv]⟩
     ·cases h
    ·cases h
   ·cases h
  ·cases h
 |indexAddr t x i=>
  unfold fP at h ⊢;dsimp only[opers,dJ] at h⊢
  split at h
  ·rename_i hs
   split at h
   ·cases h
   ·rename_i ts' n ha
    split at h
    ·rename_i id j off k m hx hi
     split at h
     ·rename_i ts rows wr hl
      obtain⟨hb,h⟩:=fC h
      obtain⟨_,h,c1⟩:=bJ h
      obtain⟨_,h,c2⟩:=bJ h
      obtain⟨_,h,c3⟩:=bJ h
      refine⟨_,h,fun K' oU tm' O' gq he hO=> ?_⟩
      rw[he x (by simp),he i (by simp),hx,hi];dsimp only
      rw[hO id (dQ (x:=x) (by simp) hx aee),hl];dsimp only
      rw[hb,cond_true,c1,c2,c3]
     ·cases h
    ·rename_i ts rows deps j off k m hx hi
     obtain⟨hb,h⟩:=fC h
     obtain⟨_,h,c1⟩:=bJ h
     obtain⟨_,h,c2⟩:=bJ h
     obtain⟨_,h,c3⟩:=bJ h
     refine⟨_,h,fun K' oU tm' O' gq he hO=> ?_⟩
     rw[he x (by simp),he i (by simp),hx,hi];dsimp only
     rw[hb,cond_true,c1,c2,c3]
    ·cases h
  ·rename_i ts' hs
   split at h
   ·rename_i id k n hx hi
    split at h
    ·rename_i ts rows wr hl
     obtain⟨hb,h⟩:=gV h
     obtain⟨_,h,c1⟩:=bJ h
     obtain⟨_,h,c2⟩:=bJ h
     refine⟨_,h,fun K' oU tm' O' gq he hO=> ?_⟩
     rw[he x (by simp),he i (by simp),hx,hi];dsimp only
     rw[hO id (dQ (x:=x) (by simp) hx aee),hl];dsimp only
     rw[hb,cond_false,c1,c2]
    ·cases h
   ·rename_i ts rows deps k n hx hi
    obtain⟨hb,h⟩:=gV h
    obtain⟨_,h,c1⟩:=bJ h
    obtain⟨_,h,c2⟩:=bJ h
    refine⟨_,h,fun K' oU tm' O' gq he hO=> ?_⟩
    rw[he x (by simp),he i (by simp),hx,hi];dsimp only
    rw[hb,cond_false,c1,c2]
   ·rename_i id lo hi' k n hx hi
    split at h
    ·rename_i ts rows wr hl
     obtain⟨hb,h⟩:=gV h
     obtain⟨_,h,c1⟩:=bJ h
     obtain⟨_,h,c2⟩:=bJ h
     refine⟨_,h,fun K' oU tm' O' gq he hO=> ?_⟩
     rw[he x (by simp),he i (by simp),hx,hi];dsimp only
     rw[hO id (dQ (x:=x) (by simp) hx aee),hl];dsimp only
     rw[hb,cond_false,c1,c2]
    ·cases h
   ·cases h
 |index t x i=>
  unfold fP at h ⊢;dsimp only[opers,dJ] at h⊢
  split at h
  ·rename_i s k n hx hi
   obtain⟨hb,h⟩:=gV h
   obtain⟨_,h,c1⟩:=bJ h
   obtain⟨_,h,c2⟩:=bJ h
   refine⟨_,h,fun K' oU tm' O' gq he hO=> ?_⟩
   rw[he x (by simp),he i (by simp),hx,hi];dsimp only
   rw[hb,cond_false,c1,c2]
  ·cases h
 |slice t x lo hi mx=>
  cases mx with
  |some _=>unfold fP at h;cases h
  |none=>
   unfold fP at h ⊢;dsimp only[opers,dJ] at h⊢
   cases hsub:dN t C.subs with
   |true=>
   rw[hsub,cond_true] at h
   split at h
   ·rename_i id l hh hx hl hhh
    split at h
    ·rename_i ts rows wr ts' hlo hts
     obtain⟨hb,h⟩:=fC h
     obtain⟨q1,q2,h1,h2⟩:=Ap h
     refine⟨_,h1,fun K' oU tm' O' gq he hO=> ?_⟩
     rw[cond_true,he x (by simp),kR (x:=lo) (fun y hy=>he y (by simp only[List.mem_cons,adh];exact .inr (.inl hy))),kR (x:=hi) (fun y hy=>he y (by simp only[List.mem_cons,adh];exact .inr (.inr hy))),hx,hl,hhh]
     dsimp only
     rw[hO id (dQ (x:=x) (by simp) hx aee),hlo,hts];dsimp only
     rw[hb,cond_true,h2]
    ·cases h
   ·rename_i id i off l hh hx hl hhh
    split at h
    ·rename_i ts rows wr ts' n hlo ha
     obtain⟨hb,h⟩:=fC h
     obtain⟨_,h,c1⟩:=bJ h
     obtain⟨_,h,c2⟩:=bJ h
     obtain⟨q1,q2,h1,h2⟩:=Ap h
     refine⟨_,h1,fun K' oU tm' O' gq he hO=> ?_⟩
     rw[cond_true,he x (by simp),kR (x:=lo) (fun y hy=>he y (by simp only[List.mem_cons,adh];exact .inr (.inl hy))),kR (x:=hi) (fun y hy=>he y (by simp only[List.mem_cons,adh];exact .inr (.inr hy))),hx,hl,hhh]
     dsimp only
     rw[hO id (dQ (x:=x) (by simp) hx aee),hlo,ha];dsimp only
     rw[hb,cond_true,c1,c2,h2]
    ·cases h
   ·rename_i v l hh hnx hne hx hl hhh
    split at h
    ·rename_i rr ts' hr hts
     obtain⟨hb,h⟩:=gV h
     obtain⟨q,h1,h2⟩:=yD h
     refine⟨_,h1,fun K' oU tm' O' gq he hO=> ?_⟩
     rw[cond_true,he x (by simp),kR (x:=lo) (fun y hy=>he y (by simp only[List.mem_cons,adh];exact .inr (.inl hy))),kR (x:=hi) (fun y hy=>he y (by simp only[List.mem_cons,adh];exact .inr (.inr hy))),hx,hl,hhh]
     have e:=lF (O:=O) (O':=O') fun i hi=>hO i (dQ (x:=x) (by simp) hx hi)
     cases v<;>first|exact absurd rfl (hnx _)|exact absurd rfl (hne _ _ _)|(dsimp only;rw[e,hr,hts];dsimp only;rw[hb,cond_false,h2])
    ·cases h
   ·cases h
   |false=>
   rw[hsub,cond_false] at h
   simp only[cond_false]
   split at h
   ·rename_i ts' n ha
    split at h
    ·rename_i id i off l hh hx hl hhh
     split at h
     ·rename_i ts rows wr hlo
      obtain⟨hb,h⟩:=fC h
      obtain⟨_,h,c1⟩:=bJ h
      obtain⟨_,h,c2⟩:=bJ h
      obtain⟨q,h1,h2⟩:=yD h
      refine⟨_,h1,fun K' oU tm' O' gq he hO=> ?_⟩
      rw[he x (by simp),kR (x:=lo) (fun y hy=>he y (by simp only[List.mem_cons,adh];exact .inr (.inl hy))),kR (x:=hi) (fun y hy=>he y (by simp only[List.mem_cons,adh];exact .inr (.inr hy))),hx,hl,hhh]
      dsimp only
      rw[hO id (dQ (x:=x) (by simp) hx aee),hlo];dsimp only
      rw[hb,cond_true,c1,c2,h2]
     ·cases h
    ·cases h
   split at h
   ·rename_i s l hh hx hl hhh
    obtain⟨hb,h⟩:=gV h
    obtain⟨q,h1,h2⟩:=Ul h
    refine⟨_,h1,fun K' oU tm' O' gq he hO=> ?_⟩
    rw[he x (by simp),kR (x:=lo) (fun y hy=>he y (by simp only[List.mem_cons,adh];exact .inr (.inl hy))),kR (x:=hi) (fun y hy=>he y (by simp only[List.mem_cons,adh];exact .inr (.inr hy))),hx,hl,hhh]
    dsimp only
    rw[hb,cond_false,h2]
   ·rename_i v l hh hnx hx hl hhh
    split at h
    ·rename_i rr ts' hr hts
     obtain⟨hb,h⟩:=gV h
     obtain⟨q,h1,h2⟩:=yD h
     refine⟨_,h1,fun K' oU tm' O' gq he hO=> ?_⟩
     rw[he x (by simp),kR (x:=lo) (fun y hy=>he y (by simp only[List.mem_cons,adh];exact .inr (.inl hy))),kR (x:=hi) (fun y hy=>he y (by simp only[List.mem_cons,adh];exact .inr (.inr hy))),hx,hl,hhh]
     have e:=lF (O:=O) (O':=O') fun i hi=>hO i (dQ (x:=x) (by simp) hx hi)
     cases v<;>first|exact absurd rfl (hnx _)|(dsimp only;rw[e,hr,hts];dsimp only;rw[hb,cond_false,h2])
    ·cases h
   ·cases h
 |sliceToArrayPointer t x=>
  unfold fP at h ⊢;dsimp only[opers,dJ] at h⊢
  split at h
  ·rename_i ts' n v ha hx
   split at h
   ·rename_i q hq'
    obtain⟨hb,h⟩:=fC h
    obtain⟨_,h,c1⟩:=bJ h
    refine⟨_,h,fun K' oU tm' O' gq he hO=> ?_⟩
    rw[he x aee,ha,hx];dsimp only
    rw[lF (O:=O) (O':=O') fun i hi=>hO i (dQ (x:=x) aee hx hi),hq'];dsimp only
    rw[hb,cond_true,c1]
   ·cases h
  ·cases h
 |makeInterface t x=>
  unfold fP at h ⊢;dsimp only[opers,dJ] at h⊢
  split at h
  ·rename_i v hx
   obtain⟨hb,h⟩:=gV h
   exact⟨_,h,fun K' oU tm' O' gq he _=>by rw[he x aee,hx];dsimp only;rw[hb];rfl⟩
  ·cases h
 |makeFunc fn a b=>
  unfold fP at h ⊢;dsimp only[opers,dJ] at h⊢
  split at h
  ·rename_i x y hx hy
   refine⟨_,h,fun K' oU tm' O' gq he _=> ?_⟩
   rw[qB (tm:=tm) (fun z hz=>he z (adh.2 (.inl hz))),qB (tm:=tm) (fun z hz=>he z (adh.2 (.inr hz))),hx,hy]
  ·cases h
 |nilCheck x=>
  unfold fP at h ⊢;dsimp only[opers,dJ] at h⊢
  split at h<;>first|(cases h;done)|(rename_i hx;exact⟨_,h,fun K' oU tm' O' gq he _=>by rw[he x aee,hx]⟩)
 |build t ps=>
  unfold fP at h ⊢;dsimp only[opers,dJ] at h⊢
  split at h
  ·rename_i ti vs hl hps
   split at h
   ·rename_i cs hcs
    obtain⟨hb,h⟩:=fC h
    refine⟨_,h,fun K' oU tm' O' gq he _=> ?_⟩
    rw[Hy (tm:=tm) he,hl,hps];dsimp only
    rw[hcs];dsimp only
    rw[hb,cond_true]
   ·rename_i hcs
    obtain⟨hb,h⟩:=fC h
    split at h
    ·rename_i te hte
     split at h
     ·rename_i cs hcs2
      refine⟨_,h,fun K' oU tm' O' gq he _=> ?_⟩
      rw[Hy (tm:=tm) he,hl,hps];dsimp only
      rw[hcs];dsimp only
      rw[hb,cond_true,hte];dsimp only
      rw[hcs2]
     ·cases h
    ·cases h
  ·cases h
 |load t x=>
  unfold fP at h ⊢;dsimp only[opers,dJ] at h⊢
  split at h
  ·rename_i ti id off hl hx
   split at h
   ·rename_i cs hlo
    split at h
    ·rename_i v hv
     refine⟨v,h,fun K' oU tm' O' gq he hO=> ?_⟩
     rw[he x aee,hl,hx];dsimp only
     rw[hO id (dQ aee hx aee),hlo];dsimp only
     rw[hv]
    ·cases h
   ·cases h
  ·rename_i ti id i off hl hx
   split at h
   ·rename_i ts rows wr hlo
    split at h
    ·rename_i ts' n ha
     obtain⟨hb,h⟩:=fC h
     obtain⟨_,h,c1⟩:=bJ h
     refine⟨_,h,fun K' oU tm' O' gq he hO=> ?_⟩
     rw[he x aee,hl,hx];dsimp only
     rw[hO id (dQ aee hx aee),hlo];dsimp only
     rw[hb,cond_true,c1]
    split at h
    ·rename_i v hv
     refine⟨v,h,fun K' oU tm' O' gq he hO=> ?_⟩
     rw[he x aee,hl,hx];dsimp only
     rw[hO id (dQ aee hx aee),hlo];dsimp only
     rw[hv]
    ·cases h
   ·cases h
  ·rename_i ti ts rows deps i off hl hx
   split at h
   ·rename_i ts' n ha
    obtain⟨hb,h⟩:=fC h
    obtain⟨_,h,c1⟩:=bJ h
    refine⟨_,h,fun K' oU tm' O' gq he hO=> ?_⟩
    rw[he x aee,hl,hx];dsimp only
    rw[hb,cond_true,c1]
   split at h
   ·rename_i v hv
    refine⟨v,h,fun K' oU tm' O' gq he hO=> ?_⟩
    rw[he x aee,hl,hx];dsimp only
    rw[hv]
   ·cases h
  ·cases h
 |convert src dst' x=>
  have hk:Nat.beq (qK C dst') 11=true∨(Nat.beq (qK C dst') 9=true∧Nat.beq (qK C src) 9=true):=by
   have hq:(Nat.beq (qK C dst') 11||(Nat.beq (qK C dst') 9&&Nat.beq (qK C src) 9))=true:=hq
   rw[Bool.or_eq_true,Bool.and_eq_true] at hq;exact hq
  unfold fP at h ⊢;dsimp only[opers,dJ] at h⊢
  split at h
  ·rename_i k n td tsr hx hd hs
   split at h
   ·rename_i k' hrow
    obtain⟨hb,h⟩:=fC h
    exact⟨_,h,fun K' oU tm' O' gq he _=>by rw[he x aee,hx,hd,hs];dsimp only;rw[hrow];dsimp only;rw[hb];rfl⟩
   ·cases h
  ·rename_i s td tsr hx hd hs
   cases hb:Nat.beq td.kd 9 with
   |true=>
    rw[hb,cond_true] at h
    exact⟨_,h,fun K' oU tm' O' gq he _=>by rw[he x aee,hx,hd,hs];dsimp only;rw[hb];rfl⟩
   |false=>
    exfalso
    have e:qK C dst'=td.kd:=by unfold qK;rw[hd]
    rcases hk with hk|⟨hk,_⟩
    ·rw[hb,cond_false] at h
     have hns:D7 C dst'=none:=by
      unfold D7;rw[hd];dsimp only
      rw[<- e,aeh hk];rfl
     rw[hns] at h;cases h
    ·rw[e,hb] at hk;cases hk
  ·rename_i v td tsr hnx1 hnx2 hx hd hs
   exfalso
   split at h
   ·rename_i hsl
    have e:qK C dst'=td.kd:=by unfold qK;rw[hd]
    rcases hk with hk|⟨_,hk⟩
    ·split at h
     ·rename_i te hte
      obtain⟨hb,h⟩:=fC h
      rw[Bool.and_eq_true] at hb
      rw[<- e,aeh hk] at hb
      exact absurd hb.2 (by decide)
     ·cases h
    ·have e2:qK C src=tsr.kd:=by unfold qK;rw[hs]
     unfold D7 at hsl
     rw[hs] at hsl
     dsimp only at hsl
     rw[<- e2,aeh hk] at hsl
     cases hsl
   ·cases h
  ·cases h
 |call c=>
  obtain⟨cal,args,tys⟩:=c
  cases cal with
  |builtin b=>
   cases b<;>first|(cases hq;done)|skip
   case len=>
    unfold fP at h ⊢;dsimp only[opers,dJ] at h⊢
    split at h
    ·rename_i s t ha ht
     obtain⟨hb,h⟩:=gV h
     exact⟨_,h,fun K' oU tm' O' gq he _=>by rw[qB (tm:=tm) he,ha,ht];dsimp only;rw[hb];rfl⟩
    ·rename_i id t ha ht
     split at h
     ·rename_i q hq'
      split at h
      ·rename_i kt vt es hlo
       refine⟨_,h,fun K' oU tm' O' gq he hO=> ?_⟩
       rw[qB (tm:=tm) he,ha,ht];dsimp only
       rw[hq'];dsimp only
       have e:=hO id (by
        obtain⟨x,hx1,hx2⟩:=Hz ha aee
        exact dQ hx1 hx2 aee)
       rw[e,hlo]
      ·cases h
     ·cases h
    ·rename_i v t hnx hnx2 ha ht
     split at h
     ·rename_i ts hts
      split at h
      ·refine⟨_,h,fun K' oU tm' O' gq he _=> ?_⟩
       rw[qB (tm:=tm) he,ha,ht];dsimp only
       rw[hts]
      ·rename_i hnn
       split at h
       ·rename_i rr hr
        refine⟨_,h,fun K' oU tm' O' gq he hO=> ?_⟩
        rw[qB (tm:=tm) he,ha,ht]
        have e:=lF (v:=v) (O:=O) (O':=O') fun i hi=>by
         obtain⟨x,hx1,hx2⟩:=Hz ha aee
         exact hO i (dQ hx1 hx2 hi)
        cases v<;>first|exact absurd rfl (hnx _)|exact absurd rfl (hnx2 _)|exact absurd rfl hnn|(dsimp only;rw[hts];dsimp only;rw[e,hr])
       ·cases h
     ·cases h
    ·cases h
   case min=>
    unfold fP at h ⊢;dsimp only[opers,dJ] at h⊢
    split at h
    ·rename_i k a k' b ha
     obtain⟨hb,h⟩:=fC h
     exact⟨_,h,fun K' oU tm' O' gq he _=>by rw[qB (tm:=tm) he,ha];dsimp only;rw[hb];rfl⟩
    ·cases h
   case max=>
    unfold fP at h ⊢;dsimp only[opers,dJ] at h⊢
    split at h
    ·rename_i k a k' b ha
     obtain⟨hb,h⟩:=fC h
     exact⟨_,h,fun K' oU tm' O' gq he _=>by rw[qB (tm:=tm) he,ha];dsimp only;rw[hb];rfl⟩
    ·cases h
  | _=>cases hq
 | _=>cases hq
end
end Go.E
end
section
namespace Go.E
section
variable {C:kC} {Rc:ah} {R:Type} {tm tm':List (Nat×AV)} {O O':bn}
theorem IY(m:Md)(t:CT)(d:t.D)(n:Nat):n<=(dI m t d n).2.2∧∀ q∈(dI m t d n).2.1,n<=q.1:=by
 cases t with
 |sl ts=>
  cases m with
  |mv=>exact⟨Nat.le_succ n,fun q hq=>by obtain rfl:=List.mem_singleton.1 hq;exact Nat.le_refl n⟩
  |ro=>exact⟨Nat.le_refl n,fun q hq=>by cases hq⟩
  |leak=>exact⟨Nat.le_refl n,fun q hq=>by cases hq⟩
 | _=>cases m<;>exact⟨Nat.le_refl n,fun q hq=>by cases hq⟩
theorem jv:∀ (ts:aC) (ms:List Md) (d:ts.D) (n:Nat),n<=(putCells ts ms d n).2.2∧∀ q∈(putCells ts ms d n).2.1,n<=q.1
 | .one t,ms,d,n=>IY _ t d n
 | .cons t ts,ms,d,n=>by
  cases ht:jH t with
  |false=>
   have e:putCells (.cons t ts) ms d n=(t.av d.1::(putCells ts ms d.2 n).1,(putCells ts ms d.2 n).2.1,(putCells ts ms d.2 n).2.2):=by
    show (bif jH t then _ else _)=_
    rw[ht];rfl
   rw[e]
   exact jv ts ms d.2 n
  |true=>
   have e:∃ m ms',putCells (.cons t ts) ms d n=((dI m t d.1 n).1::(putCells ts ms' d.2 (dI m t d.1 n).2.2).1,(putCells ts ms' d.2 (dI m t d.1 n).2.2).2.1++(dI m t d.1 n).2.1,(putCells ts ms' d.2 (dI m t d.1 n).2.2).2.2):=by
    cases ms with
    |nil=>exact⟨.ro,[],by show (bif jH t then _ else _)=_;rw[ht];rfl⟩
    |cons m ms'=>exact⟨m,ms',by show (bif jH t then _ else _)=_;rw[ht];rfl⟩
   obtain⟨m,ms',e⟩:=e
   rw[e]
   have h1:=IY m t d.1 n
   have h2:=jv ts ms' d.2 (dI m t d.1 n).2.2
   exact⟨Nat.le_trans h1.1 h2.1,fun q hq=>(adh.1 hq).elim (fun x=>Nat.le_trans h1.1 (h2.2 q x)) (h1.2 q)⟩
theorem zI{boxes:List Nat}{p:PT}{d:p.sh.D}{n:Nat}:n<=(eU boxes p d n).2.2∧∀ q∈(eU boxes p d n).2.1,q.1∈boxes∨n<=q.1:=by
 match p,d with
 |⟨.one t,ms⟩,d=>
  have e:eU boxes ⟨.one t,ms⟩ d n=putCells (.one t) ms d n:=by cases ms<;>rfl
  rw[e]
  exact⟨(jv (.one t) ms d n).1,fun q hq=> .inr ((jv (.one t) ms d n).2 q hq)⟩
 |⟨.agg ts,ms⟩,d=>exact⟨(jv ts ms d n).1,fun q hq=> .inr ((jv ts ms d n).2 q hq)⟩
 |⟨.rP,ms⟩,d=>exact⟨Nat.le_refl n,fun q hq=>by cases hq⟩
 |⟨.st ts,ms⟩,d=>
  cases boxes with
  |nil=>exact⟨(jv ts ms d n).1,fun q hq=> .inr ((jv ts ms d n).2 q hq)⟩
  |cons b bs=>
   refine⟨(jv ts ms d n).1,fun q hq=> ?_⟩
   have hq:q∈(b,AO.box (putCells ts ms d n).1)::(putCells ts ms d n).2.1:=hq
   rcases List.mem_cons.1 hq with e|hq
   ·subst e;exact .inl aee
   ·exact .inr ((jv ts ms d n).2 q hq)
theorem LY:∀ (ps:List PT) (boxes:List Nat) (d:He ps) (n:Nat),∀ q∈(cO boxes ps d n).2.1,q.1∈boxes∨n<=q.1
 |[],boxes,d,n,q,hq=>by cases hq
 |[p],boxes,d,n,q,hq=>(zI (p:=p) (d:=d)).2 q hq
 |p::p'::r,boxes,d,n,q,hq=>by
  have hq:q∈(cO (bif fQ p then mM boxes else boxes) (p'::r) d.2 (eU boxes p d.1 n).2.2).2.1++(eU boxes p d.1 n).2.1:=hq
  have k:=zI (boxes:=boxes) (p:=p) (d:=d.1) (n:=n)
  rcases adh.1 hq with hq|hq
  ·rcases LY (p'::r) _ d.2 _ q hq with h|h
   ·left
    cases hp:fQ p<;>rw[hp] at h
    ·exact h
    ·cases boxes with
     |nil=>cases h
     |cons b bs=>exact aef _ h
   ·exact .inr (Nat.le_trans k.1 h)
  ·exact k.2 q hq
theorem XM{l:bn}{i:Nat}(h:∀ q∈l,q.1≠i):look l i=none:=by
 induction l with
 |nil=>rfl
 |cons p r ih=>
  obtain⟨j,a⟩:=p
  show (bif Nat.beq j i then some a else look r i)=none
  rw[cZ (h (j,a) aee),cond_false]
  exact ih fun q hq=>h q (aef _ hq)
theorem Aq:∀ {l:List Nat} {i:Nat},i∉l->look (iQ l) i=none
 |[],_,_=>rfl
 |j::r,i,h=>by
  show (bif Nat.beq j i then some AO.dead else look (iQ r) i)=none
  rw[cZ fun e=>h (by rw[e];exact aee),cond_false]
  exact Aq fun x=>h (aef _ x)
theorem oD:∀ {l:List Operand},(∀ x∈l,ev tm' x=ev tm x)->fE tm' l=fE tm l
 |[],_=>rfl
 |x::r,h=>by
  unfold fE
  rw[h x aee,oD fun y hy=>h y (aef _ hy)]
theorem vF:∀ (t:CT) (x:AV),(∀ i∈x.ids,look O' i=look O i)->t.jq O' x=t.jq O x
 | .sl ts,.own id,h=>by
  show (match look O' id with|some (.arr ts' rows _)=>lu ts' ts rows| _=>none)=_
  rw[h id aee];rfl
 | .int _,x,_| .bool,x,_| .str,x,_=>by cases x<;>rfl
 | .sl ts,.int ..,_| .sl ts,.bool _,_| .sl ts,.str _,_| .sl ts,.aT,_| .sl ts,.ro ..,_| .sl ts,.kF,_| .sl ts,.ptr ..,_| .sl ts,.gX ..,_| .sl ts,.iE ..,_| .sl ts,.jo,_| .sl ts,.func ..,_
 | .sl ts,.nZ,_| .sl ts,.iface ..,_| .sl ts,.agg _,_| .sl ts,.AY _,_| .sl ts,.undef,_| .sl ts,.dead,_| .sl ts,.mp _,_| .sl ts,.raw _,_| .sl ts,.sub ..,_=>rfl
theorem sN:∀ (ts:aC) (xs:List AV),(∀ i∈AV.jB xs,look O' i=look O i)->ts.iL O' xs=ts.iL O xs
 | .one t,[],_=>rfl
 | .one t,[x],h=>vF t x fun i hi=>h i (adh.2 (.inl hi))
 | .one t,x::y::r,_=>rfl
 | .cons t ts,[],_=>rfl
 | .cons t ts,x::xs,h=>by
  show (match t.jq O' x,ts.iL O' xs with|some d,some e=>some (d,e)| _,_=>none)=_
  rw[vF t x fun i hi=>h i (adh.2 (.inl hi)),sN ts xs fun i hi=>h i (adh.2 (.inr hi))];rfl
theorem QS:∀ (ts:aC) (d:ts.D) (n:Nat) (x:AV),(∀ i∈x.ids,look O' i=look O i)->ts.put O' d n x=ts.put O d n x
 | .one t,d,0,x,h=>vF t x h
 | .one t,d,n+1,x,_=>rfl
 | .cons t ts,d,0,x,h=>by show (t.jq O' x).map _=_;rw[vF t x h];rfl
 | .cons t ts,d,n+1,x,h=>by show (ts.put O' d.2 n x).map _=_;rw[QS ts d.2 n x h];rfl
theorem LZ(ts:aC):∀ (xs:List AV) (d:ts.D) (n:Nat),(∀ i∈AV.jB xs,look O' i=look O i)->ts.puts O' d n xs=ts.puts O d n xs
 |[],d,n,_=>rfl
 |x::xs,d,n,h=>by
  show (match ts.put O' d n x with|some e=>ts.puts O' e (n+1) xs|none=>none)=_
  rw[QS ts d n x fun i hi=>h i (adh.2 (.inl hi))]
  show _=(match ts.put O d n x with|some e=>ts.puts O e (n+1) xs|none=>none)
  cases ts.put O d n x with
  |none=>rfl
  |some e=>exact LZ ts xs e (n+1) fun i hi=>h i (adh.2 (.inr hi))
theorem Ar(ts:aC):∀ (n:Nat) (xs:List AV),(∀ i∈AV.jB xs,look O' i=look O i)->mW O' ts n xs=mW O ts n xs
 |0,[],_=>rfl
 |0,_::_,_=>rfl
 |n+1,xs,h=>by
  have tk:∀ (k:Nat) (xs l:List AV),takeN k xs=some l->(∀ i∈AV.jB l,i∈AV.jB xs):=by
   intro k
   induction k with
   |zero=>intro xs l hl i hi;cases hl;cases hi
   |succ k ih=>
    intro xs l hl i hi
    cases xs with
    |nil=>cases hl
    |cons y ys=>
     obtain⟨z,hz,rfl⟩:=Option.map_eq_some_iff.1 (show (takeN k ys).map (y:: ·)=some l from hl)
     rcases adh.1 (show i∈y.ids++AV.jB z from hi) with hi|hi
     ·exact adh.2 (.inl hi)
     ·exact adh.2 (.inr (ih ys z hz i hi))
  have dk:∀ (k:Nat) (xs:List AV),(∀ i∈AV.jB (rQ k xs),i∈AV.jB xs):=by
   intro k
   induction k with
   |zero=>intro xs i hi;cases xs<;>exact hi
   |succ k ih=>
    intro xs i hi
    cases xs with
    |nil=>exact hi
    |cons y ys=>exact adh.2 (.inr (ih ys i hi))
  have e:∀ O:bn,mW O ts (n+1) xs=match takeN ts.n xs with
   |some l=>match ts.iL O l,mW O ts n (rQ ts.n xs) with
    |some d,some ds=>some (d::ds)
    | _,_=>none
   |none=>none:=fun O=>by cases xs<;>rfl
  rw[e,e]
  cases hl:takeN ts.n xs with
  |none=>rfl
  |some l=>
   dsimp only
   rw[sN ts l fun i hi=>h i (tk _ _ _ hl i hi),Ar ts n _ fun i hi=>h i (dk _ _ i hi)]
theorem wE:∀ (l:List Nat),(∀ i∈l,look O' i=look O i)->kY O' l=kY O l
 |[],_=>rfl
 |i::r,h=>by
  unfold kY
  rw[h i aee,wE r fun j hj=>h j (aef _ hj)]
theorem FV(x:AV)(h:∀ i∈x.ids,look O' i=look O i):Ed O' x=Ed O x:=by
 cases x with
 |own id=>exact wE [id] h
 |ro ts rows deps=>exact wE deps h
 | _=>rfl
theorem qX:∀ (xs:List AV),(∀ i∈AV.jB xs,look O' i=look O i)->og O' xs=og O xs
 |[],_=>rfl
 |x::xs,h=>by
  unfold og
  rw[FV x fun i hi=>h i (adh.2 (.inl hi)),qX xs fun i hi=>h i (adh.2 (.inr hi))]
theorem Um(m:Md)(x:AV)(h:∀ i∈x.ids,look O' i=look O i):rW m O' x=rW m O x:=by
 cases m with
 |leak=>unfold rW;rw[FV x h]
 | _=>rfl
theorem uj:∀ (ts:List CT) (ms:List Md) (xs:List AV),(∀ i∈AV.jB xs,look O' i=look O i)->iG O' ts ms xs=iG O ts ms xs
 |[],_,[],_=>rfl
 |[],_,_::_,_=>rfl
 | _::_,_,[],_=>rfl
 |t::ts,ms,x::xs,h=>by
  unfold iG
  have h1:∀ ms,iG O' ts ms xs=iG O ts ms xs:=fun ms=>uj ts ms xs fun i hi=>h i (adh.2 (.inr hi))
  have h2:∀ m,rW m O' x=rW m O x:=fun m=>Um m x fun i hi=>h i (adh.2 (.inl hi))
  cases ms with
  |nil=>rw[h1]
  |cons m ms=>dsimp only;rw[h1,h1,h2]
def Alike(O O':bn)(l:List Nat):Prop:=(∀ i∈l,look O' i=look O i)∧∀ i∈l,∀ cs,look O i=some (.box cs)->∀ j∈AV.jB cs,look O' j=look O j
theorem FW(p:PT)(x:AV)(h:Alike O O' x.ids):getArg O' p x=getArg O p x:=by
 match p with
 |⟨.one t,ms⟩=>
  show (match t.jq O' x,iG O' [t] ms [x] with|some d,some (a,b,c)=>some (d,a,b,c,([]:List Nat))| _,_=>none)=_
  rw[vF t x h.1,uj [t] ms [x] fun i hi=>h.1 i (by simpa [AV.jB] using hi)];rfl
 |⟨.agg ts,ms⟩=>
  cases x with
  |agg cs=>
   show (match ts.iL O' cs,iG O' ts.list ms cs with|some d,some (a,b,c)=>some (d,a,b,c,([]:List Nat))| _,_=>none)=_
   rw[sN ts cs h.1,uj ts.list ms cs h.1];rfl
  | _=>rfl
 |⟨.rP,ms⟩=>rfl
 |⟨.st ts,ms⟩=>
  cases x with
  |ptr id off=>
   cases off with
   |succ _=>rfl
   |zero=>
    show (match look O' id with
     |some (.box cs)=>match ts.iL O' cs,iG O' ts.list ms cs with
      |some d,some (a,b,c)=>some (d,a,b,c,[id])
      | _,_=>none
     | _=>none)=(match look O id with
     |some (.box cs)=>match ts.iL O cs,iG O ts.list ms cs with
      |some d,some (a,b,c)=>some (d,a,b,c,[id])
      | _,_=>none
     | _=>none)
    rw[h.1 id aee]
    cases hl:look O id with
    |none=>rfl
    |some a=>
     cases a with
     |box cs=>
      have hc:=h.2 id aee cs hl
      dsimp only
      rw[sN ts cs hc,uj ts.list ms cs hc]
     | _=>rfl
  | _=>rfl
theorem Alike.left{a b:List Nat}(h:Alike O O' (a++b)):Alike O O' a:=⟨fun i hi=>h.1 i (adh.2 (.inl hi)),fun i hi=>h.2 i (adh.2 (.inl hi))⟩
theorem Alike.right{a b:List Nat}(h:Alike O O' (a++b)):Alike O O' b:=⟨fun i hi=>h.1 i (adh.2 (.inr hi)),fun i hi=>h.2 i (adh.2 (.inr hi))⟩
theorem qY:∀ (ps:List PT) (xs:List AV),Alike O O' (AV.jB xs)->getArgs O' ps xs=getArgs O ps xs
 |[],[],_=>rfl
 |[],_::_,_=>rfl
 |[p],[],_=>rfl
 |[p],[x],h=>FW p x (Alike.left (b:=[]) h)
 |[p],_::_::_,_=>rfl
 | _::_::_,[],_=>rfl
 | _::_::_,[_],_=>rfl
 |p::q::r,x::y::xs,h=>by
  show (match getArg O' p x,getArgs O' (q::r) (y::xs) with
   |some (d,a,b,c,e),some (d',a',b',c',e')=>some ((d,d'),a++a',b++b',c++c',e++e')
   | _,_=>none)=_
  rw[FW p x (Alike.left (a:=x.ids) (b:=AV.jB (y::xs)) h),qY (q::r) (y::xs) (Alike.right (a:=x.ids) (b:=AV.jB (y::xs)) h)];rfl
theorem um:∀ (a b:List AV),AV.jB (a++b)=AV.jB a++AV.jB b
 |[],b=>rfl
 |x::a,b=>by show x.ids++AV.jB (a++b)=(x.ids++AV.jB a)++AV.jB b;rw[um a b,List.append_assoc]
theorem Au(ts:aC):∀ (vs:List (Nat×AV)) (rs:List ts.D),(∀ i∈AV.jB (vs.map (·.2)),look O' i=look O i)->oh O' ts rs vs=oh O ts rs vs
 |[],rs,_=>rfl
 |(j,v)::r,rs,h=>by
  have hv:∀ i∈AV.jB v.cells,look O' i=look O i:=fun i hi=>h i (adh.2 (.inl (by
   cases v<;>first|exact hi|(simpa [AV.cells,AV.jB,AV.ids] using hi))))
  have hr:∀ rs,oh O' ts rs r=oh O ts rs r:=fun rs=>Au ts r rs fun i hi=>h i (adh.2 (.inr hi))
  unfold oh
  rw[sN ts v.cells hv]
  cases ts.iL O v.cells with
  |none=>rfl
  |some d=>dsimp only;rw[hr]
theorem Ey(v:AV){i:Nat}(h:i∈AV.jB v.cells):i∈v.ids:=by
 cases v<;>first|exact h|(simpa [AV.cells,AV.jB,AV.ids] using h)
theorem QT:∀ {ps:List (Nat×Operand)} {vs:List (Nat×AV)} {i:Nat},KR tm ps=some vs->i∈AV.jB (vs.map (·.2))->i∈fE tm (ps.map (·.2))
 |[],vs,i,h,hi=>by cases h;cases hi
 |(j,x)::r,vs,i,h,hi=>by
  unfold KR at h
  split at h
  ·rename_i v us h1 h2
   cases h
   show i∈(match ev tm x with|some v=>v.ids|none=>[])++fE tm (r.map (·.2))
   rw[h1]
   rcases adh.1 hi with hi|hi
   ·exact adh.2 (.inl hi)
   ·exact adh.2 (.inr (QT h2 hi))
  ·cases h
theorem Wy{l:List Operand}{vs:List AV}{i:Nat}(h:evs tm l=some vs)(hi:i∈AV.jB vs):i∈fE tm l:=by
 induction l generalizing vs with
 |nil=>cases h;cases hi
 |cons x r ih=>
  unfold evs at h
  split at h
  ·rename_i u us h1 h2
   cases h
   show i∈(match ev tm x with|some v=>v.ids|none=>[])++fE tm r
   rw[h1]
   rcases adh.1 hi with hi|hi
   ·exact adh.2 (.inl hi)
   ·exact adh.2 (.inr (ih h2 hi))
  ·cases h
theorem vG{op:Op}(h:∀ x∈opers op,ev tm' x=ev tm x):callee C tm' op=callee C tm op:=by
 cases op with
 |call c=>
  obtain⟨cal,args,tys⟩:=c
  cases cal with
  |builtin b=>rfl
  |value f=>unfold callee;dsimp only;rw[h f aee,qB (tm:=tm) fun x hx=>h x (aef _ hx)]
  |invoke x m=>unfold callee;dsimp only;rw[h x aee,qB (tm:=tm) fun x hx=>h x (aef _ hx)]
 | _=>rfl
theorem Un{op:Op}{g:FuncId}{vs:List AV}(hc:callee C tm op=some (g,vs)){i:Nat}(hi:i∈AV.jB vs):i∈fE tm (opers op):=by
 unfold callee at hc
 split at hc
 ·rename_i f args tys
  split at hc
  ·rename_i g' a b us hf ha
   cases hc
   show i∈(match ev tm f with|some v=>v.ids|none=>[])++fE tm args.toList
   rw[hf]
   rw[um,um] at hi
   rcases adh.1 hi with hi|hi
   ·exact adh.2 (.inl (adh.2 (.inl hi)))
   ·rcases adh.1 hi with hi|hi
    ·exact adh.2 (.inr (Wy ha hi))
    ·exact adh.2 (.inl (adh.2 (.inr hi)))
  ·cases hc
 ·rename_i x m args tys
  split at hc
  ·rename_i t v us hf ha
   split at hc
   ·cases hc
    show i∈(match ev tm x with|some v=>v.ids|none=>[])++fE tm args.toList
    rw[hf]
    rcases adh.1 (show i∈v.ids++AV.jB us from hi) with hi|hi
    ·exact adh.2 (.inl hi)
    ·exact adh.2 (.inr (Wy ha hi))
   ·cases hc
  ·cases hc
 ·cases hc
theorem kM{o:Oper}(h:∀ i∈kH tm O o,look O' i=look O i):Alike O O' (fE tm (opers o.op)):=by
 refine⟨fun i hi=>h i (adh.2 (.inl hi)),fun i hi cs hl j hj=>h j (adh.2 (.inr ?_))⟩
 have:∀ (l:List Nat),i∈l->j∈Bc O l:=by
  intro l
  induction l with
  |nil=>intro h;cases h
  |cons k r ih=>
   intro hk
   show j∈(match look O k with|some (.box cs)=>AV.jB cs| _=>[])++Bc O r
   rcases List.mem_cons.1 hk with e|hk
   ·subst e;rw[hl];exact adh.2 (.inl hj)
   ·exact adh.2 (.inr (ih hk))
 exact this _ hi
theorem Alike.sub{a b:List Nat}(h:Alike O O' b)(k:∀ i∈a,i∈b):Alike O O' a:=⟨fun i hi=>h.1 i (k i hi),fun i hi=>h.2 i (k i hi)⟩
end
end Go.E
end
section
namespace Go.E
section
variable {C:kC} {Rc:ah} {R:Type} {tm tm':List (Nat×AV)} {O O':bn}
theorem Ez:∀ (ps:List PT) (boxes:List Nat) (d:He ps) (n:Nat),n<=(cO boxes ps d n).2.2
 |[],boxes,d,n=>Nat.le_refl n
 |[p],boxes,d,n=>(zI (p:=p) (d:=d)).1
 |p::p'::r,boxes,d,n=>Nat.le_trans (zI (boxes:=boxes) (p:=p) (d:=d.1) (n:=n)).1 (Ez (p'::r) _ d.2 _)
structure XO (C:kC) (Rc:ah) (tm:List (Nat×AV)) (O:bn) (aG:Nat) (o:Oper) (v:AV) (pre:bn) (eY:Nat) (es:List Eff):Prop where
 again:∀ {R':Type} (K':KK R') (tm':List (Nat×AV)) (O':bn),(∀ x∈opers o.op,ev tm' x=ev tm x)->(∀ i∈kH tm O o,look O' i=look O i)->fP C Rc tm' O' aG o K'=K' v (pre++O') eY es
 frame:∀ i,i<aG->i∉touched C tm O o->look pre i=none
 le:aG<=eY
theorem Bv{o:Oper}(he:∀ x∈opers o.op,ev tm' x=ev tm x)(hO:∀ i∈kH tm O o,look O' i=look O i):kH tm' O' o=kH tm O o:=by
 unfold kH at hO⊢
 rw[oD he]
 have:∀ (l:List Nat),(∀ i∈l,look O' i=look O i)->Bc O' l=Bc O l:=by
  intro l
  induction l with
  |nil=>intro _;rfl
  |cons k r ih=>
   intro h
   unfold Bc
   rw[h k aee,ih fun i hi=>h i (aef _ hi)]
 rw[this _ fun i hi=>hO i (adh.2 (.inl hi))]
theorem oG{o:Oper}{g:FuncId}{vs:List AV}(hf:callee C tm o.op=some (g,vs))(hO:∀ i∈kH tm O o,look O' i=look O i):Alike O O' (AV.jB vs):=
 (kM hO).sub fun _ hi=>Un hf hi
theorem Dk{o:Oper}(h:∀ x∈opers o.op,ev tm' x=ev tm x)(hO:∀ i∈kH tm O o,look O' i=look O i):
  (match callee C tm' o.op with
  |some (g,vs)=>match look C.sig g with
   |some s=>match getArgs O' s.ps vs with
    |some (_,_,moved,_,boxes)=>bif s.lk then [] else moved++boxes
    |none=>[]
   |none=>[]
  |none=>[])=(match callee C tm o.op with
  |some (g,vs)=>match look C.sig g with
   |some s=>match getArgs O s.ps vs with
    |some (_,_,moved,_,boxes)=>bif s.lk then [] else moved++boxes
    |none=>[]
   |none=>[]
  |none=>[]):=by
 rw[vG h]
 split
 ·rename_i g vs hc
  have hal:=oG hc hO
  cases look C.sig g with
  |none=>rfl
  |some s=>dsimp only;rw[qY s.ps _ hal]
 ·rfl
theorem XP{α:Type}{l:List α}{y:α}(h:y∈Zk l):y∈l:=by
 cases l with
 |nil=>exact h
 |cons x r=>obtain rfl:=List.mem_singleton.1 h;exact aee
theorem Bz{o:Oper}(h:∀ x∈opers o.op,ev tm' x=ev tm x)(hO:∀ i∈kH tm O o,look O' i=look O i):touched C tm' O' o=touched C tm O o:=by
 obtain⟨dst,op,ty,pos,aft,guard⟩:=o
 cases op with
 |store t a x=>exact oD fun y hy=>h y (by obtain rfl:=List.mem_singleton.1 hy;exact aee)
 |call c=>
  obtain⟨cal,args,tys⟩:=c
  cases cal with
  |builtin b=>exact oD fun y hy=>h y (XP hy)
  |value f=>exact Dk h hO
  |invoke x m=>exact Dk h hO
 | _=>rfl
theorem qZ:∀ (cs cs':List AV) {x:Option R} {r:R},jl cs cs' x=some r->cs=cs'∧x=some r∧∀ {R':Type} (y:Option R'),jl cs cs' y=y
 |[],[],x,r,h=>⟨rfl,h,fun y=>rfl⟩
 | .int k a::l,.int k' b::l',x,r,h=>by
  have h:(bif xJ k k' then chk (a=b) (jl l l' x) else none)=some r:=h
  obtain⟨hb,h⟩:=fC h
  obtain⟨hp,h,hc⟩:=bJ h
  obtain⟨e,h,hd⟩:=qZ l l' h
  refine⟨by rw[hp,e,vW hb],h,fun y=> ?_⟩
  show (bif xJ k k' then chk (a=b) (jl l l' y) else none)=y
  rw[hb,cond_true,hc,hd]
 | .bool a::l,.bool b::l',x,r,h=>by
  have h:chk (a=b) (jl l l' x)=some r:=h
  obtain⟨hp,h,hc⟩:=bJ h
  obtain⟨e,h,hd⟩:=qZ l l' h
  refine⟨by rw[hp,e],h,fun y=> ?_⟩
  show chk (a=b) (jl l l' y)=y
  rw[hc,hd]
 | .str a::l,.str b::l',x,r,h=>by
  have h:chk (a=b) (jl l l' x)=some r:=h
  obtain⟨hp,h,hc⟩:=bJ h
  obtain⟨e,h,hd⟩:=qZ l l' h
  refine⟨by rw[hp,e],h,fun y=> ?_⟩
  show chk (a=b) (jl l l' y)=y
  rw[hc,hd]
theorem wF{bs:List Nat}{O:bn}:∀ (o:bn) {x:Option R} {r:R},kQ bs O o x=some r->x=some r∧∀ {R':Type} (y:Option R') (O':bn),(∀ b∈bs,look O' b=look O b)->(∀ q∈o,look O' q.1=some q.2)∧kQ bs O' o y=y
 |[],x,r,h=>⟨h,fun y O' _=>⟨fun q hq=>(by cases hq),rfl⟩⟩
 |(b,.box cs)::l,x,r,h=>by
  have h:(match look O b with
   |some (.box cs')=>bif dN b bs then jl cs cs' (kQ bs O l x) else none
   | _=>none)=some r:=h
  split at h
  ·rename_i cs' hl
   obtain⟨hb,h⟩:=fC h
   obtain⟨e,h0,hc⟩:=qZ cs cs' h
   obtain⟨h1,hd⟩:=wF l h0
   subst e
   refine⟨h1,fun y O' hO=> ?_⟩
   obtain⟨g1,g2⟩:=hd y O' hO
   have hl':look O' b=some (.box cs):=(hO b (eX.1 hb)).trans hl
   refine⟨fun q hq=> ?_,?_⟩
   ·rcases List.mem_cons.1 hq with z|hq
    ·rw[z];exact hl'
    ·exact g1 q hq
   ·show (match look O' b with
     |some (.box cs')=>bif dN b bs then jl cs cs' (kQ bs O' l y) else none
     | _=>none)=y
    rw[hl']
    dsimp only
    rw[hb,cond_true,hc,g2]
  ·cases h
 |(b,.arr _ _ _)::l,x,r,h=>by cases h
 |(b,.map _)::l,x,r,h=>by cases h
 |(b,.dead)::l,x,r,h=>by cases h
theorem Dl{O:bn}{p:PT}{x:AV}{d:p.sh.D}{es:List Eff}{mo us bs:List Nat}(h:getArg O p x=some (d,es,mo,us,bs)):∀ b∈bs,b∈x.ids:=by
 match p,d,h with
 |⟨.one t,ms⟩,d,h=>
  have h:(match t.jq O x,iG O [t] ms [x] with|some d,some (a,b,c)=>some (d,a,b,c,([]:List Nat))| _,_=>none)=some (d,es,mo,us,bs):=h
  split at h
  ·cases h;intro b hb;cases hb
  ·cases h
 |⟨.agg ts,ms⟩,d,h=>
  cases x with
  |agg cs=>
   have h:(match ts.iL O cs,iG O ts.list ms cs with|some d,some (a,b,c)=>some (d,a,b,c,([]:List Nat))| _,_=>none)=some (d,es,mo,us,bs):=h
   split at h
   ·cases h;intro b hb;cases hb
   ·cases h
  | _=>cases h
 |⟨.rP,ms⟩,d,h=>
  cases x with
  |agg cs=>
   cases cs with
   |nil=>cases h;intro b hb;cases hb
   |cons _ _=>cases h
  | _=>cases h
 |⟨.st ts,ms⟩,d,h=>
  cases x with
  |ptr id off=>
   cases off with
   |succ _=>cases h
   |zero=>
    have h:(match look O id with
     |some (.box cs)=>match ts.iL O cs,iG O ts.list ms cs with
      |some d,some (a,b,c)=>some (d,a,b,c,[id])
      | _,_=>none
     | _=>none)=some (d,es,mo,us,bs):=h
    split at h
    ·split at h
     ·cases h;intro b hb;exact hb
     ·cases h
    ·cases h
  | _=>cases h
theorem Aw{O:bn}:∀ (ps:List PT) (xs:List AV) {d:He ps} {es:List Eff} {mo us bs:List Nat},getArgs O ps xs=some (d,es,mo,us,bs)->∀ b∈bs,b∈AV.jB xs
 |[],[],_,_,_,_,_,h=>by cases h;intro b hb;cases hb
 |[p],[x],d,es,mo,us,bs,h=>fun b hb=>by
  have:=Dl (p:=p) h b hb
  show b∈x.ids++[]
  rw[List.append_nil];exact this
 |p::q::r,x::y::xs,d,es,mo,us,bs,h=>by
  have h:(match getArg O p x,getArgs O (q::r) (y::xs) with
   |some (d,a,b,c,e),some (d',a',b',c',e')=>some ((d,d'),a++a',b++b',c++c',e++e')
   | _,_=>none)=some (d,es,mo,us,bs):=h
  split at h
  ·rename_i h1 h2
   cases h
   intro b hb
   rcases adh.1 hb with z|z
   ·exact adh.2 (.inl (Dl h1 b z))
   ·exact adh.2 (.inr (Aw (q::r) (y::xs) h2 b z))
  ·cases h
theorem QU{o:Oper}{K:KK R}{r:R}{aG:Nat}(hA:∀ {R':Type} (tm:List (Nat×AV)) (O:bn) (aG:Nat) (K:KK R'),fP C Rc tm O aG o K=match callee C tm o.op with
  |some (g,vs)=>match look C.sig g with
   |some s=>qH Rc g s O aG vs K
   |none=>none
  |none=>none) (hT:touched C tm O o=match callee C tm o.op with
  |some (g,vs)=>match look C.sig g with
   |some s=>match getArgs O s.ps vs with
    |some (_,_,moved,_,boxes)=>bif s.lk then [] else moved++boxes
    |none=>[]
   |none=>[]
  |none=>[]) (h:fP C Rc tm O aG o K=some r):∃ v pre eY es,K v (pre++O) eY es=some r∧XO C Rc tm O aG o v pre eY es:=by
 rw[hA] at h
 split at h
 ·rename_i g vs GR
  split at h
  ·rename_i s hs
   unfold qH at h
   split at h
   ·rename_i d iP moved used boxes hg
    obtain⟨hb,h⟩:=fC h
    cases hrc:Rc g s d with
    |none=>rw[hrc] at h;cases h
    |some rr=>
     rw[hrc] at h
     have h:(bif s.lk then (bif iP.isEmpty&&moved.isEmpty then kQ boxes O (cO boxes s.rs rr aG).2.1 (K (jr (cO boxes s.rs rr aG).1) O (cO boxes s.rs rr aG).2.2 []) else none)
      else K (jr (cO boxes s.rs rr aG).1) ((cO boxes s.rs rr aG).2.1++(iQ moved++O)) (cO boxes s.rs rr aG).2.2 iP)=some r:=h
     cases hlk:s.lk with
     |true=>
      rw[hlk,cond_true] at h
      obtain⟨hem,h⟩:=fC h
      ·obtain⟨h1,h2⟩:=wF (cO boxes s.rs rr aG).2.1 h
       refine⟨_,[],_,_,h1,fun K' tm' O' he hO=> ?_,fun i hi hni=>rfl,Ez s.rs boxes rr aG⟩
       rw[hA,vG he,GR];dsimp only
       rw[hs];dsimp only
       unfold qH
       rw[qY s.ps _ (oG GR hO),hg];dsimp only
       rw[hb,cond_true,hrc]
       show (bif s.lk then (bif iP.isEmpty&&moved.isEmpty then kQ boxes O' (cO boxes s.rs rr aG).2.1 (K' (jr (cO boxes s.rs rr aG).1) O' (cO boxes s.rs rr aG).2.2 []) else none) else _)=_
       rw[hlk,cond_true,hem,cond_true]
       exact (h2 _ O' fun b hb=>(oG GR hO).1 b (Aw s.ps vs hg b hb)).2
     |false=>
     rw[hlk,cond_false] at h
     rw[<- List.append_assoc] at h
     refine⟨_,_,_,_,h,fun K' tm' O' he hO=> ?_,fun i hi hni=> ?_,Ez s.rs boxes rr aG⟩
     ·rw[hA,vG he,GR];dsimp only
      rw[hs];dsimp only
      unfold qH
      rw[qY s.ps _ (oG GR hO),hg];dsimp only
      rw[hb,cond_true,hrc,List.append_assoc]
      show (bif s.lk then _ else K' (jr (cO boxes s.rs rr aG).1) ((cO boxes s.rs rr aG).2.1++(iQ moved++O')) (cO boxes s.rs rr aG).2.2 iP)=_
      rw[hlk,cond_false]
     ·rw[hT,GR] at hni
      dsimp only at hni
      rw[hs] at hni;dsimp only at hni
      rw[hg] at hni
      dsimp only at hni
      rw[hlk,cond_false] at hni
      have hm:i∉moved:=fun x=>hni (adh.2 (.inl x))
      have hbx:i∉boxes:=fun x=>hni (adh.2 (.inr x))
      have h1:look (cO boxes s.rs rr aG).2.1 i=none:=XM fun q hq e=>by
       rcases LY s.rs boxes rr aG q hq with x|x
       ·exact hbx (by rw[<- e];exact x)
       ·omega
      rw[iR,h1]
      exact Aq hm
   ·cases h
  ·cases h
 ·cases h
theorem aac{o:Oper}(hmo:Qu o=false)(hq:quiet C o=false)(hn:xM o=false){K:KK R}{r:R}{aG:Nat}(h:fP C Rc tm O aG o K=some r):∃ v pre eY es,K v (pre++O) eY es=some r∧XO C Rc tm O aG o v pre eY es:=by
 obtain⟨dst,op,ty,pos,aft,guard⟩:=o
 have new:∀ (a:AO) (i:Nat),i<aG->look [(aG,a)] i=none:=fun a i hi=>by
  show (bif Nat.beq aG i then some a else none)=none
  rw[cZ (Nat.ne_of_gt hi)];rfl
 have at_:∀ (id:Nat) (a:AO) (i:Nat),i≠id->look [(id,a)] i=none:=fun id a i hi=>by
  show (bif Nat.beq id i then some a else none)=none
  rw[cZ fun e=>hi e.symm];rfl
 cases op with
 |store t a x=>
  unfold fP at h;dsimp only at h
  split at h
  ·rename_i ti id off v hl ha hx
   split at h
   ·rename_i cs hlo
    obtain⟨hb,h⟩:=gV h
    split at h
    ·rename_i cs' hcs
     refine⟨_,[(id,.box cs')],_,_,h,fun K' tm' O' he hO=> ?_,fun i hi ht=>at_ id _ i fun e=>ht ?_,Nat.le_refl _⟩
     ·unfold fP;dsimp only
      rw[he a (by simp[opers]),he x (by simp[opers]),hl,ha,hx];dsimp only
      rw[(kM hO).1 id (dQ (x:=a) (by simp[opers]) ha aee),hlo];dsimp only
      rw[hb,cond_false,hcs];rfl
     ·subst e;exact dQ aee ha aee
    ·cases h
   ·cases h
  ·rename_i ti id j off v hl ha hx
   split at h
   ·rename_i ts rows hlo
    obtain⟨hb,h⟩:=gV h
    split at h
    ·rename_i ts' n har
     split at h
     ·rename_i rs iP h1 h2
      obtain⟨hb2,h⟩:=gV h
      obtain⟨_,h,c1⟩:=bJ h
      refine⟨_,[(id,.arr ts (zn rows j.toNat rs) true)],_,_,h,fun K' tm' O' he hO=> ?_,fun i hi ht=>at_ id _ i fun e=>ht ?_,Nat.le_refl _⟩
      ·have hv:∀ i∈AV.jB v.cells,look O' i=look O i:=fun i hi=>(kM hO).1 i (dQ (x:=x) (by simp[opers]) hx (Ey v hi))
       unfold fP;dsimp only
       rw[he a (by simp[opers]),he x (by simp[opers]),hl,ha,hx];dsimp only
       rw[(kM hO).1 id (dQ (x:=a) (by simp[opers]) ha aee),hlo];dsimp only
       rw[hb,cond_false,har];dsimp only
       rw[Ar ts n v.cells hv,qX v.cells hv,h1,h2];dsimp only
       rw[hb2,cond_false,c1];rfl
      ·subst e;exact dQ aee ha aee
     ·cases h
    rename_i har
    split at h
    ·rename_i row iP h1 h2
     obtain⟨hb2,h⟩:=gV h
     refine⟨_,[(id,.arr ts (rows.set j.toNat row) true)],_,_,h,fun K' tm' O' he hO=> ?_,fun i hi ht=>at_ id _ i fun e=>ht ?_,Nat.le_refl _⟩
     ·have hv:∀ i∈AV.jB v.cells,look O' i=look O i:=fun i hi=>(kM hO).1 i (dQ (x:=x) (by simp[opers]) hx (Ey v hi))
      unfold fP;dsimp only
      rw[he a (by simp[opers]),he x (by simp[opers]),hl,ha,hx];dsimp only
      rw[(kM hO).1 id (dQ (x:=a) (by simp[opers]) ha aee),hlo];dsimp only
      rw[hb,cond_false,har];dsimp only
      rw[LZ ts v.cells _ _ hv,qX v.cells hv,h1,h2];dsimp only
      rw[hb2];rfl
     ·subst e;exact dQ aee ha aee
    ·cases h
   ·cases h
  ·cases h
 |convert src dst' x=>
  unfold fP at h;dsimp only at h
  split at h
  ·rename_i k n td tsr hx hd hs
   split at h
   ·rename_i k' hrow
    obtain⟨hb,h⟩:=fC h
    exact⟨_,[],_,_,h,fun K' tm' O' he _=>by unfold fP;dsimp only;rw[he x aee,hx,hd,hs];dsimp only;rw[hrow];dsimp only;rw[hb];rfl,fun i _ _=>rfl,Nat.le_refl _⟩
   ·cases h
  ·rename_i s td tsr hx hd hs
   cases hb:Nat.beq td.kd 9 with
   |true=>
    rw[hb,cond_true] at h
    exact⟨_,[],_,_,h,fun K' tm' O' he _=>by unfold fP;dsimp only;rw[he x aee,hx,hd,hs];dsimp only;rw[hb];rfl,fun i _ _=>rfl,Nat.le_refl _⟩
   |false=>
    rw[hb,cond_false] at h
    split at h
    ·rename_i hsl
     split at h
     ·rename_i te hte
      obtain⟨hb2,h⟩:=fC h
      exact⟨_,[(aG,.arr (.one (.int .u8)) (tK s) true)],_,_,h,fun K' tm' O' he _=>by unfold fP;dsimp only;rw[he x aee,hx,hd,hs];dsimp only;rw[hb,cond_false,hsl];dsimp only;rw[hte];dsimp only;rw[hb2];rfl,fun i hi _=>new _ i hi,Nat.le_succ _⟩
     ·cases h
    ·cases h
  ·rename_i v td tsr hnx1 hnx2 hx hd hs
   split at h
   ·rename_i hsl
    split at h
    ·rename_i te hte
     obtain⟨hb,h⟩:=fC h
     split at h
     ·refine⟨_,[],_,_,h,fun K' tm' O' he _=> ?_,fun i _ _=>rfl,Nat.le_refl _⟩
      unfold fP;dsimp only;rw[he x aee,hx,hd,hs];dsimp only
      rw[hsl];dsimp only
      rw[hte];dsimp only
      rw[hb];rfl
     ·rename_i hnn
      split at h
      ·rename_i rr hr
       split at h
       ·rename_i l hc
        refine⟨_,[],_,_,h,fun K' tm' O' he hO=> ?_,fun i _ _=>rfl,Nat.le_refl _⟩
        have e:=lF (v:=v) (O:=O) (O':=O') fun i hi=>(kM hO).1 i (dQ (x:=x) aee hx hi)
        unfold fP;dsimp only;rw[he x aee,hx,hd,hs]
        cases v<;>first|exact absurd rfl (hnx1 _ _)|exact absurd rfl (hnx2 _)|exact absurd rfl hnn|(dsimp only;rw[hsl];dsimp only;rw[hte];dsimp only;rw[hb,cond_true,e,hr];dsimp only;rw[hc];rfl)
       ·cases h
      ·cases h
    ·cases h
   ·cases h
  ·cases h
 |call c=>
  obtain⟨cal,args,tys⟩:=c
  cases cal with
  |builtin b=>
   cases b<;>first|(cases hmo;done)|(cases hq;done)|(unfold fP at h;cases h;done)|skip
   case append=>
    unfold fP at h;dsimp only at h
    split at h
    ·rename_i x y t t' ha ht
     split at h
     ·rename_i ti row hl hrow
      obtain⟨hb,h⟩:=gV h
      have app:∃ v pre eY es,K v (pre++O) eY es=some r∧(∀ {R':Type} (K':KK R') (O':bn),(∀ i∈x.ids,look O' i=look O i)->(∀ i∈y.ids,look O' i=look O i)->qM C row ti.elem O' aG x y K'=K' v (pre++O') eY es)∧(∀ i,i<aG->i∉x.ids->look pre i=none)∧aG<=eY:=by
       unfold qM at h
       split at h
       ·rename_i te hte
        split at h
        ·rename_i ts hr
         obtain⟨hb1,h⟩:=gV h
         dsimp only at h
         split at h
         ·rename_i ys hys
          cases x with
          |aT=>
           dsimp only at h
           obtain⟨_,h,c1⟩:=bJ h
           refine⟨_,[(aG,.arr ts ys true)],_,_,h,fun K' O' _ hO2=> ?_,fun i hi _=>new _ i hi,Nat.le_succ _⟩
           have e:=lF (v:=y) (O:=O) (O':=O') hO2
           unfold qM;rw[hte];dsimp only;rw[hr];dsimp only;rw[hb1,cond_false]
           cases y<;>first|(cases hys;dsimp only;rw[c1];rfl)|(dsimp only at hys e ⊢;(try rw[e]);rw[hys];dsimp only;rw[c1];rfl)
          |own id=>
           dsimp only at h
           split at h
           ·rename_i ts' rows hlo
            split at h
            ·rename_i rows' hcr
             obtain⟨_,h,c1⟩:=bJ h
             refine⟨_,[(id,.arr ts (rows'++ys) true)],_,_,h,fun K' O' hO1 hO2=> ?_,fun i hi hni=>at_ id _ i fun e=>hni (by rw[e];exact aee),Nat.le_refl _⟩
             have e:=lF (v:=y) (O:=O) (O':=O') hO2
             unfold qM;rw[hte];dsimp only;rw[hr];dsimp only;rw[hb1,cond_false]
             cases y<;>first|(cases hys;dsimp only;rw[hO1 id aee,hlo];dsimp only;rw[hcr];dsimp only;rw[c1];rfl)|(dsimp only at hys e ⊢;(try rw[e]);rw[hys];dsimp only;rw[hO1 id aee,hlo];dsimp only;rw[hcr];dsimp only;rw[c1];rfl)
            ·cases h
           ·cases h
          | _=>cases h
         ·cases h
        ·cases h
       ·cases h
      obtain⟨v,pre,eY,es,k1,k2,k3,k4⟩:=app
      have hin:∀ z,z=x∨z=y->∀ i∈z.ids,i∈fE tm args.toList:=fun z hz i hi=>by
       have:z∈[x,y]:=by rcases hz with e|e<;>simp[e]
       obtain⟨w,hw1,hw2⟩:=Hz ha this
       exact dQ hw1 hw2 hi
      refine⟨v,pre,eY,es,k1,fun K' tm' O' he hO=> ?_,fun i hi hni=>k3 i hi fun hx=>hni (by
       show i∈fE tm (Zk args.toList)
       generalize args.toList=l at ha
       cases l with
       |nil=>cases ha
       |cons b l=>
        unfold evs at ha
        split at ha
        ·rename_i v' vs' e1 e2
         cases ha
         exact dQ (x:=b) aee e1 hx
        ·cases ha),k4⟩
      unfold fP;dsimp only
      rw[qB (tm:=tm) (l:=args.toList) he,ha,ht];dsimp only
      rw[hl,hrow];dsimp only
      rw[hb,cond_false]
      exact k2 K' O' (fun i hi=>(kM hO).1 i (hin x (.inl rfl) i hi)) fun i hi=>(kM hO).1 i (hin y (.inr rfl) i hi)
     ·cases h
    ·cases h
  |value f=>exact QU (fun _ _ _ _=>rfl) rfl h
  |invoke x m=>exact QU (fun _ _ _ _=>rfl) rfl h
 | _=>first|(cases hmo;done)|(cases hq;done)|(cases hn;done)|(unfold fP at h;cases h;done)
def vH(C:kC)(tm:List (Nat×AV))(O:bn)(id:Nat)(o:Oper)(v:AV)(ao:AO)(es:List Eff):Prop:=
 ∀ {R':Type} (K':KK R') (oU:ah) (tm':List (Nat×AV)) (O':bn),(∀ x∈opers o.op,ev tm' x=ev tm x)->(∀ i∈fE tm (opers o.op),look O' i=look O i)->fP C oU tm' O' id o K'=K' v ((id,ao)::O') (id+1) es
theorem L6{o:Oper}(hn:xM o=true){K:KK R}{r:R}{id:Nat}(h:fP C Rc tm O id o K=some r):∃ v ao es,K v ((id,ao)::O) (id+1) es=some r∧vH C tm O id o v ao es:=by
 obtain⟨dst,op,ty,pos,aft,guard⟩:=o
 unfold vH
 cases op with
 |alloc t=>
  unfold fP at h ⊢;dsimp only[opers] at h⊢
  split at h
  ·rename_i ts n ha
   obtain⟨hb,h⟩:=fC h
   exact⟨_,_,_,h,fun K' oU tm' O' _ _=>by rw[hb];rfl⟩
  split at h
  ·rename_i ti hl
   obtain⟨hb,h⟩:=gV h
   exact⟨_,_,_,h,fun K' oU tm' O' _ _=>by rw[hb];rfl⟩
  ·cases h
 |box t x=>
  unfold fP at h ⊢;dsimp only[opers] at h⊢
  split at h
  ·rename_i v hx
   exact⟨_,_,_,h,fun K' oU tm' O' he _=>by rw[he x aee,hx]⟩
  ·cases h
 |buildSlice t n ps=>
  unfold fP at h ⊢;dsimp only at h⊢
  split at h
  ·rename_i ti vs hl hps
   split at h
   ·rename_i te hte
    split at h
    ·rename_i ts hr
     split at h
     ·rename_i rows iP ts' h1 h2 h3
      obtain⟨hb,h⟩:=gV h
      refine⟨_,_,_,h,fun K' oU tm' O' he hO=> ?_⟩
      have hv:∀ i∈AV.jB (vs.map (·.2)),look O' i=look O i:=fun i hi=>hO i (QT hps hi)
      have hc:∀ i∈AV.jB ((vs.map (·.2.cells)).flatten),look O' i=look O i:=by
       have:∀ (l:List (Nat×AV)) (i:Nat),i∈AV.jB ((l.map (·.2.cells)).flatten)->i∈AV.jB (l.map (·.2)):=by
        intro l
        induction l with
        |nil=>intro i hi;exact hi
        |cons p q ih=>
         intro i hi
         rw[List.map_cons,List.flatten_cons,um] at hi
         rcases adh.1 hi with hi|hi
         ·exact adh.2 (.inl (Ey _ hi))
         ·exact adh.2 (.inr (ih i hi))
       exact fun i hi=>hv i (this vs i hi)
      rw[Hy (tm:=tm) he,hl,hps];dsimp only
      rw[hte];dsimp only
      rw[hr];dsimp only
      rw[Au ts vs _ hv,qX _ hc,h1,h2,h3];dsimp only
      rw[hb];rfl
     ·cases h
    ·cases h
   ·cases h
  ·cases h
 |makeSlice t l c=>
  unfold fP at h ⊢;dsimp only[opers] at h⊢
  split at h
  ·rename_i ti k1 l' k2 c' hl hx hy
   split at h
   ·rename_i te hte
    split at h
    ·rename_i ts hr
     split at h
     ·rename_i ts' hts
      obtain⟨hb,h⟩:=gV h
      obtain⟨_,h,c1⟩:=bJ h
      obtain⟨_,h,c2⟩:=bJ h
      obtain⟨_,h,c3⟩:=bJ h
      refine⟨_,_,_,h,fun K' oU tm' O' he _=> ?_⟩
      rw[he l (by simp),he c (by simp),hl,hx,hy];dsimp only
      rw[hte];dsimp only
      rw[hr];dsimp only
      rw[hb,cond_false,c1,c2,c3]
     ·cases h
    ·cases h
   ·cases h
  ·cases h
 | _=>cases hn
theorem aeF{o:Oper}(hmo:Qu o=false)(hq:quiet C o=false){K:KK R}{r:R}{aG:Nat}(h:fP C Rc tm O aG o K=some r):∃ v pre eY es,K v (pre++O) eY es=some r∧XO C Rc tm O aG o v pre eY es:=by
 cases hn:xM o with
 |false=>exact aac hmo hq hn h
 |true=>
  obtain⟨v,ao,es,h1,h2⟩:=L6 hn h
  refine⟨v,[(aG,ao)],aG+1,es,h1,⟨fun K' tm' O' he hO=>h2 K' Rc tm' O' he fun i hi=>hO i (adh.2 (.inl hi)),fun i hi _=> ?_,Nat.le_succ _⟩⟩
  show (bif Nat.beq aG i then some ao else none)=none
  rw[cZ (Nat.ne_of_gt hi)];rfl
theorem WA{o:Oper}(h:Ah C o=true):xM o=true:=by
 unfold Ah at h
 rw[Bool.and_eq_true] at h
 exact h.1
end
end Go.E
end
section
namespace Go.E
section
variable {C:kC} {Rc:ah} {all:List Oper}
structure AS where
 tm:List (Nat×AV)
 O:bn
 aG:Nat
 cs:List Fr
def ru(dst:Option Nat)(v:AV)(f:Nat->Option AV):Nat->Option AV:=fun t=>if dst=some t then some v else f t
def GU(es:List Eff)(f:Nat->Option AV):Nat->Option AV:=fun t=>(f t).map (fF es)
theorem nP(dst:Option Nat)(v:AV)(tm:List (Nat×AV)):look (putDst dst v tm)=ru dst v (look tm):=by
 funext t
 unfold ru
 cases dst with
 |none=>simp[putDst]
 |some d=>
  show (bif Nat.beq d t then some v else look tm t)=_
  by_cases e:d=t
  ·subst e;simp
  ·rw[cZ e]
   have:¬ (some d=some t):=fun x=>e (Option.some.inj x)
   rw[if_neg this];rfl
theorem L8(es:List Eff)(tm:List (Nat×AV)):look (jU es tm)=GU es (look tm):=by
 funext t;exact yx es tm t
theorem jX(f:Nat->Option AV):GU [] f=f:=by
 funext t
 unfold GU
 cases f t<;>rfl
def kS(all:List Oper)(tm:List (Nat×AV))(o:Oper):Option Bool:=match o.guard with
 |none=>some true
 |some (_,w)=>match gslot all o with
  |some d=>match look tm d with
   |some (.bool b)=>some (b==w)
   |some .undef=>some false
   | _=>none
  |none=>none
def QV(C:kC)(tm:List (Nat×AV))(o:Oper):Bool:=match callee C tm o.op with
 |some (g,_)=>match look C.sig g with
  |some _=>false
  |none=>true
 |none=>false
def yE:AO->List Nat
 | .box cs=>AV.pY cs
 | _=>[]
theorem IZ{i:Nat}:∀ {l:List Nat},i∈l->aen i∈Qv l
 |k::r,h=>by
  rcases List.mem_cons.1 h with e|h
  ·subst e;exact aee
  ·exact aef _ (IZ h)
mutual
theorem I7{i:Nat}:∀ (v:AV),i∈v.ids->i∈v.kids
 | .own _,h| .ptr _ _,h| .gX _ _ _,h| .mp _,h| .sub _ _ _,h=>h
 | .ro _ _ deps,h=>adh.2 (.inl h)
 | .iE _ _ deps _ _,h=>adh.2 (.inl h)
 | .func _ a b,h=>by
  rcases adh.1 (show i∈AV.jB a++AV.jB b from h) with h|h
  ·exact adh.2 (.inl (sO a h))
  ·exact adh.2 (.inr (sO b h))
 | .iface _ v,h=>I7 v h
 | .agg cs,h=>sO cs h
 | .AY cs,h=>sO cs h
 | .int _ _,h| .bool _,h| .str _,h| .aT,h| .kF,h| .jo,h| .nZ,h| .undef,h| .dead,h| .raw _,h=>by cases h
theorem sO{i:Nat}:∀ (l:List AV),i∈AV.jB l->i∈AV.pY l
 |[],h=>by cases h
 |v::r,h=>by
  rcases adh.1 (show i∈v.ids++AV.jB r from h) with h|h
  ·exact adh.2 (.inl (I7 v h))
  ·exact adh.2 (.inr (sO r h))
end
theorem BA{tm:List (Nat×AV)}{i:Nat}:∀ {l:List Operand},i∈fE tm l->i∈kW tm l
 |x::r,h=>by
  show i∈(match ev tm x with|some v=>v.kids|none=>[])++kW tm r
  rcases adh.1 (show i∈(match ev tm x with|some v=>v.ids|none=>[])++fE tm r from h) with h|h
  ·cases e:ev tm x with
   |none=>rw[e] at h;cases h
   |some v=>rw[e] at h;exact adh.2 (.inl (I7 v h))
  ·exact adh.2 (.inr (BA h))
theorem I8{tm:List (Nat×AV)}:∀ {l:List Operand} {x:Operand} {v:AV} {i:Nat},x∈l->ev tm x=some v->i∈v.kids->i∈kW tm l
 |y::r,x,v,i,hx,hv,hi=>by
  show i∈(match ev tm y with|some v=>v.kids|none=>[])++kW tm r
  rcases List.mem_cons.1 hx with e|hx
  ·subst e;rw[hv];exact adh.2 (.inl hi)
  ·exact adh.2 (.inr (I8 hx hv hi))
theorem vI{tm tm':List (Nat×AV)}:∀ {l:List Operand},(∀ x∈l,ev tm' x=ev tm x)->kW tm' l=kW tm l
 |[],_=>rfl
 |x::r,h=>by
  unfold kW
  rw[h x aee,vI fun y hy=>h y (aef _ hy)]
structure Rd where
 keeps:List Nat
 reads:List Nat
 news:List Nat
 looks:List Nat
inductive oV (C:kC) (Rc:ah) (all:List Oper) (base:Nat):AS->Nat->AS->Rd->Option (List Nat×List Nat×Nat)->Prop
 |quiet {a a':AS} {i:Nat} {o:Oper} {v:AV}:nth all i=some o->kS all a.tm o=some true->quiet C o=true->Again C a.tm a.O o v->look a'.tm=ru o.dst v (look a.tm)->(∀ j,look a'.O j=look a.O j)->a'.aG=a.aG->a'.cs=a.cs->
   oV C Rc all base a i a' ⟨qN a.tm a.O o v,dJ a.tm o,[],dJ a.tm o⟩ none
 |new {a a':AS} {i:Nat} {o:Oper} {v:AV} {ao:AO}:nth all i=some o->kS all a.tm o=some true->Ah C o=true->vH C a.tm a.O (base+i) o v ao []->look a.O (base+i)=none->base+i<a.aG->look a'.tm=ru o.dst v (look a.tm)->
   (∀ j,look a'.O j=if j=base+i then some ao else look a.O j)->a'.aG=a.aG->a'.cs=a.cs->oV C Rc all base a i a' ⟨(base+i)::(v.kids++(kW a.tm (opers o.op)++(jg a.O (fE a.tm (opers o.op))++yE ao))),(base+i)::fE a.tm (opers o.op),[base+i],fE a.tm (opers o.op)⟩ none
 |act {a a':AS} {i:Nat} {o:Oper} {v:AV} {pre:bn} {eY:Nat} {es:List Eff}:nth all i=some o->kS all a.tm o=some true->Go.E.quiet C o=false->Ah C o=false->QV C a.tm o=false->XO C Rc a.tm a.O a.aG o v pre eY es->look a'.tm=ru o.dst v (GU es (look a.tm))->
   (∀ j,look a'.O j=look (dw es (pre++a.O)) j)->a'.aG=eY->a'.cs=jG es a.cs->oV C Rc all base a i a' ⟨[],[],[],kH a.tm a.O o⟩ (some (touched C a.tm a.O o,jT es,a.aG))
 |pass {a a':AS} {i:Nat} {o:Oper}:nth all i=some o->kS all a.tm o=some false->look a'.tm=ru o.dst .undef (look a.tm)->(∀ j,look a'.O j=look a.O j)->a'.aG=a.aG->a'.cs=a.cs->oV C Rc all base a i a' ⟨[],[],[],[]⟩ none
theorem N7{tm tm':List (Nat×AV)}{l:List Operand}(h:∀ t∈kZ l,look tm' t=look tm t):∀ x∈l,ev tm' x=ev tm x:=by
 induction l with
 |nil=>intro x hx;cases hx
 |cons y r ih=>
  intro x hx
  have hr:∀ t∈kZ r,look tm' t=look tm t:=fun t ht=>h t (by cases y<;>first|exact aef _ ht|exact ht)
  rcases List.mem_cons.1 hx with e|hx
  ·subst e
   cases x with
   |tmp t=>exact h t aee
   | _=>rfl
  ·exact ih hr x hx
theorem sQ{tm tm':List (Nat×AV)}{o:Oper}(h:∀ d,gslot all o=some d->look tm' d=look tm d):kS all tm' o=kS all tm o:=by
 unfold kS
 split
 ·rfl
 ·split
  ·rename_i d hd;rw[h d hd]
  ·rfl
theorem EC{j:Nat}:∀ {l:List Nat},j∉l->vX j l=l
 |[],_=>rfl
 |k::r,h=>by
  unfold vX
  rw[cZ fun e=>h (by rw[e];exact aee),cond_false,EC fun x=>h (aef _ x)]
theorem zJ{j:Nat}{l:List Nat}(h:j∉l):dN j l=false:=by
 cases e:dN j l with
 |false=>rfl
 |true=>exact absurd (eX.1 e) h
def Eff.id:Eff->Nat
 | .kill i| .shut i _ _=>i
 | .dO i=>aen i
mutual
theorem I9{e:Eff}:∀ (x:AV),e.id∉x.kids->e.av x=x
 | .int _ _,_| .bool _,_| .str _,_| .aT,_| .kF,_| .jo,_| .nZ,_| .undef,_| .dead,_=>by cases e<;>rfl
 | .own id,h=>by
  have h:e.id≠id:=fun x=>h (by rw[x];exact aee)
  cases e with
  |kill j=>show (bif Nat.beq id j then AV.dead else .own id)=_;rw[cZ (i:=id) (j:=j) fun x=>h x.symm];rfl
  |shut j ts rows=>show (bif Nat.beq id j then AV.ro ts rows [] else .own id)=_;rw[cZ (i:=id) (j:=j) fun x=>h x.symm];rfl
  |dO j=>rfl
 | .ptr id off,h=>by cases e<;>rfl
 | .mp id,h=>by cases e<;>rfl
 | .raw u,h=>by cases e<;>rfl
 | .sub id lo hi,h=>by
  have h:e.id≠id:=fun x=>h (by rw[x];exact aee)
  cases e with
  |kill j=>show (bif Nat.beq id j then AV.dead else .sub id lo hi)=_;rw[cZ (i:=id) (j:=j) fun x=>h x.symm];rfl
  |shut j ts rows=>show (bif Nat.beq id j then AV.dead else .sub id lo hi)=_;rw[cZ (i:=id) (j:=j) fun x=>h x.symm];rfl
  |dO j=>rfl
 | .gX id i off,h=>by
  have h:e.id≠id:=fun x=>h (by rw[x];exact aee)
  cases e with
  |kill j=>show (bif Nat.beq id j then AV.dead else .gX id i off)=_;rw[cZ (i:=id) (j:=j) fun x=>h x.symm];rfl
  |shut j ts rows=>show (bif Nat.beq id j then AV.iE ts rows [] i off else .gX id i off)=_;rw[cZ (i:=id) (j:=j) fun x=>h x.symm];rfl
  |dO j=>rfl
 | .ro ts rows deps,h=>by
  have h1:e.id∉deps++Qv deps:=h
  have h:e.id∉deps:=fun x=>h1 (adh.2 (.inl x))
  cases e with
  |kill j=>rfl
  |shut j ts' rows'=>show AV.ro ts rows (vX j deps)=_;rw[EC (j:=j) h]
  |dO j=>show (bif dN j deps then AV.dead else .ro ts rows deps)=_;rw[zJ (j:=j) fun x=>h1 (adh.2 (.inr (IZ x)))];rfl
 | .iE ts rows deps i off,h=>by
  have h1:e.id∉deps++Qv deps:=h
  have h:e.id∉deps:=fun x=>h1 (adh.2 (.inl x))
  cases e with
  |kill j=>rfl
  |shut j ts' rows'=>show AV.iE ts rows (vX j deps) i off=_;rw[EC (j:=j) h]
  |dO j=>show (bif dN j deps then AV.dead else .iE ts rows deps i off)=_;rw[zJ (j:=j) fun x=>h1 (adh.2 (.inr (IZ x)))];rfl
 | .func fn a b,h=>by
  have h:e.id∉AV.pY a++AV.pY b:=h
  show AV.func fn (e.oZ a) (e.oZ b)=_
  rw[rG a fun x=>h (adh.2 (.inl x)),rG b fun x=>h (adh.2 (.inr x))]
 | .iface t v,h=>by show AV.iface t (e.av v)=_;rw[I9 v h]
 | .agg cs,h=>by show AV.agg (e.oZ cs)=_;rw[rG cs h]
 | .AY cs,h=>by show AV.AY (e.oZ cs)=_;rw[rG cs h]
theorem rG{e:Eff}:∀ (xs:List AV),e.id∉AV.pY xs->e.oZ xs=xs
 |[],_=>rfl
 |x::xs,h=>by
  have h:e.id∉x.kids++AV.pY xs:=h
  show e.av x::e.oZ xs=_
  rw[I9 x fun y=>h (adh.2 (.inl y)),rG xs fun y=>h (adh.2 (.inr y))]
end
theorem uo{x:AV}:∀ {es:List Eff},(∀ i∈x.kids,i∉jT es)->fF es x=x
 |[],_=>rfl
 |e::r,h=>by
  show fF r (e.av x)=x
  have he:jT (e::r)=e.id::jT r:=by cases e<;>rfl
  rw[he] at h
  rw[I9 x fun y=>h _ y aee]
  exact uo fun i hi x=>h i hi (aef _ x)
theorem wG{xs:List AV}:∀ {es:List Eff},(∀ i∈AV.pY xs,i∉jT es)->gK es xs=xs
 |[],_=>rfl
 |e::r,h=>by
  show gK r (e.oZ xs)=xs
  have he:jT (e::r)=e.id::jT r:=by cases e<;>rfl
  rw[he] at h
  rw[rG xs fun y=>h _ y aee]
  exact wG fun i hi x=>h i hi (aef _ x)
theorem lG:∀ {es:List Eff} {i:Nat},aQ i es=true->i∈jT es
 | .shut j _ _::r,i,h=>by
  have h:(Nat.beq j i||aQ i r)=true:=h
  rw[Bool.or_eq_true] at h
  rcases h with h|h
  ·rw[<- aeh h];exact aee
  ·exact aef _ (lG h)
 | .kill _::r,i,h=>aef _ (lG (es:=r) h)
 | .dO _::r,i,h=>aef _ (lG (es:=r) h)
theorem yF{O:bn}{i j:Nat}{cs:List AV}:∀ {l:List Nat},i∈l->look O i=some (.box cs)->j∈AV.pY cs->j∈jg O l
 |k::r,h,hl,hj=>by
  show j∈(match look O k with|some (.box cs)=>AV.pY cs| _=>[])++jg O r
  rcases List.mem_cons.1 h with e|h
  ·subst e;rw[hl];exact adh.2 (.inl hj)
  ·exact adh.2 (.inr (yF h hl hj))
theorem sS{O O':bn}:∀ {l:List Nat},(∀ i∈l,look O' i=look O i)->jg O' l=jg O l
 |[],_=>rfl
 |k::r,h=>by
  unfold jg
  rw[h k aee,sS fun i hi=>h i (aef _ hi)]
end
end Go.E
end
section
namespace Go.E
section
variable {C:kC} {Rc:ah} {all:List Oper}
theorem QW{t:Nat}:∀ {l:List Operand},Operand.tmp t∈l->t∈kZ l
 |x::r,h=>by
  rcases List.mem_cons.1 h with e|hr
  ·subst e;exact aee
  ·have ih:=QW hr
   cases x<;>first|exact aef _ ih|exact ih
theorem rC{dst:Option Nat}{v:AV}{f:Nat->Option AV}{t:Nat}(h:dst≠some t):ru dst v f t=f t:=if_neg h
theorem HY{dst:Option Nat}{v:AV}{f:Nat->Option AV}{t:Nat}(h:dst=some t):ru dst v f t=some v:=if_pos h
theorem sU{tm tm':List (Nat×AV)}{o:Oper}(he:∀ x∈opers o.op,ev tm' x=ev tm x):dJ tm' o=dJ tm o:=by
 have e:=oD he
 unfold dJ
 split<;>first|exact e|rfl
theorem QX{tm:List (Nat×AV)}{o:Oper}{i:Nat}(h:i∈dJ tm o):i∈fE tm (opers o.op):=by
 unfold dJ at h
 split at h<;>first|exact h|cases h
theorem BD{tm tm':List (Nat×AV)}{O O':bn}{o:Oper}{v:AV}(he:∀ x∈opers o.op,ev tm' x=ev tm x)(hO:∀ i∈dJ tm o,look O' i=look O i):qN tm' O' o v=qN tm O o v:=by
 unfold qN
 rw[vI he,sU he,sS hO]
theorem BF{tm tm':List (Nat×AV)}{O O':bn}{o:Oper}{v:AV}(h:Again C tm O o v)(he:∀ x∈opers o.op,ev tm' x=ev tm x)(hO:∀ i∈dJ tm o,look O' i=look O i):Again C tm' O' o v:=by
 intro R' K' oU tm2 O2 am7 he2 hO2
 refine h K' oU tm2 O2 am7 (fun x hx=>(he2 x hx).trans (he x hx)) fun i hi=> ?_
 rw[hO2 i (by rw[sU he];exact hi),hO i hi]
theorem L9{tm tm':List (Nat×AV)}{O O' pre:bn}{aG eY:Nat}{o:Oper}{v:AV}{es:List Eff}(h:XO C Rc tm O aG o v pre eY es)(he:∀ x∈opers o.op,ev tm' x=ev tm x)(hO:∀ i∈kH tm O o,look O' i=look O i):XO C Rc tm' O' aG o v pre eY es:=
 ⟨fun K' tm2 O2 he2 hO2=>h.again K' tm2 O2 (fun x hx=>(he2 x hx).trans (he x hx)) fun i hi=>(hO2 i (by rw[Bv he hO];exact hi)).trans (hO i hi),fun i hi ht=>h.frame i hi (by rw[<- Bz he hO];exact ht),h.le⟩
theorem Ja{tm tm':List (Nat×AV)}{O O':bn}{id:Nat}{o:Oper}{v:AV}{ao:AO}{es:List Eff}(h:vH C tm O id o v ao es)(he:∀ x∈opers o.op,ev tm' x=ev tm x)(hO:∀ i∈fE tm (opers o.op),look O' i=look O i):vH C tm' O' id o v ao es:=by
 intro R' K' oU tm2 O2 he2 hO2
 exact h K' oU tm2 O2 (fun x hx=>(he2 x hx).trans (he x hx)) fun i hi=>(hO2 i (by rw[oD he];exact hi)).trans (hO i hi)
theorem Mc{tm tm':List (Nat×AV)}{o:Oper}(he:∀ x∈opers o.op,ev tm' x=ev tm x):QV C tm' o=QV C tm o:=by
 unfold QV;rw[vG he]
def QY(np:Option (Nat×AO))(f:Nat->Option AO):Nat->Option AO:=fun j=>match np with
 |some (id,ao)=>if j=id then some ao else f j
 |none=>f j
theorem N8{np:Option (Nat×AO)}{f:Nat->Option AO}{j:Nat}(h:∀ id ao,np=some (id,ao)->j≠id):QY np f j=f j:=by
 unfold QY
 split
 ·rename_i id ao;rw[if_neg (h id ao rfl)]
 ·rfl
structure Free (rp rx:Rd) (wx:Option (List Nat×List Nat×Nat)):Prop where
 nl:∀ j∈rp.news,j∉rx.looks
 rn:∀ j∈rx.news,j∉rp.reads
 ef:∀ w f n,wx=some (w,f,n)->(∀ j∈rp.keeps,j∉f)∧∀ j∈rp.reads,j<n∧j∉w
variable {base:Nat}
theorem Uo{a b c:AS}{x:Nat}{ox:Oper}{rd:Rd}{wt:Option (List Nat×List Nat×Nat)}{pd:Option Nat}{vp:AV}{np:Option (Nat×AO)}(h:oV C Rc all base b x c rd wt)(ho:nth all x=some ox)(hb:look b.tm=ru pd vp (look a.tm))(hO:∀ j,look b.O j=QY np (look a.O) j)(hn:b.aG=a.aG)(hc:b.cs=a.cs)
  (hs:∀ d,pd=some d->d∉kZ (opers ox.op)∧gslot all ox≠some d) (hnp:∀ id ao,np=some (id,ao)->id∉rd.looks∧id∉rd.news∧look a.O id=none∧∀ w f n,wt=some (w,f,n)->id<n∧id∉w∧id∉f∧∀ j∈yE ao,j∉f):
  ∃ es vx,∃ b':AS,oV C Rc all base a x b' rd wt∧look b'.tm=ru ox.dst vx (GU es (look a.tm))∧look c.tm=ru ox.dst vx (GU es (look b.tm))∧a.aG<=b'.aG∧b'.aG=c.aG∧b'.cs=c.cs∧(∀ i∈jT es,∃ w f n,wt=some (w,f,n)∧i∈f)∧(∀ j,look c.O j=QY np (look b'.O) j)∧(∀ id ao,np=some (id,ao)->look b'.O id=none)∧
   ∀ i,i∉rd.news->(∀ w f n,wt=some (w,f,n)->i<n∧i∉w∧i∉f∧∀ cs,look a.O i=some (.box cs)->∀ j∈AV.pY cs,j∉f)->look b'.O i=look a.O i:=by
 have he:∀ y∈opers ox.op,ev a.tm y=ev b.tm y:=N7 fun t ht=>by
  rw[hb,rC fun e=>(hs t e).1 ht]
 have hw:kS all a.tm ox=kS all b.tm ox:=sQ fun d hd=>by
  rw[hb,rC fun e=>(hs d e).2 hd]
 have hOl:∀ (l:List Nat),(∀ id ao,np=some (id,ao)->id∉l)->∀ i∈l,look a.O i=look b.O i:=fun l hl i hi=>by
  rw[hO i,N8 fun id ao e z=>hl id ao e (by rw[<- z];exact hi)]
 cases h with
 |quiet h1 h2 h3 h4 h5 h6 h7 h8=>
  rw[ho] at h1;cases h1
  rename_i v
  have hR:=hOl (dJ b.tm ox) fun id ao e=>(hnp id ao e).1
  let b':AS:=⟨putDst ox.dst v a.tm,a.O,c.aG,c.cs⟩
  have hbt:look b'.tm=ru ox.dst v (look a.tm):=nP _ _ _
  refine⟨[],v,b',?_,by rw[jX];exact hbt,by rw[jX];exact h5,by show a.aG<=c.aG;rw[h7,hn];exact Nat.le_refl _,rfl,rfl,fun i hi=>(by cases hi),fun j=>by rw[h6,hO],fun id ao e=>(hnp id ao e).2.2.1,fun i _ _=>rfl⟩
  rw[<- BD he hR, <- sU he]
  exact .quiet ho (hw.trans h2) h3 (BF h4 he hR) hbt (fun _=>rfl) (by show c.aG=_;rw[h7,hn]) (by show c.cs=_;rw[h8,hc])
 |new h1 h2 h3 h4 h4a h4b h5 h6 h7 h8=>
  rw[ho] at h1;cases h1
  rename_i v ao'
  have hL:=hOl (fE b.tm (opers ox.op)) fun id ao e=>(hnp id ao e).1
  let b':AS:=⟨putDst ox.dst v a.tm,(base+x,ao')::a.O,c.aG,c.cs⟩
  have hbt:look b'.tm=ru ox.dst v (look a.tm):=nP _ _ _
  have hbO:∀ j,look b'.O j=if j=base+x then some ao' else look a.O j:=fun j=>by
   show (bif Nat.beq (base+x) j then some ao' else look a.O j)=_
   by_cases e:j=base+x
   ·subst e;simp
   ·rw[cZ fun z=>e z.symm,if_neg e];rfl
  have hne:∀ id ao,np=some (id,ao)->base+x≠id:=fun id ao e z=>(hnp id ao e).2.1 (by rw[<- z];exact aee)
  have ha0:look a.O (base+x)=none:=by rw[hO,N8 hne] at h4a;exact h4a
  have hB:jg a.O (fE b.tm (opers ox.op))=jg b.O (fE b.tm (opers ox.op)):=sS hL
  refine⟨[],v,b',?_,by rw[jX];exact hbt,by rw[jX];exact h5,by show a.aG<=c.aG;rw[h7,hn];exact Nat.le_refl _,rfl,rfl,fun i hi=>(by cases hi),fun j=> ?_,fun id ao e=> ?_,fun i hi _=> ?_⟩
  ·rw[<- hB, <- oD he, <- vI he]
   exact .new ho (hw.trans h2) h3 (Ja h4 he hL) ha0 (by rw[<- hn];exact h4b) hbt hbO (by show c.aG=_;rw[h7,hn]) (by show c.cs=_;rw[h8,hc])
  ·rw[h6]
   by_cases e:j=base+x
   ·rw[if_pos e,N8 fun id ao z w=>hne id ao z (by rw[<- e];exact w),hbO,if_pos e]
   ·rw[if_neg e,hO]
    unfold QY
    split
    ·split
     ·rfl
     ·rw[hbO,if_neg e]
    ·rw[hbO,if_neg e]
  ·rw[hbO,if_neg fun z=>hne id ao e z.symm];exact (hnp id ao e).2.2.1
  ·rw[hbO,if_neg fun z=>hi (by rw[z];exact aee)]
 |act h1 h2 h3 h3n hg h4 h5 h6 h7 h8=>
  rw[ho] at h1;cases h1
  rename_i v pre eY es
  have hL:=hOl (kH b.tm b.O ox) fun id ao e=>(hnp id ao e).1
  let b':AS:=⟨putDst ox.dst v (jU es a.tm),dw es (pre++a.O),c.aG,c.cs⟩
  have hbt:look b'.tm=ru ox.dst v (GU es (look a.tm)):=by
   show look (putDst ox.dst v (jU es a.tm))=_
   rw[nP,L8]
  refine⟨es,v,b',?_,hbt,h5,by show a.aG<=c.aG;rw[h7, <- hn];exact h4.le,rfl,rfl,fun i hi=>⟨_,_,_,rfl,hi⟩,fun j=> ?_,fun id ao e=> ?_,fun i _ hall=> ?_⟩
  ·rw[<- Bz he hL, <- Bv he hL,hn]
   rw[hn] at h4
   exact .act ho (hw.trans h2) h3 h3n ((Mc he).trans hg) (L9 h4 he hL) hbt (fun _=>rfl) (by show c.aG=_;rw[h7]) (by show c.cs=_;rw[h8,hc])
  ·rw[h6]
   show look (dw es (pre++b.O)) j=QY np (look (dw es (pre++a.O))) j
   cases np with
   |none=>
    show _=look (dw es (pre++a.O)) j
    rw[bT,iR,bT,iR,hO];rfl
   |some q=>
    obtain⟨id,ao⟩:=q
    obtain⟨g1,_,g3,g4⟩:=hnp id ao rfl
    obtain⟨w1,w2,w3,w4⟩:=g4 _ _ _ rfl
    show _=if j=id then some ao else look (dw es (pre++a.O)) j
    have hOj:look b.O j=if j=id then some ao else look a.O j:=hO j
    rw[bT,iR,bT,iR,hOj]
    by_cases e:j=id
    ·subst e
     have hnone:look pre j=none:=h4.frame j w1 w2
     rw[if_neg fun y=>w3 (lG y),hnone,if_pos rfl,if_pos rfl]
     dsimp only
     cases ao with
     |box cs=>show some (AO.box (gK es cs))=_;rw[wG fun k hk y=>w4 k hk y]
     |arr ts rows wr=>rfl
     |dead=>rfl
     |map m=>rfl
    ·rw[if_neg e,if_neg e]
  ·obtain⟨g1,_,g3,g4⟩:=hnp id ao e
   obtain⟨w1,w2,w3,w4⟩:=g4 _ _ _ rfl
   show look (dw es (pre++a.O)) id=none
   rw[bT,if_neg fun y=>w3 (lG y),iR,h4.frame id w1 w2,g3];rfl
  ·obtain⟨hi,ht1,ht2,hbx⟩:=hall _ _ _ rfl
   show look (dw es (pre++a.O)) i=_
   rw[bT,if_neg fun y=>ht2 (lG y),iR,h4.frame i hi ht1]
   dsimp only
   cases hl:look a.O i with
   |none=>rfl
   |some q=>
    cases q with
    |box cs=>
     have:gK es cs=cs:=wG fun j hj y=>hbx cs hl j hj y
     show some (AO.box (gK es cs))=_
     rw[this]
    |arr ts rows wr=>rfl
    |dead=>rfl
    |map m=>rfl
 |pass h1 h2 h3 h4 h5 h6=>
  rw[ho] at h1;cases h1
  let b':AS:=⟨putDst ox.dst .undef a.tm,a.O,c.aG,c.cs⟩
  have hbt:look b'.tm=ru ox.dst .undef (look a.tm):=nP _ _ _
  exact⟨[],.undef,b',.pass ho (hw.trans h2) hbt (fun _=>rfl) (by show c.aG=_;rw[h5,hn]) (by show c.cs=_;rw[h6,hc]),by rw[jX];exact hbt,by rw[jX];exact h3,by show a.aG<=c.aG;rw[h5,hn];exact Nat.le_refl _,rfl,rfl,fun i hi=>(by cases hi),
   fun j=>by rw[h4,hO],fun id ao e=>(hnp id ao e).2.2.1,fun i _ _=>rfl⟩
theorem yG{a a2:AS}{op:Oper}{es:List Eff}{xd:Option Nat}{vx:AV}{r:Bool}(h1:look a2.tm=ru xd vx (GU es (look a.tm)))(h2:∀ d,xd=some d->d∉kZ (opers op.op)∧gslot all op≠some d)(h3:kS all a.tm op=some r):kS all a2.tm op=some r:=by
 unfold kS at h3⊢
 split
 ·rename_i hg;rw[hg] at h3;exact h3
 ·rename_i j w hg
  rw[hg] at h3
  dsimp only at h3
  split at h3
  ·rename_i d hd
   rw[h1,rC fun e=>(h2 d e).2 hd]
   show (match (look a.tm d).map (fF es) with|some (.bool b)=>some (b==w)|some .undef=>some false| _=>none)=_
   split at h3
   ·rename_i bb hbb
    rw[hbb]
    show (match some (fF es (.bool bb)) with|some (.bool b)=>some (b==w)|some .undef=>some false| _=>none)=_
    rw[ig (fun e=>by cases e<;>rfl)];exact h3
   ·rename_i hbb
    rw[hbb]
    show (match some (fF es .undef) with|some (.bool b)=>some (b==w)|some .undef=>some false| _=>none)=_
    rw[ig (fun e=>by cases e<;>rfl)];exact h3
   ·cases h3
  ·cases h3
theorem QZ{a a2:AS}{op:Oper}{es:List Eff}{xd:Option Nat}{vx:AV}(h1:look a2.tm=ru xd vx (GU es (look a.tm)))(h2:∀ d,xd=some d->d∉kZ (opers op.op)∧gslot all op≠some d)(h3:∀ i∈kW a.tm (opers op.op),i∉jT es):∀ y∈opers op.op,ev a2.tm y=ev a.tm y:=by
 intro y hy
 cases y with
 |tmp t=>
  have ht:t∈kZ (opers op.op):=QW hy
  show look a2.tm t=look a.tm t
  rw[h1,rC fun e=>(h2 t e).1 ht]
  show (look a.tm t).map (fF es)=_
  cases hv:look a.tm t with
  |none=>rfl
  |some u=>
   show some (fF es u)=_
   rw[uo fun i hi=>h3 i (I8 hy (show ev a.tm (.tmp t)=some u from hv) hi)]
 | _=>rfl
theorem XQ{a b:AS}{p:Nat}{op:Oper}{rd:Rd}{wt:Option (List Nat×List Nat×Nat)}(h:oV C Rc all base a p b rd wt)(ho:nth all p=some op)(hq:still C op=true):
  ∃ vp np,wt=none∧look b.tm=ru op.dst vp (look a.tm)∧(∀ j,look b.O j=QY np (look a.O) j)∧b.aG=a.aG∧b.cs=a.cs∧(∀ es:List Eff,(∀ i∈rd.keeps,i∉jT es)->fF es vp=vp)∧
   (∀ id ao,np=some (id,ao)->id∈rd.news∧id∈rd.keeps∧id∈rd.reads∧look a.O id=none∧∀ j∈yE ao,j∈rd.keeps)∧(∀ i∈rd.reads,i∈rd.keeps∧∀ cs,look a.O i=some (.box cs)->∀ j∈AV.pY cs,j∈rd.keeps)∧
   ∀ (a2 c2:AS) (es:List Eff) (xd:Option Nat) (vx:AV),look a2.tm=ru xd vx (GU es (look a.tm))->(∀ d,xd=some d->d∉kZ (opers op.op)∧gslot all op≠some d)->(∀ i∈rd.keeps,i∉jT es)->a.aG<=a2.aG->
    (∀ i∈rd.reads,look a2.O i=look a.O i)->look c2.tm=ru op.dst vp (look a2.tm)->(∀ j,look c2.O j=QY np (look a2.O) j)->c2.aG=a2.aG->c2.cs=a2.cs->oV C Rc all base a2 p c2 rd none:=by
 cases h with
 |quiet h1 h2 h3 h4 h5 h6 h7 h8=>
  rw[ho] at h1;cases h1
  rename_i v
  refine⟨v,none,rfl,h5,h6,h7,h8,fun es hes=>uo fun i hi=>hes i (adh.2 (.inl hi)),fun id ao e=>(by cases e),fun i hi=>⟨adh.2 (.inr (adh.2 (.inl (BA (QX hi))))),fun cs hl j hj=>adh.2 (.inr (adh.2 (.inr (yF hi hl hj))))⟩,
   fun a2 c2 es xd vx k1 k2 k3 kn k4 k5 k6 k7 k8=> ?_⟩
  have he:∀ y∈opers op.op,ev a2.tm y=ev a.tm y:=QZ (all:=all) k1 k2 fun i hi=>k3 i (adh.2 (.inr (adh.2 (.inl hi))))
  have hO2:∀ i∈dJ a.tm op,look a2.O i=look a.O i:=k4
  rw[<- BD he hO2, <- sU he]
  refine .quiet ho (yG k1 k2 h2) h3 (BF h4 he hO2) k5 (fun j=> ?_) k7 k8
  exact k6 j
 |new h1 h2 h3 h4 h4a h4b h5 h6 h7 h8=>
  rw[ho] at h1;cases h1
  rename_i v ao
  have sub:∀ i∈kW a.tm (opers op.op),i∈(base+p)::(v.kids++(kW a.tm (opers op.op)++(jg a.O (fE a.tm (opers op.op))++yE ao))):=fun i hi=>aef _ (adh.2 (.inr (adh.2 (.inl hi))))
  refine⟨v,some (base+p,ao),rfl,h5,h6,h7,h8,fun es hes=>uo fun i hi=>hes i (aef _ (adh.2 (.inl hi))),fun id ao' e=> ?_,fun i hi=> ?_,fun a2 c2 es xd vx k1 k2 k3 kn k4 k5 k6 k7 k8=> ?_⟩
  ·cases e
   exact⟨aee,aee,aee,h4a,fun j hj=>aef _ (adh.2 (.inr (adh.2 (.inr (adh.2 (.inr hj))))))⟩
  ·rcases List.mem_cons.1 hi with e|hi
   ·subst e
    exact⟨aee,fun cs hl=>by rw[h4a] at hl;cases hl⟩
   ·exact⟨sub i (BA hi),fun cs hl j hj=>aef _ (adh.2 (.inr (adh.2 (.inr (adh.2 (.inl (yF hi hl hj)))))))⟩
  ·have he:∀ y∈opers op.op,ev a2.tm y=ev a.tm y:=QZ (all:=all) k1 k2 fun i hi=>k3 i (sub i hi)
   have hO2:∀ i∈fE a.tm (opers op.op),look a2.O i=look a.O i:=fun i hi=>k4 i (aef _ hi)
   have hB:jg a2.O (fE a.tm (opers op.op))=jg a.O (fE a.tm (opers op.op)):=sS hO2
   rw[<- hB, <- oD he, <- vI he]
   exact .new ho (yG k1 k2 h2) h3 (Ja h4 he hO2) ((k4 _ aee).trans h4a) (Nat.lt_of_lt_of_le h4b kn) k5 k6 k7 k8
 |act h1 h2 h3 h3n=>
  rw[ho] at h1;cases h1
  unfold still at hq
  rw[h3,h3n] at hq;cases hq
 |pass h1 h2 h3 h4 h5 h6=>
  rw[ho] at h1;cases h1
  refine⟨.undef,none,rfl,h3,h4,h5,h6,fun es _=>ig (fun e=>by cases e<;>rfl) es,fun id ao e=>(by cases e),fun i hi=>(by cases hi),fun a2 c2 es xd vx k1 k2 k3 kn k4 k5 k6 k7 k8=> ?_⟩
  exact .pass ho (yG k1 k2 h2) k5 k6 k7 k8
theorem Ur{a b c:AS}{p x:Nat}{op ox:Oper}{rdp rdx:Rd}{wtp wtx:Option (List Nat×List Nat×Nat)}(h1:oV C Rc all base a p b rdp wtp)(h2:oV C Rc all base b x c rdx wtx)(hp:nth all p=some op)(hx:nth all x=some ox)(hq:still C op=true)(hi:FT all op ox)
  (hd:Free rdp rdx wtx):∃ b',oV C Rc all base a x b' rdx wtx∧oV C Rc all base b' p c rdp wtp:=by
 obtain⟨vp,np,rfl,f1,f2,f3,f4,f5,f7,f8,f6⟩:=XQ h1 hp hq
 obtain⟨es,vx,b',g0,g1,g2,gn,g3,g4,g5,g6,g7,g8⟩:=Uo (a:=a) h2 hx f1 f2 f3 f4 (fun d hd=>⟨(hi.a d hd).1,(hi.a d hd).2.1⟩) fun id ao e=>by
  obtain⟨q1,q2,q3,q4,q5⟩:=f7 id ao e
  refine⟨hd.nl id q1,fun z=>hd.rn id z q3,q4,fun w f n ew=> ?_⟩
  obtain⟨r1,r2⟩:=hd.ef w f n ew
  exact⟨(r2 id q3).1,(r2 id q3).2,r1 id q2,fun j hj=>r1 j (q5 j hj)⟩
 have hne:∀ i∈rdp.keeps,i∉jT es:=fun i hi he=>by
  obtain⟨w,f,n,e,hw⟩:=g5 i he
  exact (hd.ef w f n e).1 i hi hw
 refine⟨b',g0,f6 b' c es ox.dst vx g1 (fun d hd=>hi.b d hd) hne gn (fun i hi=> ?_) ?_ g6 g3.symm g4.symm⟩
 ·exact g8 i (fun z=>hd.rn i z hi) fun w f n e=>⟨((hd.ef w f n e).2 i hi).1,((hd.ef w f n e).2 i hi).2,(hd.ef w f n e).1 i (f8 i hi).1,fun cs hl j hj=>(hd.ef w f n e).1 j ((f8 i hi).2 cs hl j hj)⟩
 ·rw[g2,g1,f1]
  funext t
  by_cases e1:ox.dst=some t
  ·have e2:op.dst≠some t:=fun e=>(hi.a t e).2.2 e1
   rw[HY e1,rC e2,HY e1]
  ·rw[rC e1]
   by_cases e2:op.dst=some t
   ·rw[HY e2]
    show (ru op.dst vp (look a.tm) t).map (fF es)=_
    rw[HY e2]
    show some (fF es vp)=_
    rw[f5 es hne]
   ·rw[rC e2,rC e1]
    show (ru op.dst vp (look a.tm) t).map (fF es)=(look a.tm t).map (fF es)
    rw[rC e2]
end
end Go.E
end
section
namespace Go.E
section
variable {C:kC} {Rc:ah} {all:List Oper} {base:Nat}
abbrev XR:=Nat×Rd×Option (List Nat×List Nat×Nat)
inductive nH (C:kC) (Rc:ah) (all:List Oper) (base:Nat):AS->List Nat->AS->List XR->Prop
 |nil {a:AS}:nH C Rc all base a [] a []
 |cons {a b c:AS} {i:Nat} {r:List Nat} {rd:Rd} {wt:Option (List Nat×List Nat×Nat)} {tr:List XR}:oV C Rc all base a i b rd wt->nH C Rc all base b r c tr->nH C Rc all base a (i::r) c ((i,rd,wt)::tr)
def BG(an:Nat->List Nat)(p e:XR):Prop:=p.1∉an e.1->Free p.2.1 e.2.1 e.2.2
def Fine(an:Nat->List Nat)(tr:List XR):Prop:=tr.Pairwise (BG an)
def isQ(C:kC)(all:List Oper)(i:Nat):Prop:=∃ o,nth all i=some o∧still C o=true
theorem Q5{a b:AS}{p:Nat}{rd:Rd}{wt:Option (List Nat×List Nat×Nat)}(h:oV C Rc all base a p b rd wt)(hq:isQ C all p):wt=none:=by
 obtain⟨o,ho,hq⟩:=hq
 cases h with
 |quiet=>rfl
 |new=>rfl
 |act h1 _ h3 h4=>rw[ho] at h1;cases h1;unfold still at hq;rw[h3,h4] at hq;cases hq
 |pass=>rfl
theorem Q7{a b:AS}{p:Nat}{rd:Rd}{wt:Option (List Nat×List Nat×Nat)}(h:oV C Rc all base a p b rd wt):(∀ j∈rd.reads,j∈rd.looks∨j∈rd.news)∧(∀ j∈rd.news,j=base+p)∧(isQ C all p->∀ j∈rd.looks,j∈rd.reads):=by
 cases h with
 |quiet=>exact⟨fun j hj=> .inl hj,fun j hj=>(by cases hj),fun _ j hj=>hj⟩
 |new=>exact⟨fun j hj=>(List.mem_cons.1 hj).elim (fun e=> .inr (by rw[e];exact aee)) .inl,fun j hj=>List.mem_singleton.1 hj,fun _ j hj=>aef _ hj⟩
 |act h1 _ h3 h4=>exact⟨fun j hj=>(by cases hj),fun j hj=>(by cases hj),fun hq=>by
   obtain⟨o,ho,hq⟩:=hq
   rw[ho] at h1;cases h1;unfold still at hq;rw[h3,h4] at hq;cases hq⟩
 |pass=>exact⟨fun j hj=>(by cases hj),fun j hj=>(by cases hj),fun _ j hj=>(by cases hj)⟩
theorem Q8{an:Nat->List Nat}{i:Nat}{oi:Oper}(hoi:nth all i=some oi):∀ {l1 l2:List Nat} {a c:AS} {tr:List XR},nH C Rc all base a (l1++i::l2) c tr->Fine an tr->(∀ x∈l1,x∉an i∧x≠i∧∃ ox,nth all x=some ox∧still C ox=true∧FT all ox oi)->
  ∃ tr',nH C Rc all base a (i::(l1++l2)) c tr'∧Fine an tr'∧∀ e∈tr',e∈tr
 |[],l2,a,c,tr,h,hf,_=>⟨tr,h,hf,fun _ he=>he⟩
 |x::l1,l2,a,c,tr,h,hf,hx=>by
  cases h with
  |cons h1 h2=>
   rename_i b rdx wtx tr1
   obtain⟨hf1,hf2⟩:=List.pairwise_cons.1 hf
   obtain⟨asT,k1,k2,k3⟩:=Q8 hoi h2 hf2 fun y hy=>hx y (aef _ hy)
   obtain⟨hxa,hxi,ox,hox,hq,am9⟩:=hx x aee
   cases k1 with
   |cons g1 g2=>
    rename_i b2 rdi wti tr2
    have hst:BG an (x,rdx,wtx) (i,rdi,wti):=hf1 _ (k3 _ aee)
    obtain⟨b',q1,q2⟩:=Ur h1 g1 hox hoi hq am9 (hst hxa)
    obtain⟨m1,m2⟩:=List.pairwise_cons.1 k2
    refine⟨(i,rdi,wti)::(x,rdx,wtx)::tr2,.cons q1 (.cons q2 g2),?_,fun e he=> ?_⟩
    ·refine List.pairwise_cons.2 ⟨fun e he=> ?_,List.pairwise_cons.2 ⟨fun e he=>hf1 e (k3 e (aef _ he)),m2⟩⟩
     rcases List.mem_cons.1 he with y|he
     ·subst y
      intro _
      obtain⟨u1,u2,u3⟩:=Q7 h1
      obtain⟨v1,v2,_⟩:=Q7 g1
      have hf:=hst hxa
      refine⟨fun j hj y=>hf.rn j hj (u3 ⟨ox,hox,hq⟩ j y),fun j hj y=> ?_,fun w f n e=> ?_⟩
      ·rcases v1 j y with z|z
       ·exact hf.nl j hj z
       ·have e1:=u2 j hj
        have e2:=v2 j z
        exact hxi (by omega)
      ·rw[show wtx=none from Q5 h1 ⟨ox,hox,hq⟩] at e
       cases e
     ·exact m1 e he
    ·rcases List.mem_cons.1 he with y|he
     ·subst y;exact aef _ (k3 _ aee)
     ·rcases List.mem_cons.1 he with y|he
      ·subst y;exact aee
      ·exact aef _ (k3 e (aef _ he))
inductive Sorts (C:kC) (all:List Oper) (an:Nat->List Nat):List Nat->List Nat->Prop
 |nil:Sorts C all an [] []
 |cons {i:Nat} {oi:Oper} {l1 l2 σ:List Nat}:nth all i=some oi->(∀ x∈l1,x∉an i∧x≠i∧∃ ox,nth all x=some ox∧still C ox=true∧FT all ox oi)->Sorts C all an (l1++l2) σ->Sorts C all an (l1++i::l2) (i::σ)
theorem FX{an:Nat->List Nat}{ord σ:List Nat}(h:Sorts C all an ord σ):∀ {a c:AS} {tr:List XR},nH C Rc all base a ord c tr->Fine an tr->∃ tr',nH C Rc all base a σ c tr':=by
 induction h with
 |nil=>intro a c tr h _;exact⟨tr,h⟩
 |cons hoi hx _ ih=>
  intro a c tr h hf
  obtain⟨tr',k1,k2,_⟩:=Q8 hoi h hf hx
  cases k1 with
  |cons g1 g2=>
   obtain⟨tr2,k3⟩:=ih g2 (List.pairwise_cons.1 k2).2
   exact⟨_,.cons g1 k3⟩
theorem Me{pr:Nat->List Nat}{D σ:List Nat}{i:Nat}(h:qV pr D (i::σ)):qV pr (i::D) σ:=by
 intro l x r e q hq
 rcases h (i::l) x r (by rw[e];rfl) q hq with y|y
 ·exact .inl (aef _ y)
 ·rcases List.mem_cons.1 y with y|y
  ·exact .inl (by rw[y];exact aee)
  ·exact .inr y
theorem MB{l1 l2 l r:List Nat}{i b:Nat}(h:l1++l2=l++b::r):(∃ r',l1=l++b::r'∧r=r'++l2)∨∃ l',l=l1++l'∧l2=l'++b::r:=by
 rcases List.append_eq_append_iff.1 h with ⟨a',h1,h2⟩|⟨c',h1,h2⟩
 ·exact .inr ⟨a',h1,h2⟩
 ·cases c' with
  |nil=>
   simp at h1 h2
   exact .inr ⟨[],by simp[h1],by simp[h2]⟩
  |cons x c'=>
   simp at h2
   obtain⟨rfl,rfl⟩:=h2
   exact .inl ⟨c',h1,rfl⟩
theorem aad{all:List Oper}{i:Nat}(h:i<all.length):∃ o,nth all i=some o:=by
 induction all generalizing i with
 |nil=>cases h
 |cons x r ih=>cases i with
  |zero=>exact⟨x,rfl⟩
  |succ i=>exact ih (i:=i) (by simpa using h)
theorem Jb{qt:Nat->Bool}{an:Nat->List Nat}(hqt:∀ x,qt x=true->isQ C all x):
  ∀ (σ ord D:List Nat),IL qt all an D ord σ->Sorts C all an ord σ
 |[],ord,D,h=>by
  have:ord=[]:=List.eq_nil_iff_forall_not_mem.2 fun x hx=>by have:=(h.mem x).1 hx;cases this
  subst this;exact .nil
 |i::σ,ord,D,h=>by
  have hi:i∈ord:=(h.mem i).2 aee
  obtain⟨l1,l2,rfl⟩:=List.append_of_mem hi
  have hni:=List.nodup_cons.1 h.nds
  obtain⟨hd1,hd2,hd3,hd4,hd5⟩:=zF h.nd
  obtain⟨oi,hoi⟩:=aad (h.ex i hi)
  have ani:∀ q∈an i,q∈D:=fun q hq=>by
   rcases h.t2 [] i σ rfl q hq with y|y
   ·exact y
   ·cases y
  have pri:∀ q∈uV all i,q∈D:=fun q hq=>by
   rcases h.t3 [] i σ rfl q hq with y|y
   ·exact y
   ·cases y
  have ajj:fD qt (l1++i::l2)=fD qt l1++fD qt (i::l2):=vC l1 (i::l2)
  have hq1:∀ x∈l1,qt x=true:=by
   intro x hx
   refine Classical.byContradiction fun hnx=> ?_
   have hnx:qt x=false:=by cases hh:qt x with|true=>exact absurd hh hnx|false=>rfl
   cases hqi:qt i with
   |true=>
    obtain⟨la,lb,e⟩:=List.append_of_mem hx
    obtain⟨q,hq,hqr⟩:=h.eager la x (lb++i::l2) (by rw[e];simp) hnx i (by simp) hqi
    have e2:la++x::(lb++i::l2)=l1++i::l2:=by rw[e];simp
    exact h.out q (by rw[<- e2];exact adh.2 (.inr hqr)) (pri q hq)
   |false=>
    have hl:=h.loud
    have ei:∀ r,fD qt (i::r)=i::fD qt r:=fun r=>by
     show (bif qt i then fD qt r else i::fD qt r)=_
     rw[hqi];rfl
    rw[ajj,ei,ei] at hl
    have h3:x∈fD qt l1:=iJ.2 ⟨hx,hnx⟩
    cases hll:fD qt l1 with
    |nil=>rw[hll] at h3;cases h3
    |cons y ys=>
     rw[hll] at hl
     simp at hl
     have:y∈l1:=by
      have:y∈fD qt l1:=by rw[hll];exact aee
      exact (iJ.1 this).1
     exact hd1 (by rw[<- hl.1];exact this)
  have iD:i∉D:=h.out i hi
  have l12:∀ {x},x∈l1++l2->x∈l1++i::l2:=fun {x} hx=>(adh.1 hx).elim (fun y=>adh.2 (.inl y)) fun y=>adh.2 (.inr (aef _ y))
  have tt:∀ {f:Nat->List Nat},qV f D (l1++i::l2)->qV f (i::D) (l1++l2):=fun {f} ht l x r e q hq=>by
   rcases MB (i:=i) e with ⟨r',h1,h2⟩|⟨l',h1,h2⟩
   ·rcases ht l x (r'++i::l2) (by rw[h1];simp) q hq with y|y
    ·exact .inl (aef _ y)
    ·exact .inr y
   ·rcases ht (l1++i::l') x r (by rw[h2];simp) q hq with y|y
    ·exact .inl (aef _ y)
    ·rcases adh.1 y with z|z
     ·exact .inr (by rw[h1];exact adh.2 (.inl z))
     ·rcases List.mem_cons.1 z with z|z
      ·exact .inl (by rw[z];exact aee)
      ·exact .inr (by rw[h1];exact adh.2 (.inr z))
  refine .cons hoi (fun x hx=> ?_) (Jb hqt σ (l1++l2) (i::D) ⟨fun x=> ?_,List.nodup_append.2 ⟨hd3,hd4,fun a ha b hb e=>hd5 a ha (by rw[e];exact hb)⟩,hni.2,fun x hx=> ?_,fun x hx=>h.ex x (l12 hx),tt h.t1,Me h.t2,Me h.t3,tt h.t4,?_,?_,h.ind⟩)
  ·obtain⟨ox,hox⟩:=aad (h.ex x (adh.2 (.inl hx)))
   have hxa:x∉an i:=fun y=>h.out x (adh.2 (.inl hx)) (ani x y)
   have hne:x≠i:=fun e=>hd1 (by rw[<- e];exact hx)
   have hia:i∉an x:=fun y=>by
    obtain⟨la,lb,e⟩:=List.append_of_mem hx
    rcases h.t1 la x (lb++i::l2) (by rw[e];simp) i y with z|z
    ·exact iD z
    ·exact hd1 (by rw[e];exact adh.2 (.inl z))
   obtain⟨o2,g1,g2⟩:=hqt x (hq1 x hx)
   rw[hox] at g1;cases g1
   exact⟨hxa,hne,ox,hox,g2,h.ind x i hne hxa hia ox oi hox hoi (hq1 x hx)⟩
  ·have:=h.mem x
   simp only[adh,List.mem_cons] at this⊢
   constructor
   ·intro y
    rcases (this.1 (y.elim .inl fun z=> .inr (.inr z))) with z|z
    ·subst z;exact absurd y (fun w=>w.elim hd1 hd2)
    ·exact z
   ·intro y
    rcases this.2 (.inr y) with z|z|z
    ·exact .inl z
    ·subst z;exact absurd y hni.1
    ·exact .inr z
  ·rintro y
   rcases List.mem_cons.1 y with z|z
   ·subst z;exact (adh.1 hx).elim hd1 hd2
   ·exact h.out x (l12 hx) z
  ·intro l b r e hb p hp' hqp
   rcases MB (i:=i) e with ⟨r',h1,h2⟩|⟨l',h1,h2⟩
   ·have:=hq1 b (by rw[h1];simp)
    rw[hb] at this;cases this
   ·exact h.eager (l1++i::l') b r (by rw[h2];simp) hb p hp' hqp
  ·have h0:fD qt l1=[]:=List.eq_nil_iff_forall_not_mem.2 fun x hx=>by
    have h1:=iJ.1 hx
    rw[hq1 x h1.1] at h1;cases h1.2
   have hl:=h.loud
   rw[ajj,h0,List.nil_append] at hl
   rw[vC,h0,List.nil_append]
   have:∀ {a b:List Nat},fD qt (i::a)=fD qt (i::b)->fD qt a=fD qt b:=fun {a b} e=>by
    have e:(bif qt i then fD qt a else i::fD qt a)=(bif qt i then fD qt b else i::fD qt b):=e
    cases hh:qt i with
    |true=>rw[hh] at e;exact e
    |false=>rw[hh] at e;exact (List.cons.inj e).2
   exact this hl
end
end Go.E
end
section
namespace Go.E
theorem Us{α:Type}:∀ (l:List α) (i:Nat),nth l i=l[i]?
 |[],i=>by cases i<;>rfl
 | _::_,0=>rfl
 | _::r,i+1=>by rw[nth,Us r i];simp
def sV(listed:Array Bool)(n:Nat):List Nat:=(List.range n).filter fun i=> !listed.getD i true
theorem MC{ops:Array Oper}{listed:Array Bool}{i:Nat}:i∈Region.ready .any ops listed↔i<ops.size∧listed.getD i true=false∧∀ q∈uV ops.toList i,listed.getD q false=true:=by
 unfold Region.ready
 rw[List.mem_filter,List.mem_range]
 have:∀ h:i<ops.size,((((ops[i]?).map (·.after.all fun e=> !Region.binds .any e||listed.getD e.on false)).getD false)=true↔∀ q∈uV ops.toList i,listed.getD q false=true):=by
  intro h
  have e:ops[i]? =some ops[i]:=Array.getElem?_eq_getElem h
  have e2:nth ops.toList i=some ops[i]:=by rw[Us,Array.getElem?_toList];exact e
  unfold uV
  rw[e,e2]
  simp only[Option.map_some,Option.getD_some,Array.all_eq_true',List.mem_map,List.mem_filter,Array.mem_toList_iff,Bool.or_eq_true,Bool.not_eq_true']
  constructor
  ·rintro k q ⟨ed,⟨h1,h2⟩,rfl⟩
   rcases k ed h1 with y|y
   ·rw[y] at h2;cases h2
   ·exact y
  ·intro k ed h1
   cases hb:Region.binds .any ed with
   |false=>exact .inl rfl
   |true=>exact .inr (k _ ⟨ed,⟨h1,hb⟩,rfl⟩)
 constructor
 ·rintro⟨h1,h2⟩
  rw[Bool.and_eq_true,Bool.not_eq_true'] at h2
  exact⟨h1,h2.1,(this h1).1 h2.2⟩
 ·rintro⟨h1,h2,h3⟩
  refine⟨h1,?_⟩
  rw[Bool.and_eq_true,Bool.not_eq_true']
  exact⟨h2,(this h1).2 h3⟩
theorem Dn{listed:Array Bool}{i j:Nat}{d:Bool}(h:i<listed.size):(listed.setIfInBounds i true).getD j d=if j=i then true else listed.getD j d:=by
 by_cases e:j=i
 ·subst e;simp[Array.getD,h]
 ·rw[if_neg e]
  simp[Array.getD_eq_getD_getElem?,Array.getElem?_setIfInBounds_ne (Ne.symm e)]
theorem aae{ops:Array Oper}{ord:List Nat}(hord:∀ i,i<ops.size->i∈ord)(htop:qV (uV ops.toList) [] ord)(hlt:∀ i,i<ops.size->∀ q∈uV ops.toList i,q<ops.size):
  ∀ (fuel t:Nat) (listed:Array Bool),listed.size=ops.size->(sV listed ops.size).length<=fuel->
   (Region.linearise.go .any ops fuel t listed []).Nodup∧(∀ i,i∈Region.linearise.go .any ops fuel t listed []↔i<ops.size∧listed.getD i true=false)∧
   ∀ l i r,Region.linearise.go .any ops fuel t listed []=l++i::r->∀ q∈uV ops.toList i,listed.getD q false=true∨q∈l
 |0,t,listed,hs,hf=>by
  have h0:sV listed ops.size=[]:=List.length_eq_zero_iff.1 (Nat.le_zero.1 hf)
  refine⟨by simp[Region.linearise.go],fun i=> ?_,fun l i r e=>by simp[Region.linearise.go] at e⟩
  simp only[Region.linearise.go,List.reverse_nil,List.not_mem_nil,false_iff]
  rintro⟨h1,h2⟩
  have:i∈sV listed ops.size:=by unfold sV;rw[List.mem_filter,List.mem_range,h2];exact⟨h1,rfl⟩
  rw[h0] at this;cases this
 |fuel+1,t,listed,hs,hf=>by
  have hgo:Region.linearise.go .any ops (fuel+1) t listed []=(match (Region.ready .any ops listed)[t%(Region.ready .any ops listed).length]? with
   |some i=>i::Region.linearise.go .any ops fuel (t/(Region.ready .any ops listed).length) (listed.setIfInBounds i true) []
   |none=>[]):=by
   show (match (Region.ready .any ops listed)[t%(Region.ready .any ops listed).length]? with
    |some i=>Region.linearise.go .any ops fuel (t/(Region.ready .any ops listed).length) (listed.setIfInBounds i true) (i::[])
    |none=>([]:List Nat).reverse)=_
   cases (Region.ready .any ops listed)[t%(Region.ready .any ops listed).length]? with
   |none=>rfl
   |some i=>
    dsimp only
    rw[linearise_go_acc,List.reverse_singleton,List.singleton_append]
  rw[hgo]
  cases hi:(Region.ready .any ops listed)[t%(Region.ready .any ops listed).length]? with
  |none=>
   have hnil:Region.ready .any ops listed=[]:=by
    cases hr:Region.ready .any ops listed with
    |nil=>rfl
    |cons x xs=>
     rw[hr] at hi
     have hlt:t%(x::xs).length<(x::xs).length:=Nat.mod_lt _ (by simp)
     rw[List.getElem?_eq_getElem hlt] at hi
     cases hi
   dsimp only
   refine⟨List.nodup_nil,fun i=> ?_,fun l i r e=>by cases l<;>cases e⟩
   simp only[List.not_mem_nil,false_iff]
   rintro⟨h1,h2⟩
   have:∀ (k:Nat) (l r:List Nat),l.length=k->∀ x,ord=l++x::r->x<ops.size->listed.getD x true=false->False:=by
    intro k
    induction k using Nat.strongRecOn with
    | _ k ih=>
     intro l r hk x e hx hlx
     by_cases hall:∀ q∈uV ops.toList x,listed.getD q false=true
     ·have:x∈Region.ready .any ops listed:=MC.2 ⟨hx,hlx,hall⟩
      rw[hnil] at this;cases this
     ·have hall:∃ q∈uV ops.toList x,listed.getD q false=false:=by
       refine Classical.byContradiction fun hc=>hall fun q hq=> ?_
       cases hlq:listed.getD q false with
       |true=>rfl
       |false=>exact absurd ⟨q,hq,hlq⟩ hc
      obtain⟨q,hq,hlq⟩:=hall
      have hq2:=hlt x hx q hq
      rcases htop l x r e q hq with y|y
      ·cases y
      ·obtain⟨la,lb,e2⟩:=List.append_of_mem y
       refine ih la.length (by rw[<- hk,e2];simp) la (lb++x::r) rfl q (by rw[e,e2];simp) hq2 ?_
       rw[<- hlq]
       simp[Array.getD,hs,hq2]
   obtain⟨l,r,e⟩:=List.append_of_mem (hord i h1)
   exact this l.length l r rfl i e h1 h2
  |some i=>
   dsimp only
   obtain⟨h1,h2,h3⟩:=MC.1 (List.mem_of_getElem? hi)
   have hopen:(sV (listed.setIfInBounds i true) ops.size).length<(sV listed ops.size).length:=by
    have him:i∈sV listed ops.size:=by unfold sV;rw[List.mem_filter,List.mem_range,h2];exact⟨h1,rfl⟩
    have hsub:sV (listed.setIfInBounds i true) ops.size=(sV listed ops.size).filter fun j=>decide (j≠i):=by
     unfold sV
     rw[List.filter_filter]
     apply List.filter_congr
     intro j _
     rw[Dn (by rw[hs];exact h1)]
     by_cases e:j=i<;>simp[e]
    rw[hsub]
    rcases Nat.lt_or_ge ((sV listed ops.size).filter fun j=>decide (j≠i)).length (sV listed ops.size).length with y|y
    ·exact y
    ·have:=(List.length_filter_eq_length_iff (p:=fun j=>decide (j≠i)) (l:=sV listed ops.size)).1 (Nat.le_antisymm (List.length_filter_le _ _) y) i him
     simp at this
   obtain⟨k1,k2,k3⟩:=aae hord htop hlt fuel (t/(Region.ready .any ops listed).length) (listed.setIfInBounds i true) (by simp[hs]) (by omega)
   refine⟨List.nodup_cons.2 ⟨fun y=> ?_,k1⟩,fun j=> ?_,fun l x r e q hq=> ?_⟩
   ·have:=((k2 i).1 y).2
    rw[Dn (by rw[hs];exact h1),if_pos rfl] at this
    cases this
   ·rw[List.mem_cons,k2 j,Dn (by rw[hs];exact h1)]
    by_cases e:j=i
    ·subst e;simp[h1,h2]
    ·simp[e]
   ·cases l with
    |nil=>
     simp at e
     rw[<- e.1] at hq
     exact .inl (h3 q hq)
    |cons y l=>
     simp at e
     obtain⟨rfl,e⟩:=e
     rcases k3 l x r e q hq with z|z
     ·rw[Dn (by rw[hs];exact h1)] at z
      split at z
      ·rename_i e';exact .inr (by rw[e'];exact aee)
      ·exact .inl z
     ·exact .inr (aef _ z)
theorem XT{ops:Array Oper}{ord:List Nat}(hord:∀ i,i<ops.size->i∈ord)(htop:qV (uV ops.toList) [] ord)(hlt:∀ i,i<ops.size->∀ q∈uV ops.toList i,q<ops.size)(t:Nat):
  (Region.linearise .any ops t).Nodup∧(∀ i,i∈Region.linearise .any ops t↔i<ops.size)∧qV (uV ops.toList) [] (Region.linearise .any ops t):=by
 have h0:∀ i,i<ops.size->(Array.replicate ops.size false).getD i true=false:=fun i hi=>by simp[Array.getD,hi]
 obtain⟨k1,k2,k3⟩:=aae hord htop hlt ops.size t (Array.replicate ops.size false) (by simp) (by unfold sV;exact Nat.le_trans (List.length_filter_le _ _) (by simp))
 refine⟨k1,fun i=> ?_,fun l i r e q hq=> ?_⟩
 ·exact (k2 i).trans ⟨fun h=>h.1,fun h=>⟨h,h0 i h⟩⟩
 ·rcases k3 l i r e q hq with y|y
  ·exfalso
   have:(Array.replicate ops.size false).getD q false=false:=by
    simp[Array.getD]
   rw[this] at y;cases y
  ·exact .inr y
end Go.E
end
section
namespace Go.E
section
variable {qt:Nat->Bool} {all:List Oper}
theorem BH:∀ {a b:List Nat},within a b=true->∀ i∈a,i∈b
 |x::r,b,h,i,hi=>by
  have h:(dN x b&&within r b)=true:=h
  rw[Bool.and_eq_true] at h
  rcases List.mem_cons.1 hi with e|hi
  ·rw[e];exact eX.1 h.1
  ·exact BH h.2 i hi
theorem ED:∀ {a b:List Nat},meets a b=true->∃ i∈a,i∈b
 |x::r,b,h=>by
  have h:(dN x b||meets r b)=true:=h
  rw[Bool.or_eq_true] at h
  rcases h with h|h
  ·exact⟨x,aee,eX.1 h⟩
  ·obtain⟨i,h1,h2⟩:=ED h
   exact⟨i,aef _ h1,h2⟩
theorem Dp:∀ {n:Nat} {l:List Nat},below n l=true->∀ i∈l,i<n
 |n,x::r,h,i,hi=>by
  have h:(Nat.blt x n&&below n r)=true:=h
  rw[Bool.and_eq_true] at h
  rcases List.mem_cons.1 hi with e|hi
  ·rw[e];exact Nat.le_of_ble_eq_true h.1
  ·exact Dp h.2 i hi
theorem MF:∀ {ord:List (Nat×List Nat)} {i:Nat} {an:List Nat},nodup (idxs ord)=true->(i,an)∈ord->qg ord i=an
 |(j,l)::r,i,an,hn,h=>by
  have hn:(!dN j (idxs r)&&nodup (idxs r))=true:=hn
  rw[Bool.and_eq_true,Bool.not_eq_true'] at hn
  have mem:∀ {r:List (Nat×List Nat)} {i an},(i,an)∈r->i∈idxs r:=by
   intro r
   induction r with
   |nil=>intro i an h;cases h
   |cons p r ih=>
    intro i an h
    obtain⟨k,m⟩:=p
    rcases List.mem_cons.1 h with e|h
    ·cases e;exact aee
    ·exact aef _ (ih h)
  unfold qg
  show (match (bif Nat.beq j i then some l else look r i) with|some l=>l|none=>[])=an
  rcases List.mem_cons.1 h with e|h
  ·cases e;rw[Nat.beq_refl];rfl
  ·have hji:j≠i:=fun e=>by
    rw[e] at hn
    rw[eX.2 (mem h)] at hn;cases hn.1
   rw[cZ hji,cond_false]
   exact MF hn.2 h
theorem Jc{an:Nat->List Nat}:∀ {ord:List (Nat×List Nat)} {D:List Nat},V4 all ord D=true->(∀ p∈ord,an p.1=p.2)->qV an D (idxs ord)∧qV (uV all) D (idxs ord)
 |[],D,_,_=>⟨fun l i r e=>(by cases l<;>cases e),fun l i r e=>(by cases l<;>cases e)⟩
 |(j,aj)::ord,D,h,ha=>by
  have h:(within aj D&&within (uV all j) D&&V4 all ord (j::D))=true:=h
  rw[Bool.and_eq_true,Bool.and_eq_true] at h
  obtain⟨k1,k2⟩:=Jc h.2 fun p hp=>ha p (aef _ hp)
  have gen:∀ (f:Nat->List Nat),(∀ q∈f j,q∈D)->qV f (j::D) (idxs ord)->qV f D (j::idxs ord):=by
   intro f h1 h2 l i r e q hq
   cases l with
   |nil=>
    simp at e
    rw[<- e.1] at hq
    exact .inl (h1 q hq)
   |cons y l=>
    simp at e
    obtain⟨rfl,e⟩:=e
    rcases h2 l i r e q hq with z|z
    ·rcases List.mem_cons.1 z with z|z
     ·exact .inr (by rw[z];exact aee)
     ·exact .inl z
    ·exact .inr (aef _ z)
  refine⟨gen an (fun q hq=> ?_) k1,gen (uV all) (BH h.1.2) k2⟩
  rw[ha (j,aj) aee] at hq
  exact BH h.1.1 q hq
theorem Dq:∀ {l:List Nat},NI qt all l=true->Eager qt (uV all) l
 |[],_=>fun l b r e=>by cases l<;>cases e
 |x::l,h=>by
  have h:((qt x||Ik qt all (x::l) l)&&NI qt all l)=true:=h
  rw[Bool.and_eq_true,Bool.or_eq_true] at h
  intro la b r e hb p hp hqp
  cases la with
  |nil=>
   simp at e
   obtain⟨rfl,rfl⟩:=e
   rcases h.1 with h1|h1
   ·rw[h1] at hb;cases hb
   ·have:∀ (s:List Nat),Ik qt all (x::l) s=true->p∈s->∃ q∈uV all p,q∈x::l:=by
     intro s
     induction s with
     |nil=>intro _ hp;cases hp
     |cons y s ih=>
      intro hs hp
      have hs:((!qt y||meets (uV all y) (x::l))&&Ik qt all (x::l) s)=true:=hs
      rw[Bool.and_eq_true,Bool.or_eq_true,Bool.not_eq_true'] at hs
      rcases List.mem_cons.1 hp with e|hp
      ·subst e
       rcases hs.1 with z|z
       ·rw[hqp] at z;cases z
       ·exact ED z
      ·exact ih hs.2 hp
    exact this l h1 hp
  |cons y la=>
   simp at e
   obtain⟨rfl,e⟩:=e
   exact Dq h.2 la b r e hb p hp hqp
theorem WB{ord:List (Nat×List Nat)}:∀ {l:List Nat},anB all ord l=true->∀ i∈l,(∀ q∈qg ord i,q∈uV all i∨∃ j∈uV all i,q∈qg ord j)∧∀ q∈uV all i,q<all.length
 |x::l,h,i,hi=>by
  have h:(Zp all ord x (uV all x) (qg ord x)&&below all.length (uV all x)&&anB all ord l)=true:=h
  rw[Bool.and_eq_true,Bool.and_eq_true] at h
  rcases List.mem_cons.1 hi with e|hi
  ·subst e
   refine⟨?_,Dp h.1.2⟩
   have:∀ (s:List Nat),Zp all ord i (uV all i) s=true->∀ q∈s,q∈uV all i∨∃ j∈uV all i,q∈qg ord j:=by
    intro s
    induction s with
    |nil=>intro _ q hq;cases hq
    |cons y s ih=>
     intro hs q hq
     have hs:((dN y (uV all i)||(uV all i).any fun j=>dN y (qg ord j))&&Zp all ord i (uV all i) s)=true:=hs
     rw[Bool.and_eq_true,Bool.or_eq_true,List.any_eq_true] at hs
     rcases List.mem_cons.1 hq with e|hq
     ·subst e
      rcases hs.1 with z|⟨j,z1,z2⟩
      ·exact .inl (eX.1 z)
      ·exact .inr ⟨j,z1,eX.1 z2⟩
     ·exact ih hs.2 q hq
   exact this _ h.1.1
  ·exact WB h.2 i hi
theorem EF{d:Nat}{o:Option Nat}(h:NJ d o=true):o≠some d:=by
 intro e;subst e
 have h:(!Nat.beq d d)=true:=h
 rw[Nat.beq_refl] at h;cases h
theorem lH{d:Nat}{l:List Nat}(h:(!dN d l)=true):d∉l:=fun x=>by
 rw[eX.2 x] at h;cases h
theorem N9{p x:Oper}(h:NK all p x=true):FT all p x:=by
 unfold NK at h
 rw[Bool.and_eq_true] at h
 refine⟨fun d hd=> ?_,fun d hd=> ?_⟩
 ·have h1:=h.1
  rw[hd] at h1
  dsimp only at h1
  rw[Bool.and_eq_true,Bool.and_eq_true] at h1
  exact⟨lH h1.1.1,EF h1.1.2,EF h1.2⟩
 ·have h1:=h.2
  rw[hd] at h1
  dsimp only at h1
  rw[Bool.and_eq_true] at h1
  exact⟨lH h1.1,EF h1.2⟩
theorem Q9{ord:List (Nat×List Nat)}{idx:List Nat}:∀ {l:List Nat},aep qt all ord idx l=true->∀ p∈l,∀ x∈idx,p≠x->p∉qg ord x->x∉qg ord p->∀ op ox,nth all p=some op->nth all x=some ox->qt p=true->FT all op ox
 |y::l,h,p,hp,x,hx,hne,h1,h2,op,ox,hop,hox,hq=>by
  have h:((match nth all y with|some op=> !qt y||Zq all ord y op idx|none=>true)&&aep qt all ord idx l)=true:=h
  rw[Bool.and_eq_true] at h
  rcases List.mem_cons.1 hp with e|hp
  ·subst e
   have h3:=h.1
   rw[hop] at h3
   dsimp only at h3
   rw[hq,Bool.not_true,Bool.false_or] at h3
   have:∀ (s:List Nat),Zq all ord p op s=true->x∈s->FT all op ox:=by
    intro s
    induction s with
    |nil=>intro _ hx;cases hx
    |cons z s ih=>
     intro hs hx
     have hs:((Nat.beq p z||dN p (qg ord z)||dN z (qg ord p)||(match nth all z with|some ox=>NK all op ox|none=>true))&&Zq all ord p op s)=true:=hs
     rw[Bool.and_eq_true] at hs
     rcases List.mem_cons.1 hx with e|hx
     ·subst e
      have h4:=hs.1
      rw[cZ hne,zJ h1,zJ h2,hox] at h4
      exact N9 h4
     ·exact ih hs.2 hx
   exact this idx h3 hx
  ·exact Q9 h.2 p hp x hx hne h1 h2 op ox hop hox hq
theorem Rf:∀ {n:Nat} {l:List Nat},upTo n l=true->∀ i,i<n->i∈l
 |0,_,_,i,hi=>by omega
 |n+1,l,h,i,hi=>by
  have h:(dN n l&&upTo n l)=true:=h
  rw[Bool.and_eq_true] at h
  by_cases e:i=n
  ·rw[e];exact eX.1 h.1
  ·exact Rf h.2 i (by omega)
theorem zK{e:Nat}{s:List Nat}:∀ {l:List (List Nat)},s∈tails e l->e::s∈l
 |(x::t)::r,h=>by
  have h:s∈(bif Nat.beq x e then t::tails e r else tails e r):=h
  by_cases y:x=e
  ·subst y
   rw[Nat.beq_refl,cond_true] at h
   rcases List.mem_cons.1 h with z|z
   ·subst z;exact aee
   ·exact aef _ (zK z)
  ·rw[cZ y,cond_false] at h
   exact aef _ (zK h)
 |[]::r,h=>aef _ (zK (l:=r) h)
theorem Jd:∀ {l:List (List Nat)},TS l=true->[]∈l
 |[]::_,_=>aee
 |(_::_)::r,h=>aef _ (Jd (l:=r) h)
theorem cover{an:Nat->List Nat}:∀ (f:Nat) (Qz:List (List Nat)) (rem s:List Nat),Il an f Qz rem=true->s.Nodup->(∀ x,x∈s↔x∈rem)->(∀ l i r,s=l++i::r->∀ q∈an i,q∈rem->q∈l)->s∈Qz
 |0,_,_,_,h,_,_,_=>by cases h
 |f+1,Qz,rem,[],h,_,hm,_=>by
  have:rem=[]:=List.eq_nil_iff_forall_not_mem.2 fun x hx=>by have:=(hm x).2 hx;cases this
  subst this
  exact Jd h
 |f+1,Qz,rem,e::s,h,hn,hm,ht=>by
  have he:e∈rem:=(hm e).1 aee
  have hn':=List.nodup_cons.1 hn
  cases rem with
  |nil=>cases he
  |cons x rem=>
   have h:((x::rem).all fun e=>meets (an e) (x::rem)||Il an f (tails e Qz) (vX e (x::rem)))=true:=h
   have h1:=List.all_eq_true.1 h e he
   rw[Bool.or_eq_true] at h1
   rcases h1 with h1|h1
   ·obtain⟨q,q1,q2⟩:=ED h1
    have:=ht [] e s rfl q q1 q2
    cases this
   ·refine zK (cover f _ _ s h1 hn'.2 (fun y=> ?_) fun l i r e2 q hq hqr=> ?_)
    ·rw[qh, <- hm y,List.mem_cons]
     constructor
     ·intro hy;exact⟨.inr hy,fun z=>hn'.1 (by rw[<- z];exact hy)⟩
     ·rintro⟨z|z,w⟩
      ·exact absurd z w
      ·exact z
    ·rw[qh] at hqr
     rcases List.mem_cons.1 (ht (e::l) i r (by rw[e2];rfl) q hq hqr.1) with z|z
     ·exact absurd z hqr.2
     ·exact z
theorem BJ:∀ {l:List (List (Nat×List Nat))},Io qt all l=true->∀ o∈l,Qy qt all o=true
 |x::l,h,o,ho=>by
  have h:(Qy qt all x&&Io qt all l)=true:=h
  rw[Bool.and_eq_true] at h
  rcases List.mem_cons.1 ho with e|ho
  ·rw[e];exact h.1
  ·exact BJ h.2 o ho
theorem FY:∀ {l:List (List (Nat×List Nat))} {s:List Nat},s∈CV qt l->∃ o∈l,s=fD qt (idxs o)
 |x::l,s,h=>by
  rcases List.mem_cons.1 h with e|h
  ·exact⟨x,aee,e⟩
  ·obtain⟨o,h1,h2⟩:=FY h
   exact⟨o,aef _ h1,h2⟩
end
end Go.E
end
section
namespace Go.E
section
variable {qt:Nat->Bool} {all:List Oper}
theorem yH:∀ {σ l r:List Nat} {i:Nat},fD qt σ=l++i::r->∃ l' r',σ=l'++i::r'∧fD qt l'=l
 |[],l,r,i,h=>by
  have h:([]:List Nat)=l++i::r:=h
  cases l<;>cases h
 |x::σ,l,r,i,h=>by
  have h:(bif qt x then fD qt σ else x::fD qt σ)=l++i::r:=h
  cases hx:qt x with
  |true=>
   rw[hx,cond_true] at h
   obtain⟨l',r',h1,h2⟩:=yH h
   exact⟨x::l',r',by rw[h1];rfl,by show (bif qt x then _ else _)=_;rw[hx];exact h2⟩
  |false=>
   rw[hx,cond_false] at h
   cases l with
   |nil=>
    simp at h
    exact⟨[],σ,by rw[h.1];rfl,rfl⟩
   |cons y l=>
    simp at h
    obtain⟨e0,h0⟩:=h
    obtain⟨l',r',h1,h2⟩:=yH h0
    subst e0
    exact⟨x::l',r',by rw[h1];rfl,by show (bif qt x then _ else _)=_;rw[hx,cond_false,h2]⟩
theorem aeG{pr an:Nat->List Nat}{σ:List Nat}(h:qV pr [] σ)(ha:∀ i∈σ,∀ q∈an i,q∈pr i∨∃ j∈pr i,q∈an j):qV an [] σ:=by
 have:∀ (k:Nat) (l:List Nat),l.length=k->∀ i r,σ=l++i::r->∀ q∈an i,q∈l:=by
  intro k
  induction k using Nat.strongRecOn with
  | _ k ih=>
   intro l hk i r e q hq
   have hi:i∈σ:=by rw[e];simp
   have prl:∀ j∈pr i,j∈l:=fun j hj=>(h l i r e j hj).resolve_left (by simp)
   rcases ha i hi q hq with y|⟨j,y,z⟩
   ·exact prl q y
   ·obtain⟨la,lb,e2⟩:=List.append_of_mem (prl j y)
    have:=ih la.length (by rw[<- hk,e2];simp) la rfl j (lb++i::r) (by rw[e,e2];simp) q z
    rw[e2];exact adh.2 (.inl this)
 exact fun l i r e q hq=> .inr (this l.length l rfl i r e q hq)
structure WC (qt:Nat->Bool) (all:List Oper) (ord:List (Nat×List Nat)):Prop where
 nd:(idxs ord).Nodup
 lt:∀ i∈idxs ord,i<all.length
 full:∀ i,i<all.length->i∈idxs ord
 an:∀ p∈ord,qg ord p.1=p.2
 ana:qV (qg ord) [] (idxs ord)
 af9:qV (uV all) [] (idxs ord)
 eager:Eager qt (uV all) (idxs ord)
 anc:∀ i∈idxs ord,(∀ q∈qg ord i,q∈uV all i∨∃ j∈uV all i,q∈qg ord j)∧∀ q∈uV all i,q<all.length
 ind:∀ p∈idxs ord,∀ x∈idxs ord,p≠x->p∉qg ord x->x∉qg ord p->∀ op ox,nth all p=some op->nth all x=some ox->qt p=true->FT all op ox
theorem Rh{ord:List (Nat×List Nat)}(h:Qy qt all ord=true):WC qt all ord:=by
 unfold Qy at h
 simp only[Bool.and_eq_true] at h
 obtain⟨⟨⟨⟨⟨⟨h1,h2⟩,h3⟩,h4⟩,h5⟩,h6⟩,h7⟩:=h
 have nd:∀ {l:List Nat},nodup l=true->l.Nodup:=by
  intro l
  induction l with
  |nil=>intro _;exact List.nodup_nil
  |cons x r ih=>
   intro h
   have h:(!dN x r&&nodup r)=true:=h
   rw[Bool.and_eq_true] at h
   exact List.nodup_cons.2 ⟨lH h.1,ih h.2⟩
 have ha:∀ p∈ord,qg ord p.1=p.2:=fun p hp=>MF h1 hp
 obtain⟨t1,t2⟩:=Jc h4 ha
 exact⟨nd h1,Dp h2,Rf h3,ha,t1,t2,Dq h5,WB h6,Q9 h7⟩
theorem XU{ops:Array Oper}{nV:List (List (Nat×List Nat))}(h:V5 qt ops.toList nV=true)(t:Nat):
  ∃ ord∈nV,WC qt ops.toList ord∧IL qt ops.toList (qg ord) [] (idxs ord) (Region.linearise .any ops t):=by
 cases nV with
 |nil=>cases h
 |cons o r=>
  have h:(Io qt ops.toList (o::r)&&Il (qg o) (ops.toList.length+1) (CV qt (o::r)) (fD qt (idxs o)))=true:=h
  rw[Bool.and_eq_true] at h
  have ho:=Rh (BJ h.1 o aee)
  have hlen:ops.toList.length=ops.size:=Array.length_toList
  obtain⟨s1,s2,s3⟩:=XT (ops:=ops) (fun i hi=>ho.full i (by rw[hlen];exact hi)) ho.af9 (fun i hi q hq=>by rw[<- hlen];exact (ho.anc i (ho.full i (by rw[hlen];exact hi))).2 q hq) t
  have mem:∀ {ord},WC qt ops.toList ord->∀ x,x∈idxs ord↔x∈Region.linearise .any ops t:=fun {ord} k x=>by
   rw[s2]
   exact⟨fun y=>by rw[<- hlen];exact k.lt x y,fun y=>k.full x (by rw[hlen];exact y)⟩
  have tan:∀ {ord},WC qt ops.toList ord->qV (qg ord) [] (Region.linearise .any ops t):=fun {ord} k=>aeG s3 fun i hi=>(k.anc i ((mem k i).2 hi)).1
  have hin:fD qt (Region.linearise .any ops t)∈CV qt (o::r):=by
   refine cover _ _ _ _ h.2 (yu s1) (fun x=> ?_) fun l i rr e q hq hqr=> ?_
   ·rw[iJ,iJ,mem ho]
   ·obtain⟨l',r',e1,e2⟩:=yH e
    rcases tan ho l' i r' e1 q hq with y|y
    ·cases y
    ·rw[<- e2];exact iJ.2 ⟨y,(iJ.1 hqr).2⟩
  obtain⟨ord,hord,he⟩:=FY hin
  have hk:=Rh (BJ h.1 ord hord)
  refine⟨ord,hord,hk,⟨mem hk,hk.nd,s1,fun x _ y=>(by cases y),hk.lt,hk.ana,tan hk,s3,hk.af9,hk.eager,he.symm,?_⟩⟩
  intro p x h1 h2 h3 op ox hp hx hq
  have lt:∀ {i o},nth ops.toList i=some o->i<ops.toList.length:=fun {i o} hi=>by
   rw[Us] at hi
   rcases Nat.lt_or_ge i ops.toList.length with y|y
   ·exact y
   ·rw[List.getElem?_eq_none y] at hi;cases hi
  exact hk.ind p (hk.full p (lt hp)) x (hk.full x (lt hx)) h1 h2 h3 op ox hp hx hq
end
end Go.E
end
section
namespace Go.E
section
variable {C:kC} {Rc:ah} {R:Type} {Rt:St->Option R} {fin:List AV->St->Option R} {all:List Oper} {base:Nat}
def uK(s:St):AS:=⟨s.cur.tm,s.objs,s.aG,s.callers⟩
theorem aaf{tm:List (Nat×AV)}{o:Oper}:(wanted all tm o=some .yes->kS all tm o=some true)∧(wanted all tm o=some .no->kS all tm o=some false)∧
  ∀ d b w,wanted all tm o=some (.hang d b w)->look tm d=some (.bool b)∧kS all tm o=some (b==w):=by
 unfold wanted kS gslot
 cases o.guard with
 |none=>exact⟨fun _=>rfl,fun h=>(by cases h),fun d b w h=>(by cases h)⟩
 |some g=>
  obtain⟨j,w'⟩:=g
  dsimp only
  cases nth all j with
  |none=>exact⟨fun h=>(by cases h),fun h=>(by cases h),fun d b w h=>(by cases h)⟩
  |some oj=>
   dsimp only
   cases oj.dst with
   |none=>exact⟨fun h=>(by cases h),fun h=>(by cases h),fun d b w h=>(by cases h)⟩
   |some d=>
    dsimp only
    cases hl:look tm d with
    |none=>exact⟨fun h=>(by cases h),fun h=>(by cases h),fun d b w h=>(by cases h)⟩
    |some v=>
     cases v<;>first
      |exact⟨fun h=>(by cases h),fun _=>rfl,fun d b w h=>(by cases h)⟩
      |exact⟨fun h=>(by cases h),fun h=>(by cases h),fun d' b w h=>(by cases h;exact⟨hl,rfl⟩)⟩
      |exact⟨fun h=>(by cases h),fun h=>(by cases h),fun d b w h=>(by cases h)⟩
theorem vJ{E:Env}{tm:List (Nat×AV)}{tmps:Array Value}{ops:Array Oper}{o:Oper}{b:Bool}(ht:kD E tm tmps)(hops:ops.toList.all (qA tmps.size)=true)(h:kS ops.toList tm o=some b):Region.wanted o (yielded ops tmps)=b:=by
 obtain⟨w1,w2,w3⟩:=QK (o:=o) ht hops
 have:(b=true∧wanted ops.toList tm o=some .yes)∨(b=false∧wanted ops.toList tm o=some .no)∨∃ d b' w,wanted ops.toList tm o=some (.hang d b' w)∧b=(b'==w):=by
  unfold kS gslot at h
  unfold wanted
  cases hg:o.guard with
  |none=>rw[hg] at h;cases h;exact .inl ⟨rfl,rfl⟩
  |some g=>
   obtain⟨j,w'⟩:=g
   rw[hg] at h
   dsimp only at h⊢
   cases hn:nth ops.toList j with
   |none=>rw[hn] at h;cases h
   |some oj=>
    rw[hn] at h
    dsimp only at h⊢
    cases hd:oj.dst with
    |none=>rw[hd] at h;cases h
    |some d=>
     rw[hd] at h
     dsimp only at h⊢
     cases hl:look tm d with
     |none=>rw[hl] at h;cases h
     |some v=>
      rw[hl] at h
      cases v<;>first
       |(cases h;done)
       |(cases h;exact .inr (.inl ⟨rfl,rfl⟩))
       |(cases h;exact .inr (.inr ⟨_,_,_,rfl,rfl⟩))
 rcases this with ⟨rfl,e⟩|⟨rfl,e⟩|⟨d,b',w,e,rfl⟩
 ·exact w2 e
 ·exact w3 e
 ·exact (w1 e).2
theorem MG{a a2 b:AS}{i:Nat}{rd:Rd}{wt:Option (List Nat×List Nat×Nat)}(h:oV C Rc all base a i b rd wt)(ht:look a2.tm=look a.tm)(hO:∀ j,look a2.O j=look a.O j)(hn:a2.aG=a.aG)(hc:a2.cs=a.cs):oV C Rc all base a2 i b rd wt:=by
 have he:∀ (l:List Operand),∀ y∈l,ev a2.tm y=ev a.tm y:=fun l=>N7 fun t _=>by rw[ht]
 have hw:∀ o,kS all a2.tm o=kS all a.tm o:=fun o=>sQ fun d _=>by rw[ht]
 cases h with
 |quiet h1 h2 h3 h4 h5 h6 h7 h8=>
  rename_i o v
  rw[<- BD (he _) (fun i _=>hO i), <- sU (he _)]
  exact .quiet h1 ((hw _).trans h2) h3 (BF h4 (he _) fun i _=>hO i) (by rw[ht];exact h5) (fun j=>by rw[hO];exact h6 j) (h7.trans hn.symm) (h8.trans hc.symm)
 |new h1 h2 h3 h4 h4a h4b h5 h6 h7 h8=>
  rename_i o v ao
  have hB:jg a2.O (fE a.tm (opers o.op))=jg a.O (fE a.tm (opers o.op)):=sS fun i _=>hO i
  rw[<- hB, <- oD (he _), <- vI (he _)]
  exact .new h1 ((hw _).trans h2) h3 (Ja h4 (he _) fun i _=>hO i) ((hO _).trans h4a) (by rw[hn];exact h4b) (by rw[ht];exact h5) (fun j=>by rw[hO];exact h6 j) (h7.trans hn.symm) (h8.trans hc.symm)
 |act h1 h2 h3 h3n hg h4 h5 h6 h7 h8=>
  rename_i o v pre eY es
  rw[<- Bz (he _) (fun i _=>hO i), <- Bv (he _) (fun i _=>hO i), <- hn]
  rw[<- hn] at h4
  exact .act h1 ((hw _).trans h2) h3 h3n ((Mc (he _)).trans hg) (L9 h4 (he _) fun i _=>hO i) (by rw[ht];exact h5) (fun j=>by rw[h6,bT,iR,bT,iR,hO]) h7 (by rw[hc];exact h8)
 |pass h1 h2 h3 h4 h5 h6=>exact .pass h1 ((hw _).trans h2) (by rw[ht];exact h3) (fun j=>by rw[hO];exact h4 j) (h5.trans hn.symm) (h6.trans hc.symm)
theorem Ut{a a2 c:AS}{l:List Nat}{tr:List XR}(h:nH C Rc all base a l c tr)(ht:look a2.tm=look a.tm)(hO:∀ j,look a2.O j=look a.O j)(hn:a2.aG=a.aG)(hc:a2.cs=a.cs):∃ c2,nH C Rc all base a2 l c2 tr∧look c2.tm=look c.tm∧(∀ j,look c2.O j=look c.O j)∧c2.aG=c.aG∧c2.cs=c.cs:=by
 cases h with
 |nil=>exact⟨a2,.nil,ht,hO,hn,hc⟩
 |cons h1 h2=>exact⟨c,.cons (MG h1 ht hO hn hc) h2,rfl,fun _=>rfl,rfl,rfl⟩
theorem aag{tm:List (Nat×AV)}{O:bn}{aG:Nat}{o:Oper}{K:KK R}{r:R}(h:fP C Rc tm O aG o K=some r):QV C tm o=false:=by
 have key:∀ {g:FuncId} {vs:List AV},callee C tm o.op=some (g,vs)->∃ s,look C.sig g=some s:=by
  intro g vs hc
  obtain⟨dst,op,ty,pos,aft,guard⟩:=o
  have hA:∀ {A:Option R},(A=match callee C tm op with
   |some (g,vs)=>match look C.sig g with
    |some s=>qH Rc g s O aG vs K
    |none=>none
   |none=>none)->A=some r->∃ s,look C.sig g=some s:=by
   intro A e h
   rw[e] at h
   have hc:callee C tm op=some (g,vs):=hc
   rw[hc] at h
   dsimp only at h
   split at h
   ·rename_i s hs;exact⟨s,hs⟩
   ·cases h
  cases op with
  |call c=>
   obtain⟨cal,args,tys⟩:=c
   cases cal with
   |builtin b=>cases hc
   |value f=>exact hA rfl h
   |invoke x m=>exact hA rfl h
  | _=>cases hc
 unfold QV
 split
 ·rename_i g vs hc
  obtain⟨s,hs⟩:=key hc
  rw[hs]
 ·rfl
theorem aah{s:St}{o:Oper}(h:QV C s.cur.tm o=false):V3 C s o=none:=by
 unfold V3
 unfold QV at h
 split
 ·rename_i g vs hc
  rw[hc] at h
  dsimp only at h
  cases hs:look C.sig g with
  |none=>rw[hs] at h;cases h
  |some s=>rfl
 ·rfl
theorem yI(s:St)(dst:Option Nat)(td:List It)(v:AV)(O1:bn)(eY:Nat)(es:List Eff):look (uK (after s dst td v O1 eY es)).tm=ru dst v (GU es (look s.cur.tm))∧(uK (after s dst td v O1 eY es)).O=dw es O1∧(uK (after s dst td v O1 eY es)).aG=eY∧
  (uK (after s dst td v O1 eY es)).cs=jG es s.callers:=by
 have aai:jG [] s.callers=s.callers:=by
  unfold jG
  induction s.callers with
  |nil=>rfl
  |cons a q ih=>simp[jU]
 cases es with
 |nil=>exact⟨by rw[jX];exact nP dst v _,rfl,rfl,aai.symm⟩
 |cons e r=>
  refine⟨?_,rfl,rfl,rfl⟩
  show look (putDst dst v (jU (e::r) s.cur.tm))=_
  rw[nP,L8]
theorem yJ(s:St)(dst:Option Nat)(td:List It)(v:AV)(O1:bn)(eY:Nat)(es:List Eff):(after s dst td v O1 eY es).cur.td=td∧(after s dst td v O1 eY es).cur.fn=s.cur.fn∧(after s dst td v O1 eY es).bx=s.bx:=by
 cases es<;>exact⟨rfl,rfl,rfl⟩
theorem vK:∀ {a b:List Nat},apart a b=true->∀ i∈a,i∉b
 |x::s,b,h,i,hi=>by
  have h:(!dN x b&&apart s b)=true:=h
  rw[Bool.and_eq_true] at h
  rcases List.mem_cons.1 hi with e|hi
  ·rw[e];exact lH h.1
  ·exact vK h.2 i hi
abbrev W:=Nat×List Nat×List Nat×List Nat
theorem FZ{aG:Nat}{wt ef an:List Nat}:∀ {l:List W},CJ aG wt ef an l=true->∀ p∈l,p.1∉an->(∀ j∈p.2.1,j∉ef)∧∀ j∈p.2.2.1,j<aG∧j∉wt
 |(q,ks,rs,ns)::r,h,p,hp,hpa=>by
  have h:(((apart ks ef&&(below aG rs&&apart rs wt))||dN q an)&&CJ aG wt ef an r)=true:=h
  rw[Bool.and_eq_true,Bool.or_eq_true,Bool.and_eq_true,Bool.and_eq_true] at h
  rcases List.mem_cons.1 hp with e|hp
  ·subst e
   rcases h.1 with z|z
   ·exact⟨vK z.1,fun j hj=>⟨Dp z.2.1 j hj,vK z.2.2 j hj⟩⟩
   ·exact absurd (eX.1 z) hpa
  ·exact FZ h.2 p hp hpa
theorem zL{lk an:List Nat}:∀ {l:List W},CO lk an l=true->∀ p∈l,p.1∉an->∀ j∈p.2.2.2,j∉lk
 |(q,ks,rs,ns)::r,h,p,hp,hpa=>by
  have h:((apart ns lk||dN q an)&&CO lk an r)=true:=h
  rw[Bool.and_eq_true,Bool.or_eq_true] at h
  rcases List.mem_cons.1 hp with e|hp
  ·subst e
   rcases h.1 with z|z
   ·exact vK z
   ·exact absurd (eX.1 z) hpa
  ·exact zL h.2 p hp hpa
theorem Je{ns an:List Nat}:∀ {l:List W},unread ns an l=true->∀ p∈l,p.1∉an->∀ j∈ns,j∉p.2.2.1
 |(q,ks,rs,ns')::r,h,p,hp,hpa=>by
  have h:((dN q an||apart ns rs)&&unread ns an r)=true:=h
  rw[Bool.and_eq_true,Bool.or_eq_true] at h
  rcases List.mem_cons.1 hp with e|hp
  ·subst e
   rcases h.1 with z|z
   ·exact absurd (eX.1 z) hpa
   ·exact vK z
  ·exact Je h.2 p hp hpa
theorem F5{wt:List Nat}:∀ {l:List (Nat×List Nat)},CP base wt l=true->∀ q∈idxs l,base+q∉wt
 |(x,_)::r,h,q,hq=>by
  have h:(!dN (base+x) wt&&CP base wt r)=true:=h
  rw[Bool.and_eq_true] at h
  rcases List.mem_cons.1 hq with e|hq
  ·rw[e];exact lH h.1
  ·exact F5 h.2 q hq
def aaj(p:W):Rd:=⟨p.2.1,p.2.2.1,p.2.2.2,[]⟩
def Like(c:AS)(s:St):Prop:=look c.tm=look s.cur.tm∧(∀ j,look c.O j=look s.objs j)∧c.aG=s.aG∧c.cs=s.callers
def Uu(C:kC)(Rc:ah)(Rt:St->Option R)(fin:List AV->St->Option R)(all:List Oper)(pins:Option (List Nat))(k:List It)(r:R)(rest pre:List (Nat×List Nat))(s':St)(m:Nat):Prop:=
 (rest=pre∧jf C Rc Rt fin m false (qc s' k)=some r)∨
 ∃ i ai post o g vs body,rest=pre++(i,ai)::post∧nth all i=some o∧kS all s'.cur.tm o=some true∧V3 C s' o=some (g,vs,body)∧Zl pins all i ai post=true∧
  jf C Rc Rt fin m false {s' with cur:={fn:=g,tm:=uU vs 0,td:=[.code body]},callers:={s'.cur with td:= .wait (ag9 pins) all i post::k}::s'.callers}=some r
theorem Uu.cons{pins:Option (List Nat)}{k:List It}{r:R}{rest pre:List (Nat×List Nat)}{s':St}{m:Nat}{x:Nat×List Nat}(h:Uu C Rc Rt fin all pins k r rest pre s' m):Uu C Rc Rt fin all pins k r (x::rest) (x::pre) s' m:=by
 rcases h with ⟨e,h⟩|⟨i,ai,post,o,g,vs,body,e,h⟩
 ·exact .inl ⟨by rw[e],h⟩
 ·exact .inr ⟨i,ai,post,o,g,vs,body,by rw[e];rfl,h⟩
theorem F6(an:Nat->List Nat){pins:Option (List Nat)}{k:List It}:∀ (n:Nat) (rest:List (Nat×List Nat)) (s:St) (watch:List W) (r:R),s.cur.td= .drawn pins all rest watch base::k->jf C Rc Rt fin n false s=some r->(∀ p∈rest,an p.1=p.2)->(idxs rest).Nodup->(∀ q∈idxs rest,look s.objs (base+q)=none∧base+q<s.aG)->
  ∃ (pre:List (Nat×List Nat)) (c:AS) (s':St) (tr:List XR) (m:Nat),nH C Rc all base (uK s) (idxs pre) c tr∧Like c s'∧Fine an tr∧(∀ p∈watch,∀ e∈tr,BG an (p.1,aaj p,none) e)∧m<n∧Uu C Rc Rt fin all pins k r rest pre s' m∧s'.cur.fn=s.cur.fn∧s'.bx=s.bx
 |0,rest,s,watch,r,htd,hr,_,_,_=>by cases hr
 |n+1,[],s,watch,r,htd,hr,_,_,_=>by
  unfold jf at hr
  rw[htd] at hr
  dsimp only at hr
  exact⟨[],uK s,s,[],n,.nil,⟨rfl,fun _=>rfl,rfl,rfl⟩,List.Pairwise.nil,fun _ _ e he=>(by cases he),Nat.lt_succ_self n,.inl ⟨rfl,hr⟩,rfl,rfl⟩
 |n+1,(i,ai)::rest,s,watch,r,htd,hr,han,hnd,hfr=>by
  unfold jf at hr
  rw[htd] at hr
  dsimp only at hr
  have hai:an i=ai:=han (i,ai) aee
  have anb:∀ p∈rest,an p.1=p.2:=fun p hp=>han p (aef _ hp)
  have hnd':i∉idxs rest∧(idxs rest).Nodup:=List.nodup_cons.1 hnd
  have aeH:∀ q∈idxs rest,look s.objs (base+q)=none∧base+q<s.aG:=fun q hq=>hfr q (aef _ hq)
  split at hr
  ·cases hr
  ·rename_i o ho
   have done:∀ (s2 s3:St) (rd:Rd) (wt:Option (List Nat×List Nat×Nat)) (Jf:List W),s3.cur.td= .drawn pins all rest Jf base::k->jf C Rc Rt fin n false s3=some r->look s2.cur.tm=look s.cur.tm->s2.objs=s.objs->s2.aG=s.aG->s2.callers=s.callers->s3.cur.fn=s.cur.fn->s3.bx=s.bx->
     oV C Rc all base (uK s2) i (uK s3) rd wt->(∀ q∈idxs rest,look s3.objs (base+q)=none∧base+q<s3.aG)->(∀ p∈watch,p∈Jf)->(rd.keeps=[]∧rd.reads=[]∧rd.news=[]∨(i,rd.keeps,rd.reads,rd.news)∈Jf)->
     (∀ p∈watch,BG an (p.1,aaj p,none) (i,rd,wt))->
     ∃ (pre:List (Nat×List Nat)) (c:AS) (s':St) (tr:List XR) (m:Nat),nH C Rc all base (uK s) (idxs pre) c tr∧Like c s'∧Fine an tr∧(∀ p∈watch,∀ e∈tr,BG an (p.1,aaj p,none) e)∧m<n+1∧Uu C Rc Rt fin all pins k r ((i,ai)::rest) pre s' m∧s'.cur.fn=s.cur.fn∧s'.bx=s.bx:=by
    intro s2 s3 rd wt Jf d1 hr3 t1 t2 t3 t4 t5 t6 hst hfr3 hsub hin ahp
    obtain⟨pre,c,s',tr,m,k1,kl,k2,k3,k4,k5,k6,k7⟩:=F6 an n rest s3 Jf r d1 hr3 anb hnd'.2 hfr3
    refine⟨(i,ai)::pre,c,s',(i,rd,wt)::tr,m,.cons (MG hst (a2:=uK s) t1.symm (fun j=>by show look s.objs j=look s2.objs j;rw[t2]) t3.symm t4.symm) k1,kl,List.pairwise_cons.2 ⟨fun e he=> ?_,k2⟩,fun p hp e he=> ?_,Nat.lt_succ_of_lt k4,k5.cons,k6.trans t5,k7.trans t6⟩
    ·intro hpa
     rcases hin with ⟨e1,e2,e3⟩|hin
     ·exact⟨fun j hj=>(by rw[e3] at hj;cases hj),fun j _ y=>(by rw[e2] at y;cases y),fun w f nn _=>⟨fun j hj=>(by rw[e1] at hj;cases hj),fun j hj=>(by rw[e2] at hj;cases hj)⟩⟩
     ·obtain⟨f1,f2,f3⟩:=k3 _ hin e he hpa
      exact⟨f1,f2,f3⟩
    ·rcases List.mem_cons.1 he with z|he
     ·subst z;exact ahp p hp
     ·exact k3 p (hsub p hp) e he
   have t0:∀ d b,look s.cur.tm d=some (.bool b)->look (know s d b).cur.tm=look s.cur.tm:=fun d b hb=>by
    funext t
    show (bif Nat.beq d t then some (AV.bool b) else look s.cur.tm t)=_
    by_cases e:d=t
    ·subst e;rw[Nat.beq_refl,hb];rfl
    ·rw[cZ e];rfl
   have go:∀ s2:St,look s2.cur.tm=look s.cur.tm->s2.objs=s.objs->s2.aG=s.aG->s2.callers=s.callers->s2.cur.fn=s.cur.fn->s2.bx=s.bx->kS all s.cur.tm o=some true->
     (bif Ah C o then bif CO (fE s2.cur.tm (opers o.op)) ai watch&&unread [base+i] ai watch then fP C Rc s2.cur.tm s2.objs (base+i) o fun v O _ iP=>match iP with
       |[]=>jf C Rc Rt fin n false (after s2 o.dst (.drawn pins all rest ((i,(base+i)::(v.kids++(kW s2.cur.tm (opers o.op)++(jg s2.objs (fE s2.cur.tm (opers o.op))++Hf O (base+i)))),(base+i)::fE s2.cur.tm (opers o.op),[base+i])::watch) base::k) v O s2.aG [])
       | _=>none
      else none
     else bif quiet C o then bif CO (dJ s2.cur.tm o) ai watch then fP C Rc s2.cur.tm s2.objs s2.aG o fun v O aG iP=>jf C Rc Rt fin n false (after s2 o.dst (.drawn pins all rest ((i,qN s2.cur.tm s2.objs o v,dJ s2.cur.tm o,[])::watch) base::k) v O aG iP)
      else none
     else bif CO (kH s2.cur.tm s2.objs o) ai watch&& !Qu o then match V3 C s2 o with
       |some (g,vs,body)=>bif Zl pins all i ai rest then jf C Rc Rt fin n false {s2 with cur:={fn:=g,tm:=uU vs 0,td:=[.code body]},callers:={s2.cur with td:= .wait (ag9 pins) all i rest::k}::s2.callers} else none
       |none=>fP C Rc s2.cur.tm s2.objs s2.aG o fun v O aG iP=>
        bif CJ s2.aG (touched C s2.cur.tm s2.objs o) (jT iP) ai watch&&CP base (touched C s2.cur.tm s2.objs o++jT iP) rest then jf C Rc Rt fin n false (after s2 o.dst (.drawn pins all rest watch base::k) v O aG iP) else none
      else none)=some r->
     ∃ (pre:List (Nat×List Nat)) (c:AS) (s':St) (tr:List XR) (m:Nat),nH C Rc all base (uK s) (idxs pre) c tr∧Like c s'∧Fine an tr∧(∀ p∈watch,∀ e∈tr,BG an (p.1,aaj p,none) e)∧m<n+1∧Uu C Rc Rt fin all pins k r ((i,ai)::rest) pre s' m∧s'.cur.fn=s.cur.fn∧s'.bx=s.bx:=by
    intro s2 t1 t2 t3 t4 t5 t6 hw hr
    have hw2:kS all s2.cur.tm o=some true:=(sQ fun d _=>by rw[t1]).trans hw
    cases hn:Ah C o with
    |true=>
     rw[hn,cond_true] at hr
     obtain⟨hb,hr⟩:=fC hr
     rw[Bool.and_eq_true] at hb
     obtain⟨v,ao,es,h1,h2⟩:=L6 (WA hn) hr
     cases es with
     |cons _ _=>cases h1
     |nil=>
      dsimp only at h1
      have hlo:look ((base+i,ao)::s2.objs) (base+i)=some ao:=by show (bif Nat.beq (base+i) (base+i) then some ao else _)=_;rw[Nat.beq_refl];rfl
      have hni:Hf ((base+i,ao)::s2.objs) (base+i)=yE ao:=by unfold Hf;rw[hlo];cases ao<;>rfl
      rw[hni] at h1
      obtain⟨d1,d2,d3⟩:=yJ s2 o.dst (.drawn pins all rest ((i,(base+i)::(v.kids++(kW s2.cur.tm (opers o.op)++(jg s2.objs (fE s2.cur.tm (opers o.op))++yE ao))),(base+i)::fE s2.cur.tm (opers o.op),[base+i])::watch) base::k) v ((base+i,ao)::s2.objs) s2.aG []
      obtain⟨a1,a2,a3,a4⟩:=yI s2 o.dst (.drawn pins all rest ((i,(base+i)::(v.kids++(kW s2.cur.tm (opers o.op)++(jg s2.objs (fE s2.cur.tm (opers o.op))++yE ao))),(base+i)::fE s2.cur.tm (opers o.op),[base+i])::watch) base::k) v ((base+i,ao)::s2.objs) s2.aG []
      have ajk:=hfr i aee
      have lk:∀ j,look ((base+i,ao)::s2.objs) j=if j=base+i then some ao else look s2.objs j:=fun j=>by
       show (bif Nat.beq (base+i) j then some ao else look s2.objs j)=_
       by_cases e:j=base+i
       ·subst e;simp
       ·rw[cZ fun z=>e z.symm,if_neg e];rfl
      refine done s2 _ ⟨(base+i)::(v.kids++(kW s2.cur.tm (opers o.op)++(jg s2.objs (fE s2.cur.tm (opers o.op))++yE ao))),(base+i)::fE s2.cur.tm (opers o.op),[base+i],fE s2.cur.tm (opers o.op)⟩ none _ d1 h1 t1 t2 t3 t4 (d2.trans t5) (d3.trans t6)
       (.new (a:=uK s2) ho hw2 hn h2 (by show look s2.objs _=none;rw[t2];exact ajk.1) (by show _<s2.aG;rw[t3];exact ajk.2) (by rw[a1,jX];rfl) (fun j=>by rw[a2];exact lk j) a3 rfl) (fun q hq=> ?_) (fun p hp=>aef _ hp) (.inr aee) fun p hp hpa=>⟨zL hb.1 p hp (by rw[<- hai];exact hpa),Je hb.2 p hp (by rw[<- hai];exact hpa),fun w f nn e=>by cases e⟩
      ·have:q≠i:=fun e=>hnd'.1 (by rw[<- e];exact hq)
       show look ((base+i,ao)::s2.objs) (base+q)=none∧base+q<s2.aG
       rw[lk,if_neg (by omega),t2,t3];exact aeH q hq
    |false=>
     rw[hn,cond_false] at hr
     cases hq:quiet C o with
     |true=>
      rw[hq,cond_true] at hr
      obtain⟨hb,hr⟩:=fC hr
      obtain⟨v,h1,h2⟩:=QO hq hr
      obtain⟨d1,d2,d3⟩:=yJ s2 o.dst (.drawn pins all rest ((i,qN s2.cur.tm s2.objs o v,dJ s2.cur.tm o,[])::watch) base::k) v s2.objs s2.aG []
      obtain⟨a1,a2,a3,a4⟩:=yI s2 o.dst (.drawn pins all rest ((i,qN s2.cur.tm s2.objs o v,dJ s2.cur.tm o,[])::watch) base::k) v s2.objs s2.aG []
      refine done s2 _ ⟨qN s2.cur.tm s2.objs o v,dJ s2.cur.tm o,[],dJ s2.cur.tm o⟩ none _ d1 h1 t1 t2 t3 t4 (d2.trans t5) (d3.trans t6)
       (.quiet (a:=uK s2) ho hw2 hq h2 (by rw[a1,jX];rfl) (fun j=>by rw[a2];rfl) a3 rfl) (fun q hq=>by show look s2.objs _=none∧_<s2.aG;rw[t2,t3];exact aeH q hq) (fun p hp=>aef _ hp) (.inr aee) fun p hp hpa=>⟨zL hb p hp (by rw[<- hai];exact hpa),fun j hj=>(by cases hj),fun w f nn e=>by cases e⟩
     |false=>
      rw[hq,cond_false] at hr
      obtain⟨hb0,hr⟩:=fC hr
      rw[Bool.and_eq_true] at hb0
      obtain⟨hb,hmo⟩:=hb0
      have hmo:Qu o=false:=by simpa using hmo
      split at hr
      ·rename_i g vs body XV
       obtain⟨hc,hr⟩:=fC hr
       exact⟨[],uK s,s2,[],n,.nil,⟨t1.symm,fun j=>(by rw[t2];rfl),t3.symm,t4.symm⟩,List.Pairwise.nil,fun _ _ e he=>(by cases he),Nat.lt_succ_self n,.inr ⟨i,ai,rest,o,g,vs,body,rfl,ho,hw2,XV,hc,hr⟩,t5,t6⟩
      ·obtain⟨v,pre,eY,es,h1,h2⟩:=aeF hmo hq hr
       obtain⟨hwo,h1⟩:=fC h1
       rw[Bool.and_eq_true] at hwo
       obtain⟨d1,d2,d3⟩:=yJ s2 o.dst (.drawn pins all rest watch base::k) v (pre++s2.objs) eY es
       obtain⟨a1,a2,a3,a4⟩:=yI s2 o.dst (.drawn pins all rest watch base::k) v (pre++s2.objs) eY es
       refine done s2 _ ⟨[],[],[],kH s2.cur.tm s2.objs o⟩ (some (touched C s2.cur.tm s2.objs o,jT es,s2.aG)) _ d1 h1 t1 t2 t3 t4 (d2.trans t5) (d3.trans t6)
        (.act (a:=uK s2) ho hw2 hq hn (aag hr) h2 a1 (fun j=>by rw[a2];rfl) a3 a4) (fun q hq'=> ?_) (fun p hp=>hp) (.inl ⟨rfl,rfl,rfl⟩) fun p hp hpa=>⟨zL hb p hp (by rw[<- hai];exact hpa),fun j hj=>(by cases hj),fun w f nn e=> ?_⟩
       ·have hc:=F5 hwo.2 q hq'
        have hf:=aeH q hq'
        have h3:look (uK (after s2 o.dst (.drawn pins all rest watch base::k) v (pre++s2.objs) eY es)).O (base+q)=none:=by
         rw[a2,bT,if_neg fun y=>hc (adh.2 (.inr (lG y))),iR,h2.frame _ (by rw[t3];exact hf.2) fun y=>hc (adh.2 (.inl y))]
         dsimp only
         rw[t2,hf.1];rfl
        have h4:(uK (after s2 o.dst (.drawn pins all rest watch base::k) v (pre++s2.objs) eY es)).aG=eY:=a3
        refine⟨h3,?_⟩
        show _<(uK (after s2 o.dst (.drawn pins all rest watch base::k) v (pre++s2.objs) eY es)).aG
        rw[h4]
        exact Nat.lt_of_lt_of_le (by rw[t3];exact hf.2) h2.le
       ·cases e
        exact FZ hwo.1 p hp (by rw[<- hai];exact hpa)
   have pass:∀ s2:St,look s2.cur.tm=look s.cur.tm->s2.objs=s.objs->s2.aG=s.aG->s2.callers=s.callers->s2.cur.fn=s.cur.fn->s2.bx=s.bx->kS all s.cur.tm o=some false->
     jf C Rc Rt fin n false (after s2 o.dst (.drawn pins all rest watch base::k) .undef s2.objs s2.aG [])=some r->
     ∃ (pre:List (Nat×List Nat)) (c:AS) (s':St) (tr:List XR) (m:Nat),nH C Rc all base (uK s) (idxs pre) c tr∧Like c s'∧Fine an tr∧(∀ p∈watch,∀ e∈tr,BG an (p.1,aaj p,none) e)∧m<n+1∧Uu C Rc Rt fin all pins k r ((i,ai)::rest) pre s' m∧s'.cur.fn=s.cur.fn∧s'.bx=s.bx:=by
    intro s2 t1 t2 t3 t4 t5 t6 hw hr
    have hw2:kS all s2.cur.tm o=some false:=(sQ fun d _=>by rw[t1]).trans hw
    obtain⟨d1,d2,d3⟩:=yJ s2 o.dst (.drawn pins all rest watch base::k) .undef s2.objs s2.aG []
    obtain⟨a1,a2,a3,a4⟩:=yI s2 o.dst (.drawn pins all rest watch base::k) .undef s2.objs s2.aG []
    exact done s2 _ ⟨[],[],[],[]⟩ none _ d1 hr t1 t2 t3 t4 (d2.trans t5) (d3.trans t6) (.pass (a:=uK s2) ho hw2 (by rw[a1,jX];rfl) (fun j=>by rw[a2];rfl) a3 rfl)
     (fun q hq=>by show look s2.objs _=none∧_<s2.aG;rw[t2,t3];exact aeH q hq) (fun p hp=>hp) (.inl ⟨rfl,rfl,rfl⟩) fun p hp hpa=>⟨fun j _ y=>(by cases y),fun j hj=>(by cases hj),fun w f nn e=>by cases e⟩
   obtain⟨w1,w2,w3⟩:=aaf (all:=all) (tm:=s.cur.tm) (o:=o)
   split at hr
   ·rename_i hw
    exact go s rfl rfl rfl rfl rfl rfl (w1 hw) hr
   ·rename_i hw
    exact pass s rfl rfl rfl rfl rfl rfl (w2 hw) hr
   ·rename_i d b hw
    obtain⟨hb,hB⟩:=w3 d b true hw
    cases b with
    |true=>exact go (know s d true) (t0 d true hb) rfl rfl rfl rfl rfl hB hr
    |false=>exact pass (know s d false) (t0 d false hb) rfl rfl rfl rfl rfl hB hr
   ·rename_i d b hw
    obtain⟨hb,hB⟩:=w3 d b false hw
    cases b with
    |true=>exact pass (know s d true) (t0 d true hb) rfl rfl rfl rfl rfl hB hr
    |false=>exact go (know s d false) (t0 d false hb) rfl rfl rfl rfl rfl hB hr
   ·cases hr
end
end Go.E
end
section
namespace Go.E
section
variable {P:Program} {main:Bool} {Rl:Ow->World->World->Prop} {C:kC} {Rc:ah} {R:Type} {X:Ctx} {cs0:List Frame} {Stop:R->Ow->Frame->List Frame->World->Prop} {Rt:St->Option R} {fin:List AV->St->Option R}
theorem MH{S:Ow->Frame->List Frame->World->Prop}{s s':St}(h:Goes P main Rl X cs0 S s')(ht:look s.cur.tm=look s'.cur.tm)(hf:s.cur.fn=s'.cur.fn)(htd:s.cur.td=s'.cur.td)(hO:∀ j,look s'.objs j=look s.objs j)(hn:s.aG=s'.aG)(hc:s.callers=s'.callers)(hb:s.bx=s'.bx):Goes P main Rl X cs0 S s:=by
 intro o E fr cs k
 obtain⟨h1,h2⟩:=k.ok.zy (O':=s'.objs) fun i=>by rw[k.objs];exact hO i
 obtain⟨cs1,e,hcs⟩:=k.callers
 refine h o {E with O:=s'.objs} fr cs ⟨by rw[<- hn];exact h1,rfl,?_,⟨cs1,e,by rw[<- hc];exact hcs.step0 h2⟩,by rw[<- hb];exact k.bx,?_⟩
 ·obtain⟨tmps,todo,e1,e2,e3⟩:=k.cur.step0 h2
  exact⟨tmps,todo,by rw[<- hf];exact e1,⟨fun t x hx=>e2.1 t x (by rw[ht];exact hx),e2.2⟩,by rw[<- htd];exact e3⟩
 ·rw[<- hc];exact (iW _ _ _ hf.symm).trans k.root
theorem OK.up{o:Ow}{E:Env}{n n':Nat}(h:OK X o E n)(hle:n<=n'):OK X o E n':=
 {h with
  pos:=Nat.lt_of_lt_of_le h.pos hle
  num:=fun i a hi=>let ⟨h1,h2⟩:=h.num i a hi;⟨Nat.lt_of_lt_of_le h1 hle,h2⟩}
theorem XW{E:Env}{o:Ow}{aG id:Nat}{tm:List (Nat×AV)}{a:Act}{op:Oper}{K:KK R}{r:R}{Rc:ah}(T:gU P C)(h:OK X o E aG)(hf:look E.O id=none)(h0:id≠foreign)(ht:kD E tm a.tmps)(hn:xM op=true)(hr:fP C Rc tm E.O id op K=some r):Makes P X o E aG id a.eval op K r:=by
 cases hop:op.op with
 |alloc t=>exact FB T h hf h0 hop hr
 |box t x=>exact LU h hf h0 ht hop hr
 |buildSlice t n ps=>exact vk T h hf h0 ht hop hr
 |makeSlice t l c=>exact xq T h hf h0 ht hop hr
 | _=>unfold xM at hn;rw[hop] at hn;cases hn
theorem ahq(hR:Leaves Rl)(T:gU P C){S:Ow->Frame->List Frame->World->Prop}{s:St}{all:List Oper}{op:Oper}{rest:List Oper}{k:List It}{o:Ow}{E:Env}{tmps:Array Value}{todo:List Item}{cs:List Frame}{ops:Array Oper}{i:Nat}{idx:List Nat}{todo':List Item}
  (h:qW X o E s cs0 (frame s.cur.fn tmps todo) cs) (ht:kD E s.cur.tm tmps) (e:todo= .inRegion ops (i::idx)::todo') (hi:ops[i]? =some op) (hd:∀ d,op.dst=some d->d<tmps.size) (htd:FU tmps.size (.ops all rest::k) (.inRegion ops idx::todo'))
  (hw:Region.wanted op (yielded ops tmps)=true) {id:Nat} {v:AV} {ao:AO} (hn:Ah C op=true) (hag:vH C s.cur.tm s.objs id op v ao []) (hf:look s.objs id=none) (h0:id≠foreign) (hlt:id<s.aG)
  (hK:Goes P main Rl X cs0 S (after s op.dst (.ops all rest::k) v ((id,ao)::s.objs) s.aG [])):Via P main Rl S o (frame s.cur.fn tmps todo) cs E.w:=by
 have hr:fP C (fun _ _ _=>none) s.cur.tm E.O id op (fun v O1 _ es=>some (v,O1,es))=some (v,(id,ao)::s.objs,[]):=by
  rw[h.objs];exact hag _ (fun _ _ _=>none) s.cur.tm s.objs (fun _ _=>rfl) fun _ _=>rfl
 obtain⟨v',O1,es,hk,hacc⟩:=XW T h.ok (by rw[h.objs];exact hf) h0 (a:=⟨tmps,[]⟩) ht (WA hn) hr
 cases hk
 obtain⟨nx,w',hrun,⟨E',hE,hF,hO,hok,hs,hv⟩,hkeep⟩:=NQ (hacc s.aG hlt (Nat.le_refl _))
 subst e
 have keep:Keeps o.u E.w w':=hkeep.weaken fun b hb hw=>hw.elim (fun x=>x) fun x=>absurd hb (Nat.not_lt.2 x)
 have fin:∀ u,VR E' v u->(∃ evs,stepG P main (Conc.G (frame s.cur.fn tmps (.inRegion ops (i::idx)::todo')) cs) E.w= .go (Conc.G (frame s.cur.fn ((Act.put ⟨tmps,[]⟩ op.dst u).tmps) (.inRegion ops idx::todo')) cs) w' evs)->Via P main Rl S o (frame s.cur.fn tmps (.inRegion ops (i::idx)::todo')) cs E.w:=by
  intro u hu ⟨evs,hst⟩
  refine .step hst keep fun w2 hw2=> ?_
  have hst':=Hu (cs0:=cs0) (todo:= .inRegion ops idx::todo') (rest:= .ops all rest::k) (v:=v) (u:=u) (dst:=op.dst) ht h.callers h.bx h.root hO hok hs hu hd (by rw[yC];exact htd)
  subst hE
  exact hK _ _ _ _ (hst'.rely hR hw2)
 rcases hv with ⟨rfl,rfl⟩|⟨u,rfl,hu⟩
 ·have:=Conc.stepG_none (main:=main) (b:=Conc.base s.cur.fn) (a:=⟨tmps,[]⟩) (k:=todo') (cs:=cs) (rest:=idx) hi hw (fun x=>by cases x) hrun
  rw[put_defers] at this
  exact fin undef (by unfold VR;rfl) ⟨_,this⟩
 ·have:=Conc.stepG_value (main:=main) (b:=Conc.base s.cur.fn) (a:=⟨tmps,[]⟩) (k:=todo') (cs:=cs) (rest:=idx) hi hw (fun x=>by cases x) hrun
  rw[put_defers] at this
  exact fin u hu ⟨_,this⟩
open Classical in
theorem EG(L:IV P main Rl C Rc X cs0 Stop Rt fin){ops:Array Oper}{k:List It}{r:R}{base:Nat}(hbase:0<base):∀ (σ:List Nat) (s:St) (c:AS) (tr:List XR) (rest Az:List Oper),nH C Rc ops.toList base (uK s) σ c tr->s.cur.td= .ops ops.toList (rest++Az)::k->σ.map (nth ops.toList)=rest.map some->GI C s->
  (∀ s':St,look s'.cur.tm=look c.tm->(∀ j,look s'.objs j=look c.O j)->s'.aG=c.aG->s'.callers=c.cs->s'.cur.fn=s.cur.fn->s'.bx=s.bx->s'.cur.td= .ops ops.toList Az::k->Goes P main Rl X cs0 (Stop r) s')->Goes P main Rl X cs0 (Stop r) s
 |[],s,c,tr,rest,Az,h,htd,hm,hsd,hend=>by
  cases rest with
  |cons _ _=>cases hm
  |nil=>
   cases h
   exact hend s rfl (fun _=>rfl) rfl rfl rfl rfl htd
 |i::σ,s,c,tr,rest,Az,h,htd,hm,hsd,hend=>by
  cases rest with
  |nil=>cases hm
  |cons op rest=>
   rw[List.map_cons,List.map_cons] at hm
   obtain⟨hop,hm⟩:=List.cons.inj hm
   cases h with
   |cons h1 h2=>
    rename_i b rd wt tr1
    intro o E fr cs h
    obtain⟨tmps,todo,rfl,ht,hh1⟩:=h.at
    have aak:=hh1
    rw[htd,List.cons_append] at aak
    rw[List.cons_append] at htd
    obtain⟨ops',j,idx,todo',e1,e2,e3,e4,e5,e6,_⟩:=Wu aak
    have e2':ops'=ops:=by
     cases ops';cases ops
     simp at e2
     rw[e2]
    subst e2'
    have next:∀ (v:AV) (O1:bn) (eY:Nat) (es:List Eff),look b.tm=ru op.dst v (GU es (look s.cur.tm))->(∀ j,look b.O j=look (dw es O1) j)->b.aG=eY->b.cs=jG es s.callers->
      Goes P main Rl X cs0 (Stop r) (after s op.dst (.ops ops'.toList (rest++Az)::k) v O1 eY es):=by
     intro v O1 eY es q1 q2 q3 q4
     obtain⟨a1,a2,a3,a4⟩:=yI s op.dst (.ops ops'.toList (rest++Az)::k) v O1 eY es
     obtain⟨d1,d2,d3⟩:=yJ s op.dst (.ops ops'.toList (rest++Az)::k) v O1 eY es
     obtain⟨c2,g1,g2,g3,g4,g5⟩:=Ut h2 (a1.trans q1.symm) (fun j=>by rw[a2];exact (q2 j).symm) (a3.trans q3.symm) (a4.trans q4.symm)
     refine EG L hbase σ _ c2 tr1 rest Az g1 d1 hm (Dj hsd (by rw[htd];exact fun h=>h)) fun s' m1 m2 m3 m4 m5 m6 m7=> ?_
     exact hend s' (m1.trans g2) (fun j=>(m2 j).trans (g3 j)) (m3.trans g4) (m4.trans g5) (m5.trans d2) (m6.trans d3) m7
    have aai:jG [] s.callers=s.callers:=by
     unfold jG
     induction s.callers with
     |nil=>rfl
     |cons a q ih=>simp[jU]
    let kk:St->Option R:=fun st=>if Goes P main Rl X cs0 (Stop r) st then some r else none
    have hk:∀ st,kk st=some r->GI C st->Goes P main Rl X cs0 (Stop r) st:=fun st hs _=>by
     by_cases hg:Goes P main Rl X cs0 (Stop r) st
     ·exact hg
     ·have:kk st=none:=if_neg hg
      rw[this] at hs;cases hs
    cases h1 with
    |quiet h1 hw hq hag hb1 hb2 hb3 hb4=>
     rw[hop] at h1;cases h1
     rename_i v
     have hg:=next v s.objs s.aG [] (by rw[jX];exact hb1) hb2 hb3 (hb4.trans aai.symm)
     have GR:callee C s.cur.tm op.op=none:=by
      unfold callee
      split
      ·rename_i f args tys ahr
       unfold quiet at hq
       rw[ahr] at hq
       cases hq
      ·rename_i x m args tys ahr
       unfold quiet at hq
       rw[ahr] at hq
       cases hq
      ·rfl
     have XV:V3 C s op=none:=by
      unfold V3
      rw[GR]
     refine sK L (k:=kk) htd hsd hk h ht e1 e4 e5 e6 hh1 (vJ ht e3 hw) ?_
     rw[XV]
     dsimp only
     rw[hag (fun v O aG iP=>kk (after s op.dst (.ops ops'.toList (rest++Az)::k) v O aG iP)) Rc s.cur.tm s.objs s.aG (fun _ _=>rfl) fun _ _=>rfl]
     exact if_pos hg
    |new h1 hw hn hag hf hlt hb1 hb2 hb3 hb4=>
     rw[hop] at h1;cases h1
     rename_i v ao
     have hg:=next v ((base+i,ao)::s.objs) s.aG [] (by rw[jX];exact hb1) (fun j=>by
      rw[hb2]
      show _=(bif Nat.beq (base+i) j then some ao else look s.objs j)
      by_cases e:j=base+i
      ·subst e;simp
      ·rw[if_neg e,cZ fun z=>e z.symm];rfl) hb3 (hb4.trans aai.symm)
     exact ahq L.rely L.tys h ht e1 e4 e5 e6 (vJ ht e3 hw) hn hag hf (by unfold foreign;omega) hlt hg
    |act h1 hw hq hnn hgt hac hb1 hb2 hb3 hb4=>
     rw[hop] at h1;cases h1
     rename_i v pre eY es
     have hg:=next v (pre++s.objs) eY es hb1 hb2 hb3 hb4
     refine sK L (k:=kk) htd hsd hk h ht e1 e4 e5 e6 hh1 (vJ ht e3 hw) ?_
     rw[aah hgt]
     dsimp only
     have:=hac.again (fun v O aG iP=>kk (after s op.dst (.ops ops'.toList (rest++Az)::k) v O aG iP)) s.cur.tm s.objs (fun _ _=>rfl) fun _ _=>rfl
     exact this.trans (if_pos hg)
    |pass h1 hw hb1 hb2 hb3 hb4=>
     rw[hop] at h1;cases h1
     have hg:=next .undef s.objs s.aG [] (by rw[jX];exact hb1) hb2 hb3 (hb4.trans aai.symm)
     exact Hw L.rely h ht e1 e4 e5 e6 (vJ ht e3 hw) hg
theorem XY{all:List Oper}{base:Nat}{a c:AS}{l:List Nat}{tr:List XR}(h:nH C Rc all base a l c tr):(c.cs.map fun f=>(f.fn,f.td))=a.cs.map fun f=>(f.fn,f.td):=by
 induction h with
 |nil=>rfl
 |cons h1 _ ih=>
  rw[ih]
  cases h1 with
  |quiet _ _ _ _ _ _ _ h=>rw[h]
  |new _ _ _ _ _ _ _ _ _ h=>rw[h]
  |act _ _ _ _ _ _ _ _ _ h=>rw[h];unfold jG;rw[List.map_map];rfl
  |pass _ _ _ _ _ h=>rw[h]
theorem Ri{x:Option R}{l:List (Option R)}{r:R}(h:sameAll x l=some r):x=some r∧∀ y∈l,y=some r:=by
 have all:∀ {l:List (Option R)},qO x l->∀ y∈l,y=x:=by
  intro l
  induction l with
  |nil=>intro _ y hy;cases hy
  |cons z l ih=>
   rintro⟨h1,h2⟩ y hy
   rcases List.mem_cons.1 hy with e|hy
   ·rw[e];exact h1
   ·exact ih h2 y hy
 unfold sameAll at h
 split at h
 ·exact⟨h,fun y hy=>by cases hy⟩
 ·split at h
  ·rename_i hs;exact⟨h,fun y hy=>(all hs y hy).trans h⟩
  ·cases h
def Rj(o:Oper):Nat:=match o.dst with|some d=>d+1|none=>0
theorem Jg{o:Oper}:∀ {r:List Oper} {k:Nat},nth r k=some o->Rj o∈lN r
 |[],k,hk=>by cases k<;>exact absurd hk (by unfold nth;exact fun h=>by cases h)
 |y::r,0,hk=>by
  have hk:some y=some o:=hk
  rw[Option.some.inj hk]
  show Rj o∈Rj o::lN r
  exact aee
 |y::r,k+1,hk=>by
  show Rj o∈Rj y::lN r
  exact aef _ (Jg (r:=r) (k:=k) hk)
theorem Rn{o:Oper}:∀ {all:List Oper} {i j:Nat},nodup (lN all)=true->nth all i=some o->nth all j=some o->i=j
 |[],i,j,h,hi,hj=>by cases i<;>exact absurd hi (by unfold nth;exact fun h=>by cases h)
 |x::r,0,0,h,hi,hj=>rfl
 |x::r,0,j+1,h,hi,hj=>by
  have h:(!dN (Rj x) (lN r)&&nodup (lN r))=true:=h
  rw[Bool.and_eq_true] at h
  have hi:some x=some o:=hi
  rw[Option.some.inj hi] at h
  exact absurd (Jg (r:=r) (k:=j) hj) (lH h.1)
 |x::r,i+1,0,h,hi,hj=>by
  have h:(!dN (Rj x) (lN r)&&nodup (lN r))=true:=h
  rw[Bool.and_eq_true] at h
  have hj:some x=some o:=hj
  rw[Option.some.inj hj] at h
  exact absurd (Jg (r:=r) (k:=i) hi) (lH h.1)
 |x::r,i+1,j+1,h,hi,hj=>by
  have h:(!dN (Rj x) (lN r)&&nodup (lN r))=true:=h
  rw[Bool.and_eq_true] at h
  rw[Rn (all:=r) (i:=i) (j:=j) h.2 hi hj]
theorem Jh{pins:Option (List Nat)}{all:List Oper}:∀ x,Ej C pins all x=true->isQ C all x:=by
 intro x h
 unfold Ej at h
 cases pins with
 |none=>
  dsimp only at h
  unfold Zo at h
  split at h
  ·rename_i o ho;exact⟨o,ho,h⟩
  ·cases h
 |some ps=>
  dsimp only at h
  unfold qP af2 at h
  rw[Bool.and_eq_true] at h
  have h:=h.1
  split at h
  ·rename_i o ho
   refine⟨o,ho,?_⟩
   unfold calm at h
   unfold still
   rw[Bool.or_eq_true] at h⊢
   rcases h with h|h
   ·refine .inl ?_
    unfold quiet at h⊢
    split at h<;>first|rfl|(cases h;done)|skip
   ·refine .inr ?_
    rw[Bool.and_eq_true] at h
    unfold Ah af0
    have hb:=h.2
    unfold ai4 at hb
    rw[h.1,Bool.true_and]
    split at hb
    ·cases hb
    ·rfl
  ·cases h
theorem Ro(L:IV P main Rl C Rc X cs0 Stop Rt fin){s:St}{pins:Option (List Nat)}{ops:Array Oper}{k:List It}{r:R}{N:Nat}{an:Nat->List Nat}{D σ:List Nat}{rest:List (Nat×List Nat)}{rest':List Oper}
  (hr:jf C Rc Rt fin N false (pz s pins ops.toList rest k)=some r) (hp:IL (Ej C pins ops.toList) ops.toList an D (idxs rest) σ) (han:∀ p∈rest,an p.1=p.2) (hm:σ.map (ops[·]?)=rest'.map some) (hsd:GI C (qc s k))
  (ih:∀ m,m<N->∀ s,GI C s->jf C Rc Rt fin m false s=some r->Goes P main Rl X cs0 (Stop r) s):Goes P main Rl X cs0 (Stop r) (qc s (.ops ops.toList rest'::k)):=by
 intro o E fr cs h
 have hnum:∀ q∈idxs rest,look s.objs (s.aG+q)=none∧s.aG+q<s.aG+ops.toList.length:=fun q hq=>by
  refine⟨?_,Nat.add_lt_add_left (hp.ex q hq) _⟩
  cases hl:look s.objs (s.aG+q) with
  |none=>rfl
  |some a=>have:=(h.ok.num _ a (by rw[h.objs];exact hl)).1;exact absurd this (by show ¬ _<s.aG;omega)
 obtain⟨pre,c,s',tr,m,k1,⟨kl1,kl2,kl3,kl4⟩,k2,_,k4,k5,k6,k7⟩:=F6 (base:=s.aG) an N rest (pz s pins ops.toList rest k) [] r rfl hr han hp.nd hnum
 have hm':∀ {l:List Nat} {l':List Oper},l.map (ops[·]?)=l'.map some->l.map (nth ops.toList)=l'.map some:=fun {l l'} e=>by
  rw[<- e]
  exact List.map_congr_left fun x _=>by rw[zD,Array.getElem?_toList]
 let s0:St:={s with cur:={s.cur with td:= .ops ops.toList rest'::k},aG:=s.aG+ops.toList.length}
 have hD0:GI C s0:=fun p hp=>by
  rcases List.mem_cons.1 hp with e|hp
  ·subst e
   exact hsd (s.cur.fn,k) aee
  ·exact hsd p (aef _ hp)
 have hfd:∀ p∈s'.callers.map fun f=>(f.fn,f.td),p∈fd (qc s k):=fun p hp=>by
  have e:=XY k1
  rw[kl4] at e
  rw[e] at hp
  exact aef _ hp
 have h4:qW X o E s0 cs0 fr cs:=⟨h.ok.up (Nat.le_add_right _ _),h.objs,h.cur,h.callers,h.bx,h.root⟩
 rcases k5 with ⟨e,k5⟩|⟨i,ai,post,op,g,vs,body,e,hop,hw,XV,aal,k5⟩
 ·
  subst e
  obtain⟨tr',k8⟩:=FX (Jb Jh _ _ _ hp) k1 k2
  refine EG L h.ok.pos σ s0 c tr' rest' [] k8 (by rw[List.append_nil]) (hm' hm) hD0 (fun s'' m1 m2 m3 m4 m5 m6 m7=> ?_) o E fr cs h4
  have hs':GI C (qc s' k):=by
   intro p hp
   rcases List.mem_cons.1 hp with e|hp
   ·subst e
    have:=hsd (s.cur.fn,k) aee
    show gy C s'.cur.fn k=true
    rw[k6];exact this
   ·exact hsd p (hfd p hp)
  have hg:=ih m k4 _ hs' k5
  have hg2:Goes P main Rl X cs0 (Stop r) (qc s'' k):=MH hg (m1.trans kl1) (m5.trans k6.symm) rfl (fun j=>(kl2 j).symm.trans (m2 j).symm) (m3.trans kl3) (m4.trans kl4) (m6.trans k7.symm)
  refine pU L.rely hg2 fun tmps todo h=> ?_
  rw[m7] at h;obtain⟨y,ys,rfl,⟨ops',idx,rfl,_,e,hi⟩,h2⟩:=h
  have:idx=[]:=by cases idx with
   |nil=>rfl
   |cons _ _=>simp at hi
  subst this
  exact⟨ys,h2,fun cs w=>⟨_,Conc.stepG_region_end⟩⟩
 ·
  cases pins with
  |none=>cases aal
  |some ps=>
   have aal:(!qP ps ops.toList i&&uT ps ops.toList i post&&xO ps ops.toList ai i (idxs post) ops.toList.length&&nodup (lN ops.toList))=true:=aal
   simp only[Bool.and_eq_true,Bool.not_eq_true'] at aal
   obtain⟨⟨⟨p1,p2⟩,p3⟩,p4⟩:=aal
   have hai:an i=ai:=han (i,ai) (by rw[e];simp)
   have eidx:idxs rest=idxs pre++i::idxs post:=by
    rw[e]
    clear hp han hr hnum e k1
    induction pre with
    |nil=>rfl
    |cons x pre ih=>obtain⟨x1,x2⟩:=x;show x1::idxs (pre++_)=x1::(idxs pre++_);rw[ih]
   have hmem:∀ {l:List (Nat×List Nat)} {x:Nat},x∈idxs l->∃ a,(x,a)∈l:=by
    intro l
    induction l with
    |nil=>intro x hx;cases hx
    |cons y l ih=>
     intro x hx
     obtain⟨y1,y2⟩:=y
     rcases List.mem_cons.1 hx with z|hx
     ·rw[z];exact⟨y2,aee⟩
     ·obtain⟨a,ha⟩:=ih hx;exact⟨a,aef _ ha⟩
   have ane:∀ {l:List (Nat×List Nat)},uT ps ops.toList i l=true->∀ x a,(x,a)∈l->i∈a∨qP ps ops.toList x=false:=by
    intro l
    induction l with
    |nil=>intro _ x a hx;cases hx
    |cons y l ih=>
     intro hb x a hx
     obtain⟨y1,y2⟩:=y
     have hb:((dN i y2|| !qP ps ops.toList y1)&&uT ps ops.toList i l)=true:=hb
     rw[Bool.and_eq_true,Bool.or_eq_true,Bool.not_eq_true'] at hb
     rcases List.mem_cons.1 hx with z|hx
     ·cases z
      exact hb.1.elim (fun w=> .inl (eX.1 w)) .inr
     ·exact ih hb.2 x a hx
   have anf:∀ n,xO ps ops.toList ai i (idxs post) n=true->∀ x,x<n->x∈ai∨x=i∨x∈idxs post∨qP ps ops.toList x=false:=by
    intro n
    induction n with
    |zero=>intro _ x hx;omega
    |succ n ih=>
     intro hb x hx
     have hb:((dN n ai||Nat.beq n i||dN n (idxs post)|| !qP ps ops.toList n)&&xO ps ops.toList ai i (idxs post) n)=true:=hb
     rw[Bool.and_eq_true,Bool.or_eq_true,Bool.or_eq_true,Bool.or_eq_true,Bool.not_eq_true'] at hb
     by_cases hxn:x=n
     ·subst hxn
      rcases hb.1 with ((w|w)|w)|w
      ·exact .inl (eX.1 w)
      ·exact .inr (.inl (aeh w))
      ·exact .inr (.inr (.inl (eX.1 w)))
      ·exact .inr (.inr (.inr w))
     ·exact ih hb.2 x (by omega)
   rw[eidx] at hp
   obtain⟨n1,n2,n3,n4,n5⟩:=zF hp.nd
   obtain⟨σ1,σ2,eσ,hp1,hp2⟩:=Ui hp p1 (fun x hx=>by
    obtain⟨a,ha⟩:=hmem hx
    have h1:=ane p2 x a ha
    have h2:an x=a:=han (x,a) (by rw[e];exact adh.2 (.inr (aef _ ha)))
    rw[h2];exact h1) fun x hx=>by
     rcases anf _ p3 x (hp.ex x (adh.2 (.inl hx))) with w|w|w|w
     ·rw[hai];exact .inl w
     ·rw[w] at hx;exact absurd hx n1
     ·exact absurd w (n5 x hx)
     ·exact .inr w
   subst eσ
   obtain⟨tr',k8⟩:=FX (Jb Jh _ _ _ hp1) k1 k2
   rw[List.map_append,List.map_cons] at hm
   obtain⟨r1,r3,er,em1,em2⟩:=List.append_eq_map_iff.1 hm
   cases r3 with
   |nil=>rw[List.map_nil] at em2;cases em2
   |cons op' r2=>
    rw[List.map_cons] at em2
    obtain⟨eop,em3⟩:=List.cons.inj em2
    subst er
    have hop':op'=op:=by
     rw[zD,Array.getElem?_toList, <- eop] at hop
     exact Option.some.inj hop
    subst hop'
    refine EG L h.ok.pos σ1 s0 c tr' r1 (op'::r2) k8 rfl (hm' em1.symm) hD0 (fun s'' m1 m2 m3 m4 m5 m6 m7=> ?_) o E fr cs h4
    have lk:look s''.cur.tm=look s'.cur.tm:=m1.trans kl1
    intro o2 E2 fr2 cs2 q
    obtain⟨tmps,todo,rfl,ht,hh1⟩:=q.at
    have aak:=hh1
    rw[m7] at aak
    obtain⟨ops',j,idx,todo',e1,e2,e3,e4,e5,e6,e7⟩:=Wu aak
    have e2':ops'=ops:=by
     cases ops';cases ops
     simp at e2
     rw[e2]
    subst e2'
    have inj:∀ {a b:Nat} {o:Oper},ops'[a]? =some o->ops'[b]? =some o->a=b:=fun {a b o} ha hb=>Rn p4 (by rw[zD,Array.getElem?_toList];exact ha) (by rw[zD,Array.getElem?_toList];exact hb)
    have hji:j=i:=inj e4 eop.symm
    subst hji
    have hidx:idx=σ2:=by
     obtain⟨y,ys,ee,⟨asX,asY,eex,as1,_,hmx⟩,_⟩:=e6
     cases ee
     cases eex
     have:∀ {l l2:List Nat} {m:List Oper},l.map (ops'[·]?)=m.map some->l2.map (ops'[·]?)=m.map some->l=l2:=by
      intro l
      induction l with
      |nil=>intro l2 m a b;cases m with
       |nil=>cases l2 with
        |nil=>rfl
        |cons _ _=>cases b
       |cons _ _=>cases a
      |cons x l ih=>
       intro l2 m a b
       cases m with
       |nil=>cases a
       |cons o m=>
        cases l2 with
        |nil=>cases b
        |cons y l2=>
         rw[List.map_cons,List.map_cons] at a b
         obtain⟨a1,a2⟩:=List.cons.inj a
         obtain⟨b1,b2⟩:=List.cons.inj b
         rw[inj a1 b1,ih a2 b2]
     exact this hmx em3.symm
    subst hidx
    let sw:St:={s'' with cur:={s''.cur with td:= .wait ps ops'.toList j post::k}}
    have hji:j<ops'.size:=by
     rcases Nat.lt_or_ge j ops'.size with y|y
     ·exact y
     ·rw[Array.getElem?_eq_none y] at e4;cases e4
    have hleft:Left ps ops'.toList post idx:=⟨an,_,fun p hp=>han p (by rw[e];exact adh.2 (.inr (aef _ hp))),hp2⟩
    have htw:FU tmps.size sw.cur.td todo:=by
     rw[e1]
     exact lD ⟨ops',idx,rfl,rfl,e3,hji,hleft⟩ e7
    have hsw:qW X o2 E2 sw cs0 (frame sw.cur.fn tmps todo) cs2:=⟨q.ok,q.objs,⟨tmps,todo,rfl,ht,htw⟩,q.callers,q.bx,(iW sw.cur s''.cur s''.callers rfl).trans q.root⟩
    have ajl:V3 C sw op'=some (g,vs,body):=by
     have hce:callee C sw.cur.tm op'.op=callee C s'.cur.tm op'.op:=vG (tm:=s'.cur.tm) (N7 fun t _=>by show look s''.cur.tm t=_;rw[lk])
     rw[<- XV]
     unfold V3
     rw[hce]
    refine Wv L.tys L.code L.rely (s:=sw) hsw ht e1 e4 htw (vJ ht e3 ((sQ fun d _=>by rw[lk]).trans hw)) ajl ?_
    obtain⟨fn,_,hfn,hbody⟩:=IU XV
    have hg:=ih m k4 _ (fun p hp=>by
     rcases List.mem_cons.1 hp with z|hp
     ·subst z
      show (gZ C g body&&true)=true
      rw[Bool.and_true];exact L.draws g fn body hfn hbody
     ·rcases List.mem_cons.1 hp with z|hp
      ·subst z
       have:=hsd (s.cur.fn,k) aee
       show gy C s'.cur.fn k=true
       rw[k6];exact this
      ·exact hsd p (hfd p hp)) k5
    intro o3 E3 fr3 cs3 u
    obtain⟨h1,h2⟩:=u.ok.zy (O':=s'.objs) fun i=>by rw[u.objs];exact (kl2 i).symm.trans (m2 i).symm
    obtain⟨cs1,ec,y,ys,ey,⟨ct,ctd,ef,hct,NZ⟩,hys⟩:=u.callers
    refine hg o3 {E3 with O:=s'.objs} fr3 cs3 ⟨by rw[<- m3.trans kl3];exact h1,rfl,?_,⟨cs1,ec,?_⟩,(m6.trans k7.symm).symm.trans u.bx,?_⟩
    ·exact u.cur.step0 h2
    ·have ang:=hys.step0 h2
     have hcl:s''.callers=s'.callers:=m4.trans kl4
     refine⟨y,ys,ey,?_,by rw[<- hcl];exact ang⟩
     refine⟨ct,ctd,?_,⟨fun t x hx=> ?_,hct.2.step h2⟩,NZ⟩
     ·rw[ef]
      show frame s''.cur.fn ct ctd=frame s'.cur.fn ct ctd
      rw[m5.trans k6.symm]
     ·have:=hct.step h2
      exact this.1 t x (by simpa [jU] using (show look s''.cur.tm t=some x by rw[lk];exact hx))
    ·have hcl:s''.callers=s'.callers:=m4.trans kl4
     have:=u.root
     rw[<- this]
     show kX {s'.cur with td:=_} s'.callers=kX {s''.cur with td:=_} s''.callers
     rw[hcl]
     exact iW _ _ _ (m5.trans k6.symm).symm
theorem Oa(L:IV P main Rl C Rc X cs0 Stop Rt fin)(anh:P.follows .mixedOrders=true){s:St}{id:Nat}{ops:Array Oper}{k:List It}{r:R}{N:Nat}{pins:Option (List Nat)}(htd:s.cur.td= .code (.region id ops true)::k)(hsd:GI C s){nV:List (List (Nat×List Nat))}(anj:V5 (Ej C pins ops.toList) ops.toList nV=true)
  (hall:∀ ord∈nV,jf C Rc Rt fin N false (pz s pins ops.toList ord k)=some r) (ih:∀ m,m<N->∀ s,GI C s->jf C Rc Rt fin m false s=some r->Goes P main Rl X cs0 (Stop r) s):Goes P main Rl X cs0 (Stop r) s:=by
 intro o E fr cs h
 obtain⟨tmps,todo,rfl,ht,h1⟩:=h.at
 rw[htd] at h1
 obtain⟨y,ys,rfl,⟨rfl,ec⟩,h2⟩:=h1
 unfold codeOk at ec
 have hst:=Conc.stepG_region_draw (P:=P) (main:=main) (b:=Conc.base s.cur.fn) (a:=⟨tmps,[]⟩) (k:=ys) (cs:=cs) (w:=E.w) (ops:=ops) (id:=id)
 generalize htape:E.w.tape E.w.drawn (.order (Conc.base s.cur.fn).fn id)=t at hst
 have ank:Region.schedule (P.follows .mixedOrders) ops t=Region.linearise .any ops t:=by
  unfold Region.schedule
  rw[anh];rfl
 rw[ank] at hst
 obtain⟨ord,hord,hok,hleft⟩:=XU anj t
 have ahs:∀ i∈Region.linearise .any ops t,i<ops.size:=fun i hi=>by
  have:=hok.lt i ((hleft.mem i).2 hi)
  rwa [Array.length_toList] at this
 have hrest:∃ rest:List Oper,(Region.linearise .any ops t).map (ops[·]?)=rest.map some:=by
  generalize Region.linearise .any ops t=σ at ahs
  clear hleft
  induction σ with
  |nil=>exact⟨[],rfl⟩
  |cons i σ ih=>
   obtain⟨rest,e2⟩:=ih fun j hj=>ahs j (aef _ hj)
   have hi:=ahs i aee
   exact⟨ops[i]::rest,by rw[List.map_cons,List.map_cons,e2,Array.getElem?_eq_getElem hi]⟩
 obtain⟨rest,hr2⟩:=hrest
 have anl:GI C (qc s k):=fun p hp=>by
  rcases List.mem_cons.1 hp with e|hp
  ·subst e
   have:=hsd (s.cur.fn,s.cur.td) aee
   rw[htd] at this
   have this:(gZ C s.cur.fn (.region id ops true)&&gy C s.cur.fn k)=true:=this
   rw[Bool.and_eq_true] at this
   exact this.2
  ·exact hsd p (aef _ hp)
 have goal:=Ro L (hall ord hord) hleft hok.an hr2 anl ih
 refine .step hst ⟨fun _ _ _=>rfl,Nat.le_refl _,rfl,rfl,rfl⟩ fun w2 hw2=> ?_
 rw[Ow.kV] at hw2⊢
 have hleave:Leaves fun _ w w2=>w2.heap=w.heap:=fun _ w w2 e=>⟨by rw[e];exact Nat.le_refl _,fun _ _=>by rw[e]⟩
 have h3:=h.rely (Rl:=fun _ w w2=>w2.heap=w.heap) hleave (w2:={E.w with drawn:=E.w.drawn+1}) rfl
 obtain⟨cs1,ecs,hcs⟩:=h3.callers
 have h4:qW X o {E with w:={E.w with drawn:=E.w.drawn+1}} (qc s (.ops ops.toList rest::k)) cs0 (frame s.cur.fn tmps (.inRegion ops (Region.linearise .any ops t)::ys)) cs:=by
  obtain⟨ajm,arU,f1,f2,f3⟩:=h3.cur
  have f1:tmps=ajm:=congrArg Frame.tmps f1
  subst f1
  exact⟨h3.ok,h3.objs,⟨tmps,_,rfl,f2,lD ⟨ops,_,rfl,rfl,ec,hr2⟩ h2⟩,⟨cs1,ecs,hcs⟩,h3.bx,(iW {s.cur with td:= .ops ops.toList rest::k} s.cur s.callers rfl).trans h3.root⟩
 exact goal _ _ _ _ (h4.rely L.rely hw2)
end
end Go.E
end
