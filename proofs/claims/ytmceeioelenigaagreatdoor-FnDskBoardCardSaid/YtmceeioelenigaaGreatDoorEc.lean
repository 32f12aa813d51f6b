/- Operations: that what is reckoned is what is done. -/
import Derived.Laws.Append
import Derived.Laws.Sem
import Derived.Test.YtmceeioelenigaaGreatDoorEb
section
namespace Go.E
variable {E:Env} {tm:List (Nat×AV)} {a:Act} {R:Type} {C:kC} {Rc:ah} {P:Program} {X:Ctx} {o:Ow} {aG:Nat}
section ops
variable {op:Oper} {K:KK R} {r:R}
theorem xR{f:BinOp}{t:TypeId}{x y:Operand}{k k':IntKind}{p q:Int}:eqGuard f t x y (.int k p) (.int k' q)=pure ():=by cases f<;>rfl
theorem QF{f:BinOp}{t:TypeId}{x y:Operand}{p q:ByteArray}:eqGuard f t x y (.string p) (.string q)=pure ():=by cases f<;>rfl
theorem LM{R:Type}{k k':IntKind}{x:Option R}{r:R}(h:(bif xJ k k' then x else none)=some r):k=k'∧x=some r:=by
 obtain⟨h1,h2⟩:=aX h
 exact⟨vW h1,h2⟩
theorem aew{f:BinOp}{k:IntKind}{x y:Int}{K':AV->Option R}{r:R}(h:Ii f k x y K'=some r)(t:TypeId):
  ∃ v u,K' v=some r∧VR E v u∧∀ (wr rd:Nat->Prop) (Q:Value->World->Prop) (w:World),Q u w->acc P wr rd (binOp f t (.int k x) (.int k y)) Q w:=by
 cases f<;>simp only[Ii] at h
 case quo|rem=>
  obtain⟨h1,h2⟩:=aP h
  refine⟨_,_,h2,rfl,fun wr rd Q w hq=> ?_⟩
  simp only[binOp,ne_eq,not_true_eq_false,if_false,Op.intDiv,h1]
  exact hq
 case and|or|xor|andNot|add|sub|mul|eql|neq|lss|leq|gtr|geq=>
  refine⟨_,_,h,rfl,fun wr rd Q w hq=> ?_⟩
  simp only[binOp,ne_eq,not_true_eq_false,if_false,Op.intBits,Op.intArith,Op.intCmp]
  exact hq
 all_goals cases h
theorem LP{left:Bool}{k:IntKind}{x y:Int}{K':AV->Option R}{r:R}(h:rU left k x y K'=some r)(t:TypeId):
  ∃ v u,K' v=some r∧VR E v u∧∀ (k':IntKind) (wr rd:Nat->Prop) (Q:Value->World->Prop) (w:World),Q u w->acc P wr rd (binOp (if left then .shl else .shr) t (.int k x) (.int k' y)) Q w:=by
 unfold rU at h
 obtain⟨h1,h2⟩:=aP h
 cases left
 ·refine⟨_,_,h2,rfl,fun k' wr rd Q w hq=> ?_⟩
  simp only[binOp,Op.shift,Bool.false_eq_true,if_false,if_neg (Int.not_lt.2 h1)]
  exact hq
 ·refine⟨_,_,h2,rfl,fun k' wr rd Q w hq=> ?_⟩
  simp only[binOp,Op.shift,if_true,if_neg (Int.not_lt.2 h1)]
  exact hq
theorem aex{f:BinOp}{x y:ByteArray}{K':AV->Option R}{r:R}(h:NC f x y K'=some r)(t:TypeId):
  ∃ v u,K' v=some r∧VR E v u∧∀ (wr rd:Nat->Prop) (Q:Value->World->Prop) (w:World),Q u w->acc P wr rd (binOp f t (.string x) (.string y)) Q w:=by
 cases f<;>simp only[NC] at h
 case add=>
  obtain⟨h1,h2⟩:=aP h
  refine⟨_,_,h2,rfl,fun wr rd Q w hq=> ?_⟩
  simp only[binOp,Op.stringOp]
  have:¬ (((x.size+y.size:Nat):Int)>IntKind.i64.max):=by
   show ¬ (((x.size+y.size:Nat):Int)>9223372036854775807)
   omega
  rw[if_neg this]
  exact hq
 case eql|neq|lss|leq|gtr|geq=>
  refine⟨_,_,h,rfl,fun wr rd Q w hq=> ?_⟩
  simp only[binOp,Op.stringOp]
  exact hq
 all_goals cases h
def ai7(P:Program)(t:TypeId)(xo yo:Operand)(u v:Value)(b:Bool):Prop:=
 ∀ (wr rd:Nat->Prop) (Q:Value->World->Prop) (w:World),(Q (.bool b) w->acc P wr rd (do eqGuard .eql t xo yo u v;binOp .eql t u v) Q w)∧(Q (.bool !b) w->acc P wr rd (do eqGuard .neq t xo yo u v;binOp .neq t u v) Q w)
theorem jS{t:TypeId}{xo yo:Operand}{u v:Value}{b:Bool}(hg:∀ f:BinOp,f= .eql∨f= .neq->∀ (wr rd:Nat->Prop) (Q:Unit->World->Prop) (w:World),Q () w->acc P wr rd (eqGuard f t xo yo u v) Q w)
  (he:∀ (wr rd:Nat->Prop) (Q:Bool->World->Prop) (w:World),Q b w->acc P wr rd (Op.equalIn (9999+1) t u v) Q w)
  (h1:binOp .eql t u v=(do pure (.bool (<- Op.equal t u v)))) (h2:binOp .neq t u v=(do pure (.bool (!(<- Op.equal t u v))))):ai7 P t xo yo u v b:=by
 intro wr rd Q w
 constructor
 ·intro hq
  rw[ak]
  refine hg _ (.inl rfl) _ _ _ _ ?_
  rw[h1,ak]
  exact he _ _ _ _ hq
 ·intro hq
  rw[ak]
  refine hg _ (.inr rfl) _ _ _ _ ?_
  rw[h2,ak]
  exact he _ _ _ _ hq
theorem ZA(T:gU P C)(h0:OK X o E aG){t:TypeId}{xo yo:Operand}{x y:AV}{u v:Value}{K':Bool->Option R}{r:R}(h:aeq (qK C t) (Qr C t) (isLit xo||isLit yo) E.O x y K'=some r)(hx:VR E x u)(hy:VR E y v):
  ∃ b,K' b=some r∧ai7 P t xo yo u v b:=by
 have kd:∀ k,Nat.beq (qK C t) k=true->k≠0->∃ ti d,ti.kd=k∧P.underlying t=some d∧TI.fits C ti d:=fun k hk h0=>by
  obtain⟨ti,d,_,a,b,c⟩:=T.kdU hk h0
  exact⟨ti,d,a,b,c⟩
 have fits:∀ k,Nat.beq (qK C t) k=true->k≠0->∃ d,P.underlying t=some d∧((k=1∧∃ e,d= .pointer e)∨(k=2∧∃ m,d= .interface m)∨(k=3∧∃ a b c,d= .func a b c)∨(k=4∧∃ e,d= .slice e)∨(k=5∧∃ n e,d= .array n e)∨(k=6∧∃ fs,d= .struct fs)∨(k=9∧d= .string)∨(k=10∧d= .bool)∨(k=11∧∃ k,d= .int k)∨(k=7∧∃ p q,d= .map p q)):=fun k hk h0=>by
  obtain⟨ti,d,h1,h2,h3⟩:=kd k hk h0
  have:=TI.nD h3 (by rw[h1];exact h0)
  rw[h1] at this
  refine⟨d,h2,?_⟩
  rcases this with h|h|h|h|h|h|h|h|h|h
  ·exact .inl ⟨h.1,_,h.2⟩
  ·exact .inr (.inl h)
  ·exact .inr (.inr (.inl h))
  ·exact .inr (.inr (.inr (.inl ⟨h.1,_,h.2⟩)))
  ·exact .inr (.inr (.inr (.inr (.inl ⟨h.1,_,_,h.2⟩))))
  ·exact .inr (.inr (.inr (.inr (.inr (.inl h)))))
  ·exact .inr (.inr (.inr (.inr (.inr (.inr (.inl h))))))
  ·exact .inr (.inr (.inr (.inr (.inr (.inr (.inr (.inl h)))))))
  ·exact .inr (.inr (.inr (.inr (.inr (.inr (.inr (.inr (.inl h))))))))
  ·exact .inr (.inr (.inr (.inr (.inr (.inr (.inr (.inr (.inr ⟨h.1,_,_,h.2⟩))))))))
 have gd:∀ {u v:Value},(∀ f:BinOp,f= .eql∨f= .neq->eqGuard f t xo yo u v=pure ())->∀ f:BinOp,f= .eql∨f= .neq->∀ (wr rd:Nat->Prop) (Q:Unit->World->Prop) (w:World),Q () w->acc P wr rd (eqGuard f t xo yo u v) Q w:=
  fun h f hf wr rd Q w hq=>by rw[h f hf];exact hq
 unfold aeq at h
 split at h
 ·
  rename_i xs ys
  unfold VR at hx hy
  obtain⟨l,rfl,hl⟩:=hx
  obtain⟨m,rfl,hm⟩:=hy
  have hcmp:∀ cs,Qr C t=cs->cs≠[]->Zv P t cs=true:=fun cs e h0=>by
   unfold Qr at e
   split at e
   ·rename_i ti hti
    subst e;exact T.cmp t ti hti h0
   ·exact absurd e.symm h0
  generalize Qr C t=cs at h hcmp
  cases cs with
  |nil=>cases h
  |cons c cs=>
   dsimp only at h
   split at h
   ·rename_i b hb
    have hc:=Ua hb hl hm
    have hB:=hcmp _ rfl (by simp)
    refine⟨b,h,jS (fun f hf wr rd Q w hq=> ?_) (fun wr rd Q w hq=>(cmp_eq hB (by simp) hc).2 hq) rfl rfl⟩
    have hg:=(cmp_eq (wr:=wr) (rd:=rd) (w:=w) hB (by simp) hc).1
    rcases hf with rfl|rfl
    all_goals
     unfold eqGuard
     dsimp only
     simp only[Bool.not_true,Bool.false_eq_true,if_false]
     rw[ak]
     show acc P wr rd (do let p <- program;if (!P.eqGuardType p.depth t)=true then pure () else _) Q w
     rw[ak]
     show acc P wr rd (if (!P.eqGuardType P.depth t)=true then pure () else _) Q w
     rw[hg]
     exact hq
   ·cases h
 ·
  obtain⟨h1,h2⟩:=aX h
  unfold VR at hx hy;subst hx hy
  obtain⟨d,hU,hd⟩:=fits 10 h1 (by decide)
  simp at hd;subst hd
  refine⟨_,h2,jS (gd fun f hf=>by rcases hf with rfl|rfl<;>rfl) (fun wr rd Q w hq=> ?_) rfl rfl⟩
  unfold Op.equalIn;rw[ak,aB hU];exact hq
 ·obtain⟨h1,h2⟩:=aX h
  unfold VR at hx hy;subst hx hy
  obtain⟨d,hU,hd⟩:=fits 1 h1 (by decide)
  simp at hd;obtain⟨e,rfl⟩:=hd
  refine⟨_,h2,jS (gd fun f hf=>by rcases hf with rfl|rfl<;>rfl) (fun wr rd Q w hq=> ?_) rfl rfl⟩
  unfold Op.equalIn;rw[ak,aB hU];exact hq
 ·obtain⟨h1,h2⟩:=aX h
  unfold VR at hx hy;obtain⟨_,b,_,_,rfl⟩:=hy;subst hx
  obtain⟨d,hU,hd⟩:=fits 1 h1 (by decide)
  simp at hd;obtain⟨e,rfl⟩:=hd
  refine⟨_,h2,jS (gd fun f hf=>by rcases hf with rfl|rfl<;>rfl) (fun wr rd Q w hq=> ?_) rfl rfl⟩
  unfold Op.equalIn;rw[ak,aB hU];exact hq
 ·obtain⟨h1,h2⟩:=aX h
  unfold VR at hx hy;obtain⟨_,b,_,_,rfl⟩:=hx;subst hy
  obtain⟨d,hU,hd⟩:=fits 1 h1 (by decide)
  simp at hd;obtain⟨e,rfl⟩:=hd
  refine⟨_,h2,jS (gd fun f hf=>by rcases hf with rfl|rfl<;>rfl) (fun wr rd Q w hq=> ?_) rfl rfl⟩
  unfold Op.equalIn;rw[ak,aB hU];exact hq
 ·obtain⟨h1,h2⟩:=aX h
  simp only[Bool.and_eq_true] at h1
  unfold VR at hx hy;subst hx hy
  obtain⟨d,hU,hd⟩:=fits 2 h1.1 (by decide)
  simp at hd;obtain⟨e,rfl⟩:=hd
  refine⟨_,h2,jS (gd fun f hf=> ?_) (fun wr rd Q w hq=> ?_) rfl rfl⟩
  ·have:=h1.2
   rcases hf with rfl|rfl<;>(cases xo<;>cases yo<;>first|rfl|(simp[isLit] at this))
  ·unfold Op.equalIn;rw[ak,aB hU];exact hq
 ·obtain⟨h1,h2⟩:=aX h
  unfold VR at hx hy;obtain⟨_,rfl,_⟩:=hy;subst hx
  obtain⟨d,hU,hd⟩:=fits 2 h1 (by decide)
  simp at hd;obtain⟨e,rfl⟩:=hd
  refine⟨_,h2,jS (gd fun f hf=>by rcases hf with rfl|rfl<;>rfl) (fun wr rd Q w hq=> ?_) rfl rfl⟩
  unfold Op.equalIn;rw[ak,aB hU];exact hq
 ·obtain⟨h1,h2⟩:=aX h
  unfold VR at hx hy;obtain⟨_,rfl,_⟩:=hx;subst hy
  obtain⟨d,hU,hd⟩:=fits 2 h1 (by decide)
  simp at hd;obtain⟨e,rfl⟩:=hd
  refine⟨_,h2,jS (gd fun f hf=>by rcases hf with rfl|rfl<;>rfl) (fun wr rd Q w hq=> ?_) rfl rfl⟩
  unfold Op.equalIn;rw[ak,aB hU];exact hq
 ·obtain⟨h1,h2⟩:=aX h
  unfold VR at hx hy;obtain⟨rfl,_⟩:=hx;obtain⟨rfl,_⟩:=hy
  obtain⟨d,hU,hd⟩:=fits 7 h1 (by decide)
  simp at hd;obtain⟨_,_,rfl⟩:=hd
  refine⟨_,h2,jS (gd fun f hf=>by rcases hf with rfl|rfl<;>rfl) (fun wr rd Q w hq=> ?_) rfl rfl⟩
  unfold Op.equalIn;rw[ak,aB hU];exact hq
 ·obtain⟨h1,h2⟩:=aX h
  unfold VR at hx hy;obtain⟨_,b,_,_,rfl⟩:=hx;obtain⟨rfl,_⟩:=hy
  obtain⟨d,hU,hd⟩:=fits 7 h1 (by decide)
  simp at hd;obtain⟨_,_,rfl⟩:=hd
  refine⟨_,h2,jS (gd fun f hf=>by rcases hf with rfl|rfl<;>rfl) (fun wr rd Q w hq=> ?_) rfl rfl⟩
  unfold Op.equalIn;rw[ak,aB hU];exact hq
 ·obtain⟨h1,h2⟩:=aX h
  unfold VR at hx hy;subst hx hy
  obtain⟨d,hU,hd⟩:=fits 3 h1 (by decide)
  obtain⟨_,_,_,rfl⟩:∃ a b c,d= .func a b c:=by rcases hd with h|h|h|h|h|h|h|h|h|h<;>first|exact h.2|exact absurd h.1 (by decide)
  refine⟨_,h2,jS (gd fun f hf=>by rcases hf with rfl|rfl<;>rfl) (fun wr rd Q w hq=> ?_) rfl rfl⟩
  unfold Op.equalIn;rw[ak,aB hU];exact hq
 ·obtain⟨h1,h2⟩:=aX h
  unfold VR at hx hy;obtain⟨_,_,rfl,_⟩:=hy;subst hx
  obtain⟨d,hU,hd⟩:=fits 3 h1 (by decide)
  obtain⟨_,_,_,rfl⟩:∃ a b c,d= .func a b c:=by rcases hd with h|h|h|h|h|h|h|h|h|h<;>first|exact h.2|exact absurd h.1 (by decide)
  refine⟨_,h2,jS (gd fun f hf=>by rcases hf with rfl|rfl<;>rfl) (fun wr rd Q w hq=> ?_) rfl rfl⟩
  unfold Op.equalIn;rw[ak,aB hU];exact hq
 ·obtain⟨h1,h2⟩:=aX h
  unfold VR at hx hy;obtain⟨_,_,rfl,_⟩:=hx;subst hy
  obtain⟨d,hU,hd⟩:=fits 3 h1 (by decide)
  obtain⟨_,_,_,rfl⟩:∃ a b c,d= .func a b c:=by rcases hd with h|h|h|h|h|h|h|h|h|h<;>first|exact h.2|exact absurd h.1 (by decide)
  refine⟨_,h2,jS (gd fun f hf=>by rcases hf with rfl|rfl<;>rfl) (fun wr rd Q w hq=> ?_) rfl rfl⟩
  unfold Op.equalIn;rw[ak,aB hU];exact hq
 ·obtain⟨h1,h2⟩:=aX h
  unfold VR at hx hy;subst hx hy
  obtain⟨d,hU,hd⟩:=fits 4 h1 (by decide)
  simp at hd;obtain⟨_,rfl⟩:=hd
  refine⟨_,h2,jS (gd fun f hf=>by rcases hf with rfl|rfl<;>rfl) (fun wr rd Q w hq=> ?_) rfl rfl⟩
  unfold Op.equalIn;rw[ak,aB hU];exact hq
 ·split at h
  ·rename_i id _ ts rows wr hl
   obtain⟨h1,h2⟩:=aX h
   obtain⟨h3,h4⟩:=aP h2
   unfold VR at hx hy;subst hy
   obtain⟨ts',rows',wr',hl',rfl⟩:=hx
   rw[hl] at hl';cases hl'
   have ho:=h0.obj id _ hl
   unfold fV at ho
   cases hb:(E.ρ id).b with
   |none=>rw[hb] at ho;rw[ho.1] at h3;exact absurd h3 (Nat.lt_irrefl _)
   |some b=>
    obtain⟨d,hU,hd⟩:=fits 4 h1 (by decide)
    simp at hd;obtain⟨_,rfl⟩:=hd
    refine⟨_,h4,jS (gd fun f hf=>by rcases hf with rfl|rfl<;>rfl) (fun wr rd Q w hq=> ?_) rfl rfl⟩
    unfold Op.equalIn;rw[ak,aB hU];exact hq
  ·cases h
 ·obtain⟨h1,h2⟩:=aX h
  obtain⟨h3,h4⟩:=aP h2
  unfold VR at hx hy;subst hy
  obtain⟨a,len,cap,rfl,h5,_,h6⟩:=hx
  obtain⟨b,off,_,_,_,rfl,_⟩:=h6 (fun x=>by rw[x] at h3;exact Nat.lt_irrefl _ h3)
  obtain⟨d,hU,hd⟩:=fits 4 h1 (by decide)
  simp at hd;obtain⟨_,rfl⟩:=hd
  refine⟨_,h4,jS (gd fun f hf=>by rcases hf with rfl|rfl<;>rfl) (fun wr rd Q w hq=> ?_) rfl rfl⟩
  unfold Op.equalIn;rw[ak,aB hU];exact hq
 ·cases h
theorem ZB(T:gU P C){f:BinOp}{t yt:TypeId}{x y:Operand}(h:OK X o E aG)(ht:kD E tm a.tmps)(hop:op.op= .binOp f t x y yt)(hr:fP C Rc tm E.O aG op K=some r):Does P X o E a.eval op K r:=by
 unfold fP at hr
 rw[hop] at hr
 dsimp only at hr
 split at hr
 ·rename_i u v h1 h2
  have e1:=dR ht h1
  have e2:=dR ht h2
  have fin:∀ {z:AV} {q:Value},K z E.O aG []=some r->VR E z q->(∀ (wr rd:Nat->Prop) (Q:Value->World->Prop) (w:World),Q q w->acc P wr rd (do eqGuard f t x y (a.eval x) (a.eval y);binOp f t (a.eval x) (a.eval y)) Q w)->Does P X o E a.eval op K r:=fun hr hz hw=>
   Does.val h hr hz fun Q hq=>by
    unfold execOp
    rw[hop]
    dsimp only
    rw[jL]
    exact hw _ _ _ _ hq
  unfold CB at hr
  split at hr
  ·unfold VR at e1 e2;rw[e1,e2] at fin
   obtain⟨z,q,hr,hz,hw⟩:=LP (E:=E) (P:=P) hr t
   exact fin hr hz fun wr rd Q w hq=>by
    rw[ak,xR];exact hw _ wr rd Q w hq
  ·unfold VR at e1 e2;rw[e1,e2] at fin
   obtain⟨z,q,hr,hz,hw⟩:=LP (E:=E) (P:=P) hr t
   exact fin hr hz fun wr rd Q w hq=>by
    rw[ak,xR];exact hw _ wr rd Q w hq
  ·obtain⟨ek,hr2⟩:=LM hr
   subst ek
   unfold VR at e1 e2;rw[e1,e2] at fin
   obtain⟨z,q,hr,hz,hw⟩:=aew (E:=E) (P:=P) hr2 t
   refine fin hr hz fun wr rd Q w hq=> ?_
   rw[ak]
   rw[xR]
   exact hw wr rd Q w hq
  ·unfold VR at e1 e2;rw[e1,e2] at fin
   obtain⟨z,q,hr,hz,hw⟩:=aex (E:=E) (P:=P) hr t
   refine fin hr hz fun wr rd Q w hq=> ?_
   rw[ak]
   rw[QF]
   exact hw wr rd Q w hq
  ·obtain⟨b,hr,hw⟩:=ZA T h hr e1 e2
   exact fin hr (by unfold VR;rfl) fun wr rd Q w hq=>(hw wr rd Q w).1 hq
  ·obtain⟨b,hr,hw⟩:=ZA T h hr e1 e2
   exact fin hr (by unfold VR;rfl) fun wr rd Q w hq=>(hw wr rd Q w).2 hq
  ·cases hr
 ·cases hr
theorem aey{f:UnOp}{t:TypeId}{x:Operand}(h:OK X o E aG)(ht:kD E tm a.tmps)(hop:op.op= .unOp f t x)(hr:fP C Rc tm E.O aG op K=some r):Does P X o E a.eval op K r:=by
 have fin:∀ {z:AV} {q:Value},K z E.O aG []=some r->VR E z q->(∀ (wr rd:Nat->Prop) (Q:Value->World->Prop) (w:World),Q q w->acc P wr rd (Op.unary f (a.eval x)) Q w)->Does P X o E a.eval op K r:=fun hr hz hw=>
  Does.val h hr hz fun Q hq=>by
   unfold execOp
   rw[hop]
   dsimp only
   rw[jL]
   exact hw _ _ _ _ hq
 unfold fP at hr
 rw[hop] at hr
 dsimp only at hr
 split at hr
 ·rename_i k n h1
  have e1:=dR ht h1
  unfold VR at e1;rw[e1] at fin
  exact fin hr (by unfold VR;rfl) fun wr rd Q w hq=>hq
 ·rename_i k n h1
  have e1:=dR ht h1
  unfold VR at e1;rw[e1] at fin
  simp only[Ii] at hr
  exact fin hr (by unfold VR;rfl) fun wr rd Q w hq=>hq
 ·rename_i b h1
  have e1:=dR ht h1
  unfold VR at e1;rw[e1] at fin
  exact fin hr (by unfold VR;rfl) fun wr rd Q w hq=>hq
 ·cases hr
theorem tZ{wr rd:Nat->Prop}{k:IntKind}{n:Int}{Q:IntKind×Int->World->Prop}{w:World}:acc P wr rd (asIntOf (.int k n)) Q w↔Q (k,n) w:=Iff.rfl
theorem ZC(T:gU P C){t:TypeId}{x i:Operand}(h:OK X o E aG)(ht:kD E tm a.tmps)(hop:op.op= .index t x i)(hr:fP C Rc tm E.O aG op K=some r):Does P X o E a.eval op K r:=by
 unfold fP at hr
 rw[hop] at hr
 dsimp only at hr
 split at hr
 ·rename_i s k n h1 h2
  have e1:=dR ht h1
  have e2:=dR ht h2
  unfold VR at e1 e2
  obtain⟨hs,hr⟩:=gG hr
  obtain⟨hn,hr⟩:=aP hr
  obtain⟨hn',hr⟩:=aP hr
  refine Does.val (u:= .int .u8 (aW s n)) h hr (by unfold VR;rfl) fun Q hq=> ?_
  unfold execOp
  rw[hop]
  dsimp only
  rw[jL,e1,e2]
  unfold Instr.index
  rw[ak,tZ]
  dsimp only
  rw[ak,aB (T.Zw (by simpa using hs))]
  dsimp only
  rw[if_pos hn]
  have hlt:n.toNat<s.size:=by omega
  have:s[n.toNat]? =some s[n.toNat]:=by simp[hlt]
  unfold aW at hq
  rw[this] at hq⊢
  exact hq
 ·cases hr
theorem V9{agg:Bool}{n off:Nat}{cs:List AV}{v:AV}{l:List Value}(h:part agg n off cs=some v)(hl:dG E cs l):(agg=true->VR E v (.agg ((l.drop off).take n).toArray)∧off+n<=l.length∨n=0∧VR E v (.agg #[]))∧(agg=false->n=1∧∃ u,l[off]? =some u∧VR E v u):=by
 unfold part at h
 split at h
 ·rename_i ys hy
  obtain⟨h1,h2⟩:=Em (En (n:=off) hl) hy
  constructor
  ·intro e
   rw[e] at h
   cases h
   by_cases hn:n=0
   ·subst hn
    cases hy
    exact .inr ⟨rfl,by unfold VR;exact⟨[],rfl,by unfold dG;rfl⟩⟩
   ·refine .inl ⟨by unfold VR;exact⟨_,rfl,h1⟩,?_⟩
    simp only[List.length_drop] at h2;omega
  ·intro e
   rw[e] at h
   dsimp only[cond_false] at h
   split at h
   ·cases h
    have hlen:=lT h1
    unfold dG at h1
    obtain⟨u,q,h3,h4,h5⟩:=h1
    simp only[List.length_take,List.length_singleton,List.length_drop] at hlen
    have hn:n=1:=by
     cases n with
     |zero=>simp at h3
     |succ n=>cases n with
      |zero=>rfl
      |succ n=>
       exfalso
       have:=hlen
       simp only[List.length_drop] at h2
       omega
    subst hn
    refine⟨rfl,u,?_,h4⟩
    simp only[List.length_drop] at h2
    have:=congrArg (·[0]?) h3
    simpa using this
   ·cases h
 ·cases h
theorem ZE(T:gU P C){t:TypeId}{ti:TI}{off:Nat}{cs:List AV}{v:AV}{l:List Value}(hl:look C.ty t=some ti)(h:Go.E.part ti.agg ti.size off cs=some v)(hv:dG E cs l):∃ u,VR E v u∧
  ∀ (wr rd:Nat->Prop) (Q:Value->World->Prop) (w:World),Q u w->acc P wr rd (Go.part t l.toArray off) Q w:=by
 obtain⟨p1,p2⟩:=V9 h hv
 obtain⟨i,hi,hsz,_⟩:=T.info t ti hl
 obtain⟨d,hU,hd⟩:=T.under t ti hl
 have agg:∀ (wr rd:Nat->Prop) (Q:Bool->World->Prop) (w:World),Q ti.agg w->acc P wr rd (isAgg t) Q w:=by
  intro wr rd Q w hq
  unfold isAgg
  rw[ak,aB hU]
  cases d<;>simp only[TI.fits] at hd<;>first|(rw[hd.2.1] at hq;exact hq)|(rw[hd.2] at hq;exact hq)|exact hd.elim
 cases ha:ti.agg with
 |true=>
  rcases p1 ha with ⟨p,q⟩|⟨p,q⟩
  ·refine⟨_,p,fun wr rd Q w hq=> ?_⟩
   unfold Go.part
   rw[ak]
   refine agg _ _ _ _ ?_
   rw[ha,if_pos rfl,ak,fM hi,hsz]
   have:l.toArray.extract off (off+ti.size)=((l.drop off).take ti.size).toArray:=by
    simp
   rw[this];exact hq
  ·refine⟨_,q,fun wr rd Q w hq=> ?_⟩
   unfold Go.part
   rw[ak]
   refine agg _ _ _ _ ?_
   rw[ha,if_pos rfl,ak,fM hi,hsz,p]
   have:l.toArray.extract off (off+0)= #[]:=by simp
   rw[this];exact hq
 |false=>
  obtain⟨_,u,h1,h2⟩:=p2 ha
  refine⟨u,h2,fun wr rd Q w hq=> ?_⟩
  unfold Go.part
  rw[ak]
  refine agg _ _ _ _ ?_
  rw[ha]
  simp only[Bool.false_eq_true,if_false,List.getElem?_toArray,h1]
  exact hq
theorem ZF(T:gU P C){t:TypeId}{x:Operand}{f:Nat}(h:OK X o E aG)(ht:kD E tm a.tmps)(hop:op.op= .field t x f)(hr:fP C Rc tm E.O aG op K=some r):Does P X o E a.eval op K r:=by
 unfold fP at hr
 rw[hop] at hr
 dsimp only at hr
 split at hr
 ·rename_i ti cs h1 h2
  split at hr
  ·rename_i off ft h3
   split at hr
   ·rename_i tf h4
    split at hr
    ·rename_i v h5
     have e1:=dR ht h2
     unfold VR at e1
     obtain⟨l,e,e2⟩:=e1
     obtain⟨u,h6,h7⟩:=ZE (P:=P) T h4 h5 e2
     refine Does.val h hr h6 fun Q hq=> ?_
     unfold execOp
     rw[hop]
     dsimp only
     rw[jL,e]
     unfold Instr.field
     obtain⟨fs,fl,hU,hf,rfl,rfl⟩:=T.field h1 h3
     rw[ak,aB hU]
     dsimp only
     rw[hf]
     dsimp only
     rw[ak]
     exact h7 _ _ _ _ hq
    ·cases hr
   ·cases hr
  ·cases hr
 ·cases hr
theorem gU.uS(T:gU P C){t n:Nat}{ts:aC}(h:uS C t=some (ts,n)):∃ ti te,look C.ty t=some ti∧ti.kd=5∧ti.agg=true∧P.underlying t=some (.array n ti.elem)∧look C.ty ti.elem=some te∧te.row=some ts∧ti.size=n*ts.n∧ti.len=n:=by
 unfold Go.E.uS at h
 split at h
 ·rename_i ti hl
  obtain⟨hk,h⟩:=aX h
  have hk:=aeh hk
  split at h
  ·rename_i te hle
   split at h
   ·rename_i ts' hr
    obtain⟨hs,h⟩:=aX h
    cases h
    obtain⟨d,h1,h2⟩:=T.under t ti hl
    have hd:d= .array ti.len ti.elem:=by
     have:=TI.nD h2 (by rw[hk];decide)
     rw[hk] at this
     simpa using this
    subst hd
    exact⟨ti,te,hl,hk,h2.2.1,h1,hle,hr,aeh hs,rfl⟩
   ·cases h
  ·cases h
 ·cases h
def cellT:CT->TypeDesc->Prop
 | .int k,d=>d= .int k
 | .bool,d=>d= .bool
 | .str,d=>d= .string
 | .sl _,_=>False
theorem gU.A8(T:gU P C){t:Nat}{ti:TI}{c:CT}(hl:look C.ty t=some ti)(h:A8 ti=some c):∃ d,P.underlying t=some d∧cellT c d:=by
 obtain⟨d,h1,h2⟩:=T.under t ti hl
 refine⟨d,h1,?_⟩
 unfold Go.E.A8 at h
 cases k9:Nat.beq ti.kd 9 with
 |true=>
  rw[k9] at h;cases h
  have hk:=aeh k9
  have:=TI.nD h2 (by rw[hk];decide)
  rw[hk] at this
  simpa [cellT] using this
 |false=>
  rw[k9] at h
  cases k10:Nat.beq ti.kd 10 with
  |true=>
   rw[k10] at h;cases h
   have hk:=aeh k10
   have:=TI.nD h2 (by rw[hk];decide)
   rw[hk] at this
   simpa [cellT] using this
  |false=>
   rw[k10] at h
   cases k11:Nat.beq ti.kd 11 with
   |false=>rw[k11] at h;cases h
   |true=>
    rw[k11] at h
    have hk:=aeh k11
    have:=TI.nD h2 (by rw[hk];decide)
    rw[hk] at this
    obtain⟨k,rfl⟩:∃ k,d= .int k:=by simpa using this
    dsimp only[cond_false,cond_true] at h
    split at h
    ·rename_i k' hr
     cases h
     have:=h2.2.2 _ hr
     cases this;rfl
    ·cases h
theorem gU.CG(T:gU P C){t tv:Nat}{kt:CT}{dv:Option CT}(h:CG C t=some (kt,tv,dv)):∃ k d,P.underlying t=some (.map k tv)∧P.underlying k=some d∧cellT kt d∧∀ vt,dv=some vt->∃ d,P.underlying tv=some d∧cellT vt d:=by
 unfold Go.E.CG at h
 split at h
 ·rename_i ti hl
  obtain⟨hk,h⟩:=aX h
  have hk:=aeh hk
  split at h
  ·rename_i tk tvi hlk hlv
   split at h
   ·rename_i tH hkt
    cases h
    obtain⟨d,h1,h2⟩:=T.under t ti hl
    have hd:d= .map ti.elem ti.len:=by
     have:=TI.nD h2 (by rw[hk];decide)
     rw[hk] at this
     simpa using this
    subst hd
    obtain⟨dk,k1,k2⟩:=T.A8 hlk hkt
    exact⟨ti.elem,dk,h1,k1,k2,fun vt e=>T.A8 hlv e⟩
   ·cases h
  ·cases h
 ·cases h
theorem zB(j m:Int):ael j m=j+m:=by
 unfold ael
 split
 ·simp
 ·rfl
theorem Aj(T:gU P C){t:TypeId}{x i:Operand}{ts:aC}{n:Nat}(h:OK X o E aG)(hop:op.op= .indexAddr t x i)(ha:uS C t=some (ts,n)){b y:Nat}{m:Int}{k:IntKind}{z:AV}{q:Nat}
  (e1:a.eval x= .pointer (some ⟨b,y,none⟩)) (e2:a.eval i= .int k m) (h0:0<=m) (h1:m<(n:Int)) (hm:ts.n=q) (hr:K z E.O aG []=some r) (hz:VR E z (.pointer (some ⟨b,y+m.toNat*q,none⟩))):Does P X o E a.eval op K r:=by
 obtain⟨ti,te,hl1,_,_,hU,hl2,hrow,_⟩:=T.uS ha
 obtain⟨ie,hie,hsz,_,_,hrw⟩:=T.info _ te hl2
 have hn':=(hrw ts hrow).1
 refine Does.val h hr hz fun Q hq=> ?_
 unfold execOp
 rw[hop]
 dsimp only
 rw[jL,e1,e2]
 unfold Instr.indexAt
 rw[ak,tZ]
 dsimp only
 rw[ak,aB hU]
 dsimp only
 rw[ak]
 unfold Instr.sureAddr
 dsimp only
 rw[bY,ak,bY]
 dsimp only
 rw[ak,aB hU]
 dsimp only
 rw[if_pos ⟨h0,h1⟩,ak,fM hie,hsz,hn',hm]
 have:Addr.add ⟨b,y,none⟩ (m.toNat*q)=⟨b,y+m.toNat*q,none⟩:=by
  unfold Addr.add
  split
  ·rename_i e;rw[e];rfl
  ·rfl
 rw[this]
 exact hq
theorem NS(T:gU P C){t:TypeId}{x i:Operand}(h:OK X o E aG)(ht:kD E tm a.tmps)(hop:op.op= .indexAddr t x i)(hr:fP C Rc tm E.O aG op K=some r):Does P X o E a.eval op K r:=by
 unfold fP at hr
 rw[hop] at hr
 dsimp only at hr
 split at hr
 ·split at hr
  ·cases hr
  ·rename_i ts' n ha
   split at hr
   ·rename_i id j off k m h1 h2
    have e1:=dR ht h1
    have e2:=dR ht h2
    split at hr
    ·rename_i ts rows wr hlo
     obtain⟨hb,hr⟩:=aX hr
     rw[Bool.and_eq_true] at hb
     obtain⟨h3,hr⟩:=aP hr
     obtain⟨h4,hr⟩:=aP hr
     obtain⟨h5,hr⟩:=aP hr
     have hm:ts'.n=ts.n:=aeh hb.1
     have h0:off=0:=aeh hb.2
     unfold VR at e1 e2
     obtain⟨ts1,Iy,wr1,b,g1,g2,g3,g4,g5⟩:=e1
     rw[hlo] at g1;cases g1
     rw[h0] at g5
     refine Aj T h hop ha g5 e2 h3 h4 hm hr ?_
     unfold VR
     refine⟨ts,rows,wr,b,hlo,g2,by rw[zB];omega,by rw[zB];omega,?_⟩
     rw[zB,show (j+m).toNat=j.toNat+m.toNat by omega,Nat.add_mul]
     simp
    ·cases hr
   ·rename_i ts rows deps j off k m h1 h2
    have e1:=dR ht h1
    have e2:=dR ht h2
    obtain⟨hb,hr⟩:=aX hr
    rw[Bool.and_eq_true] at hb
    obtain⟨h3,hr⟩:=aP hr
    obtain⟨h4,hr⟩:=aP hr
    obtain⟨h5,hr⟩:=aP hr
    have hm:ts'.n=ts.n:=aeh hb.1
    have h0:off=0:=aeh hb.2
    unfold VR at e1 e2
    obtain⟨b,o',len,cap,g1,g2,g3,g4⟩:=e1
    rw[h0] at g4
    refine Aj T h hop ha g4 e2 h3 h4 hm hr ?_
    unfold VR
    refine⟨b,o',len,cap,g1,by rw[zB];omega,by rw[zB];omega,?_⟩
    rw[zB,show (j+m).toNat=j.toNat+m.toNat by omega,Nat.add_mul]
    simp[Nat.add_assoc]
   ·cases hr
 rename_i ts' hsl
 obtain⟨ti,te,hl1,hU,hl2,hrow,_⟩:=T.D7 hsl
 obtain⟨ie,hie,hsz,_,_,hrw⟩:=T.info _ te hl2
 have hn':=(hrw ts' hrow).1
 have fin:∀ {b o' len cap:Nat} {n:Int} {k:IntKind} {z:AV} {m:Nat},a.eval x= .slice (some ⟨b,o',none⟩) len cap->a.eval i= .int k n->0<=n->n<(len:Int)->ts'.n=m->K z E.O aG []=some r->
   VR E z (.pointer (some ⟨b,o'+n.toNat*m,none⟩))->Does P X o E a.eval op K r:=by
  intro b o' len cap n k z m e1 e2 h0 h1 hm hr hz
  refine Does.val h hr hz fun Q hq=> ?_
  unfold execOp
  rw[hop]
  dsimp only
  rw[jL,e1,e2]
  unfold Instr.indexAt
  rw[ak,tZ]
  dsimp only
  rw[ak,aB hU]
  dsimp only
  rw[ak,bY]
  dsimp only
  rw[ak,aB hU]
  dsimp only
  rw[if_pos ⟨h0,h1⟩,ak,fM hie,hsz,hn',hm]
  have:Addr.add ⟨b,o',none⟩ (n.toNat*m)=⟨b,o'+n.toNat*m,none⟩:=by
   unfold Addr.add
   split
   ·rename_i e;rw[e];rfl
   ·rfl
  rw[this]
  exact hq
 split at hr
 ·rename_i id k n h1 h2
  have e1:=dR ht h1
  have e2:=dR ht h2
  split at hr
  ·rename_i ts rows wr hlo
   obtain⟨hb,hr⟩:=gG hr
   obtain⟨h3,hr⟩:=aP hr
   obtain⟨h4,hr⟩:=aP hr
   have hm:ts'.n=ts.n:=aeh (by simpa using hb)
   unfold VR at e1 e2
   obtain⟨ts1,Iy,wr1,g1,g2⟩:=e1
   rw[hlo] at g1;cases g1
   have ho:=h.obj id _ hlo
   unfold fV at ho
   cases hbk:(E.ρ id).b with
   |none=>
    rw[hbk] at ho;rw[ho.1] at h4
    simp at h4;omega
   |some b=>
    rw[hbk] at g2
    refine fin g2 e2 h3 h4 hm hr ?_
    unfold VR
    exact⟨ts,rows,wr,b,hlo,hbk,h3,h4,by simp⟩
  ·cases hr
 ·rename_i ts rows deps k n h1 h2
  have e1:=dR ht h1
  have e2:=dR ht h2
  obtain⟨hb,hr⟩:=gG hr
  obtain⟨h3,hr⟩:=aP hr
  obtain⟨h4,hr⟩:=aP hr
  have hm:ts'.n=ts.n:=aeh (by simpa using hb)
  unfold VR at e1 e2
  have e1':=e1
  obtain⟨ad,len,cap,g1,g2,_,g3⟩:=e1
  obtain⟨b,off,_,_,_,rfl,_⟩:=g3 (fun x=>by rw[x] at h4;simp at h4;omega)
  subst g2
  refine fin g1 e2 h3 h4 hm hr ?_
  rw[g1] at e1'
  unfold VR
  exact⟨b,off,_,_,e1',h3,h4,by simp⟩
 ·rename_i id lo hi k n h1 h2
  have e1:=dR ht h1
  have e2:=dR ht h2
  split at hr
  ·rename_i ts rows wr hlo
   obtain⟨hb,hr⟩:=gG hr
   obtain⟨h3,hr⟩:=aP hr
   obtain⟨h4,hr⟩:=aP hr
   have hm:ts'.n=ts.n:=aeh (by simpa using hb)
   unfold VR at e1 e2
   obtain⟨ts1,Iy,wr1,ad,cap,g1,g2,g3,g4,g5,g6,g7⟩:=e1
   rw[hlo] at g1;cases g1
   obtain⟨b,hbk,rfl⟩:=g7 (by omega)
   refine fin g5 e2 h3 (by omega) hm hr ?_
   unfold VR
   refine⟨ts,rows,wr,b,hlo,hbk,by omega,by omega,?_⟩
   rw[show (lo+n).toNat=lo.toNat+n.toNat by omega,Nat.add_mul,Nat.add_zero]
  ·cases hr
 ·cases hr
end ops
end Go.E
end
section
namespace Go.E
variable {E:Env} {tm:List (Nat×AV)} {a:Act} {R:Type} {C:kC} {Rc:ah} {P:Program} {X:Ctx} {o:Ow} {aG:Nat}
section ops
variable {op:Oper} {K:KK R} {r:R}
theorem ou(b x y:Nat):Addr.add ⟨b,x,none⟩ y=⟨b,x+y,none⟩:=by
 unfold Addr.add
 split
 ·rename_i e;rw[e];rfl
 ·rfl
theorem gU.isAgg(T:gU P C){t:TypeId}{ti:TI}(hl:look C.ty t=some ti){wr rd:Nat->Prop}{Q:Bool->World->Prop}{w:World}(hq:Q ti.agg w):acc P wr rd (isAgg t) Q w:=by
 obtain⟨d,hU,hd⟩:=T.under t ti hl
 unfold Go.isAgg
 rw[ak,aB hU]
 cases d<;>simp only[TI.fits] at hd<;>first|(rw[hd.2.1] at hq;exact hq)|(rw[hd.2] at hq;exact hq)|exact hd.elim
theorem ql(T:gU P C){t:TypeId}{ti:TI}{off base b:Nat}{cs:List AV}{v:AV}{w:World}{c:Array Value}{e:TypeId}{f:Nat×Nat}(hl:look C.ty t=some ti)(h:Go.E.part ti.agg ti.size off cs=some v)
  (hw:w.heap[b]? =some (.cells c e f)) (hv:dG E cs ((c.toList.drop base).take cs.length)):∃ u,VR E v u∧∀ (wr rd:Nat->Prop) (Q:Value->World->Prop),rd b->Q u w->acc P wr rd (loadVar t ⟨b,base+off,none⟩) Q w:=by
 obtain⟨p1,p2⟩:=V9 h hv
 obtain⟨i,hi,hsz,_⟩:=T.info t ti hl
 have cell:∀ j u,(c.toList.drop base)[j]? =some u->w.cell? ⟨b,base+j,none⟩=some u:=by
  intro j u hj
  rw[List.getElem?_drop] at hj
  unfold World.cell?
  rw[hw]
  simpa using hj
 cases ha:ti.agg with
 |true=>
  have hh:∃ l:List Value,VR E v (.agg l.toArray)∧l.length=ti.size∧(ti.size≠0->∀ j u,l[j]? =some u->(c.toList.drop base)[off+j]? =some u):=by
   rcases p1 ha with ⟨p,q⟩|⟨p,q⟩
   ·refine⟨_,p,by simp only[List.length_take,List.length_drop] at q ⊢;omega,fun _ j u hj=> ?_⟩
    rw[List.getElem?_take] at hj
    split at hj
    ·rw[List.getElem?_drop,List.getElem?_take] at hj
     split at hj
     ·exact hj
     ·cases hj
    ·cases hj
   ·exact⟨[],q,by simp[p],fun x=>absurd p x⟩
  obtain⟨l,p,q,g⟩:=hh
  refine⟨_,p,fun wr rd Q hr hq=> ?_⟩
  unfold loadVar
  rw[ak]
  refine T.isAgg hl ?_
  rw[ha,if_pos rfl,ak,fM hi,hsz,ak]
  refine uH q (fun hn j u hj=> ?_) hq
  rw[ou]
  exact⟨hr,by rw[Nat.add_assoc];exact cell _ _ (g hn j u hj)⟩
 |false=>
  obtain⟨hn,u,h1,h2⟩:=p2 ha
  refine⟨u,h2,fun wr rd Q hr hq=> ?_⟩
  unfold loadVar
  rw[ak]
  refine T.isAgg hl ?_
  rw[ha]
  simp only[Bool.false_eq_true,if_false]
  refine QA hr (cell _ _ ?_) _ hq
  rw[List.getElem?_take] at h1
  split at h1
  ·exact h1
  ·cases h1
mutual
theorem Wh:∀ (t:CT) (d:t.D) (v:Value),t.rp E.w E.N d v->VR E (t.av d) v
 | .int _,_,_,h=>by unfold CT.rp at h;unfold CT.av VR;exact h
 | .bool,_,_,h=>by unfold CT.rp at h;unfold CT.av VR;exact h
 | .str,_,_,h=>by unfold CT.rp at h;unfold CT.av VR;exact h
 | .sl ts,d,v,h=>by
  unfold CT.rp at h;unfold CT.av VR
  obtain⟨a,len,cap,h1,h2,h2',h3⟩:=h
  refine⟨a,len,cap,h1,h2,h2',fun hd=> ?_⟩
  obtain⟨b,off,c,e,f,ha,hb,hr⟩:=h3 hd
  exact⟨b,off,c,e,f,ha,.inl hb,hr⟩
theorem NT:∀ (ts:aC) (d:ts.D) (l:List Value),ts.rp E.w E.N d l->dG E (ts.oZ d) l
 | .one t,d,l,h=>by
  unfold aC.rp at h;obtain⟨v,rfl,h⟩:=h
  unfold aC.oZ dG;exact⟨v,[],rfl,Wh t d v h,by unfold dG;rfl⟩
 | .cons t ts,d,l,h=>by
  unfold aC.rp at h;obtain⟨v,r,rfl,h1,h2⟩:=h
  unfold aC.oZ dG;exact⟨v,r,rfl,Wh t d.1 v h1,NT ts d.2 r h2⟩
end
theorem Hl:∀ (ts:aC) (d:ts.D),(ts.oZ d).length=ts.n
 | .one _,_=>rfl
 | .cons _ ts,d=>by unfold aC.oZ aC.n;simp[Hl ts d.2]
theorem sF{α:Type}{l:List α}{i:Nat}{d:α}(h:i<l.length):l[i]? =some (l.getD i d):=by
 simp[List.getD,List.getElem?_eq_getElem h]
theorem Iz{ts:aC}{rows:List ts.D}:∀ (n j:Nat),(GH ts rows n j).length=n*ts.n
 |0,j=>by simp[GH]
 |n+1,j=>by unfold GH;rw[List.length_append,Hl,Iz n,Nat.add_mul,Nat.one_mul,Nat.add_comm]
theorem Wi{ts:aC}{rows:List ts.D}{l:List Value}(h:dV ts.n (ts.rp E.w E.N) rows l):∀ (n j:Nat),j+n<=rows.length->dG E (GH ts rows n j) ((l.drop (j*ts.n)).take (n*ts.n))
 |0,j,_=>by unfold GH dG;simp
 |n+1,j,hj=>by
  have hr:=(pG rows l j _ h (sF (d:=ts.zero) (by omega:j<rows.length))).1
  have ih:=Wi h n (j+1) (by omega)
  unfold GH
  have e:(l.drop (j*ts.n)).take ((n+1)*ts.n)=(l.drop (j*ts.n)).take ts.n++(l.drop ((j+1)*ts.n)).take (n*ts.n):=by
   rw[show (n+1)*ts.n=ts.n+n*ts.n by rw[Nat.add_mul,Nat.one_mul,Nat.add_comm],List.take_add,List.drop_drop,show j*ts.n+ts.n=(j+1)*ts.n by rw[Nat.add_mul,Nat.one_mul]]
  rw[e]
  exact pI (NT ts _ _ hr) ih
theorem LQ{α:Type}:∀ (l:List α),takeN l.length l=some l
 |[]=>rfl
 |x::r=>by show (takeN r.length r).map (x:: ·)=_;rw[LQ r];rfl
theorem ZG{ti:TI}{cs:List AV}(ha:ti.agg=true)(hs:ti.size=cs.length):Go.E.part ti.agg ti.size 0 cs=some (.agg cs):=by
 unfold Go.E.part
 rw[ha,hs]
 show (match takeN cs.length cs with|some l=>_|none=>none)=_
 rw[LQ];rfl
theorem xU(T:gU P C){t n:Nat}{ts' ts:aC}{rows:List ts.D}{j b y:Nat}{w:World}{c:Array Value}{e:TypeId}{f:Nat×Nat}(ha:uS C t=some (ts',n))(hn:ts'.n=ts.n)(hw:w.heap[b]? =some (.cells c e f))(hE:w=E.w)
  (hr:dV ts.n (ts.rp E.w E.N) rows (c.toList.drop y)) (hj:j+n<=rows.length):∃ u,VR E (.agg (GH ts rows n j)) u∧∀ (wr rd:Nat->Prop) (Q:Value->World->Prop),rd b->Q u w->acc P wr rd (loadVar t ⟨b,y+j*ts.n,none⟩) Q w:=by
 obtain⟨ti,te,hl,_,hagg,_,_,_,hs,_⟩:=T.uS ha
 have hl2:=Wi hr n j hj
 have:=ql (P:=P) (E:=E) (off:=0) (base:=y+j*ts.n) (b:=b) (w:=w) (c:=c) (e:=e) (f:=f) T hl (ZG (cs:=GH ts rows n j) hagg (by rw[Iz,hs,hn])) hw (by rw[Iz, <- List.drop_drop];exact hl2)
 simpa using this
theorem aez(T:gU P C){t:TypeId}{x:Operand}(h:OK X o E aG)(ht:kD E tm a.tmps)(hop:op.op= .load t x)(hr:fP C Rc tm E.O aG op K=some r):Does P X o E a.eval op K r:=by
 have fin:∀ {z:AV} {q:Value} {ad:Addr},a.eval x= .pointer (some ad)->K z E.O aG []=some r->VR E z q->vU o E.w ad.block->(∀ (wr rd:Nat->Prop) (Q:Value->World->Prop),rd ad.block->Q q E.w->acc P wr rd (loadVar t ad) Q E.w)->Does P X o E a.eval op K r:=fun e hr hz hb hw=>
  Does.val h hr hz fun Q hq=>by
   unfold execOp
   rw[hop]
   dsimp only
   rw[jL,e]
   exact hw _ _ _ hb hq
 have slr:∀ {ts:aC} {rows:List ts.D} {deps:List Nat} {b off len cap i:Nat},TL E deps ts rows (.slice (some ⟨b,off,none⟩) len cap)->i<rows.length->vU o E.w b∧∃ c e f,E.w.heap[b]? =some (.cells c e f)∧dG E (ts.oZ (rows.getD i ts.zero)) ((c.toList.drop (off+i*ts.n)).take (ts.oZ (rows.getD i ts.zero)).length):=by
  intro ts rows deps b off len cap i hs hi
  obtain⟨_,_,_,e1,e2,_,e3⟩:=hs
  cases e1
  obtain⟨b',off',c,e,f,e4,hb,hw,hrows⟩:=e3 (fun x=>by rw[x] at hi;exact absurd hi (Nat.not_lt_zero _))
  cases e4
  refine⟨?_,c,e,f,hw,?_⟩
  ·rcases hb with hb|⟨j,_,hb|⟨_,_,_,hl,hb,_⟩⟩
   ·exact .inl (h.zx _ hb).2.1
   ·exact .inl (h.kept _ (h.fg _ hb.2)).2.2
   ·exact .inl (h.us _ (h.own j _ ⟨_,hl,rfl⟩ hb).2.2.2)
  ·have:=(pG rows _ i _ hrows (sF (d:=ts.zero) hi)).1
   rw[List.drop_drop] at this
   rw[Hl]
   exact NT _ _ _ this
 unfold fP at hr
 rw[hop] at hr
 dsimp only at hr
 split at hr
 ·rename_i ti id off h1 h2
  have e2:=dR ht h2
  split at hr
  ·rename_i cs hlo
   split at hr
   ·rename_i v hp
    unfold VR at e2
    obtain⟨cs',b,g1,g2,g3⟩:=e2
    rw[hlo] at g1;cases g1
    obtain⟨b',c,tt,f,k1,k2,k3,k4⟩:=h.obj id _ hlo
    rw[g2] at k1;cases k1
    obtain⟨u,m1,m2⟩:=ql (P:=P) (base:=0) T h1 hp k2 (by simpa [List.take_of_length_le (Nat.le_of_eq (lT k4))] using k4)
    refine fin g3 hr m1 (.inl (h.us _ (h.own id b ⟨_,hlo,rfl⟩ g2).2.2.2)) fun wr rd Q hrd hq=> ?_
    have:=m2 wr rd Q hrd hq
    rwa [Nat.zero_add] at this
   ·cases hr
  ·cases hr
 ·rename_i ti id i off h1 h2
  have e2:=dR ht h2
  split at hr
  ·rename_i ts rows wr hlo
   split at hr
   ·rename_i vV n ha
    obtain⟨hb,hr⟩:=aX hr
    rw[Bool.and_eq_true] at hb
    obtain⟨hlen,hr⟩:=aP hr
    have h0:off=0:=aeh hb.2
    unfold VR at e2
    obtain⟨ts',rows',wr',b,g1,g2,g3,g4,g5⟩:=e2
    rw[hlo] at g1;cases g1
    have ho:=h.obj id _ hlo
    unfold fV at ho
    rw[g2] at ho
    obtain⟨c,tt,f,k1,k2,k3,k4,k5⟩:=ho
    obtain⟨u,m1,m2⟩:=xU (P:=P) (E:=E) (y:=0) T ha (aeh hb.1) k1 rfl (by simpa using k5) hlen
    rw[h0,Nat.add_zero] at g5
    exact fin g5 hr m1 (.inl (h.us _ (h.own id b ⟨_,hlo,rfl⟩ g2).2.2.2)) fun wr rd Q hrd hq=>by
     have:=m2 wr rd Q hrd hq
     rwa [Nat.zero_add] at this
   split at hr
   ·rename_i v hp
    unfold VR at e2
    obtain⟨ts',rows',wr',b,g1,g2,g3,g4,g5⟩:=e2
    rw[hlo] at g1;cases g1
    have ho:=h.obj id _ hlo
    unfold fV at ho
    rw[g2] at ho
    obtain⟨c,tt,f,k1,k2,k3,k4,k5⟩:=ho
    have hi:i.toNat<rows.length:=by omega
    have hrow:=(pG rows _ i.toNat _ k5 (sF (d:=ts.zero) hi)).1
    obtain⟨u,m1,m2⟩:=ql (P:=P) (base:=i.toNat*ts.n) T h1 hp k1 (by rw[Hl];exact NT _ _ _ hrow)
    exact fin g5 hr m1 (.inl (h.us _ (h.own id b ⟨_,hlo,rfl⟩ g2).2.2.2)) fun wr rd Q hrd hq=>m2 wr rd Q hrd hq
   ·cases hr
  ·cases hr
 ·rename_i ti ts rows deps i off h1 h2
  have e2:=dR ht h2
  split at hr
  ·rename_i vV n ha
   obtain⟨hb,hr⟩:=aX hr
   rw[Bool.and_eq_true] at hb
   obtain⟨hlen,hr⟩:=aP hr
   have h0:off=0:=aeh hb.2
   unfold VR at e2
   obtain⟨b,o',len,cap,g1,g2,g3,g4⟩:=e2
   have hi:i.toNat<rows.length:=by omega
   have hrd:=(slr g1 hi).1
   obtain⟨_,_,_,q1,q2,_,q3⟩:=g1
   cases q1
   obtain⟨b',off',c,e,f,q4,_,hw,hrows⟩:=q3 (fun x=>by rw[x] at hi;exact absurd hi (Nat.not_lt_zero _))
   cases q4
   obtain⟨u,m1,m2⟩:=xU (P:=P) (E:=E) (y:=o') T ha (aeh hb.1) hw rfl hrows hlen
   rw[h0,Nat.add_zero] at g4
   exact fin g4 hr m1 hrd fun wr rd Q hrd hq=>m2 wr rd Q hrd hq
  split at hr
  ·rename_i v hp
   unfold VR at e2
   obtain⟨b,o',len,cap,g1,g2,g3,g4⟩:=e2
   have hi:i.toNat<rows.length:=by omega
   obtain⟨hrd,c,e,f,hw,hrow⟩:=slr g1 hi
   obtain⟨u,m1,m2⟩:=ql (P:=P) (base:=o'+i.toNat*ts.n) T h1 hp hw hrow
   exact fin g4 hr m1 hrd fun wr rd Q hrd hq=>m2 wr rd Q hrd hq
  ·cases hr
 ·cases hr
theorem NU(T:gU P C){t:TypeId}{x:Operand}{f:Nat}(h:OK X o E aG)(ht:kD E tm a.tmps)(hop:op.op= .fieldAddr t x f)(hr:fP C Rc tm E.O aG op K=some r):Does P X o E a.eval op K r:=by
 have fin:∀ {z:AV} {ti:TI} {off ft b y:Nat},look C.ty t=some ti->qL ti f=some (off,ft)->(!xK C ft)=false->a.eval x= .pointer (some ⟨b,y,none⟩)->K z E.O aG []=some r->VR E z (.pointer (some ⟨b,y+off,none⟩))->Does P X o E a.eval op K r:=by
  intro z ti off ft b y hl hf hbig e hr hz
  refine Does.val h hr hz fun Q hq=> ?_
  unfold execOp
  rw[hop]
  dsimp only
  rw[jL,e]
  unfold Instr.fieldAt
  obtain⟨fs,fl,hU,hfl,rfl,rfl⟩:=T.field hl hf
  rw[ak,aB hU]
  dsimp only
  rw[hfl]
  dsimp only
  rw[ak]
  show acc P _ _ (do pure (Value.pointer (some (<- fieldPlace ⟨b,y,none⟩ fl)))) _ _
  rw[ak]
  unfold fieldPlace
  rw[ak]
  unfold xK at hbig
  cases hlf:look C.ty fl.type with
  |none=>rw[hlf] at hbig;cases hbig
  |some tf=>
   rw[hlf] at hbig
   obtain⟨i,hi,hsz,_⟩:=T.info _ tf hlf
   rw[fM hi,hsz]
   have:tf.size≠0:=fun e=>by simp[e] at hbig
   rw[if_neg this,ou]
   exact hq
 unfold fP at hr
 rw[hop] at hr
 dsimp only at hr
 split at hr
 ·rename_i ti v h1 h2
  have e2:=dR ht h2
  split at hr
  ·rename_i off ft id y hf
   obtain⟨hb,hr⟩:=gG hr
   unfold VR at e2
   obtain⟨cs,b,g1,g2,g3⟩:=e2
   exact fin h1 hf hb g3 hr (by unfold VR;exact⟨cs,b,g1,g2,rfl⟩)
  ·rename_i off ft id i y hf
   obtain⟨hb,hr⟩:=gG hr
   unfold VR at e2
   obtain⟨ts,rows,wr,b,g1,g2,g3,g4,g5⟩:=e2
   exact fin h1 hf hb g5 hr (by unfold VR;exact⟨ts,rows,wr,b,g1,g2,g3,g4,by rw[Nat.add_assoc]⟩)
  ·rename_i off ft ts rows deps i y hf
   obtain⟨hb,hr⟩:=gG hr
   unfold VR at e2
   obtain⟨b,o',len,cap,g1,g2,g3,g4⟩:=e2
   exact fin h1 hf hb g4 hr (by unfold VR;exact⟨b,o',len,cap,g1,g2,g3,by rw[Nat.add_assoc]⟩)
  ·cases hr
 ·cases hr
theorem kL(h:OK X o E aG){x:AV}{v:Value}{q:Rows}(hq:rowsOf E.O x=some q)(hv:VR E x v):TL E q.deps q.ts q.rows v:=by
 unfold rowsOf at hq
 split at hq
 ·cases hq;unfold VR at hv;exact hv
 ·rename_i id
  split at hq
  ·rename_i ts rows wr hl
   cases hq
   unfold VR at hv
   obtain⟨ts',rows',wr',g1,g2⟩:=hv
   rw[hl] at g1;cases g1
   have ho:=h.obj id _ hl
   unfold fV at ho
   have hcap:rows.length<=(E.ρ id).cap:=by
    cases hb:(E.ρ id).b with
    |none=>rw[hb] at ho;rw[ho.1];exact Nat.zero_le _
    |some b=>rw[hb] at ho;obtain⟨c,t,f,_,_,k,_⟩:=ho;exact k
   refine⟨_,_,_,g2,rfl,hcap,fun hd=> ?_⟩
   cases hb:(E.ρ id).b with
   |none=>rw[hb] at ho;exact absurd ho.1 hd
   |some b=>
    rw[hb] at ho
    obtain⟨c,t,f,k1,k2,k3,k4,k5⟩:=ho
    exact⟨b,0,c,t,f,rfl,.inr ⟨id,by simp,.inr ⟨ts,rows,wr,hl,hb,by simp⟩⟩,k1,by simpa using k5⟩
  ·cases hq
 ·rename_i id lo hi
  split at hq
  ·rename_i ts rows wr hl
   cases hq
   unfold VR at hv
   obtain⟨ts',rows',wr',a,cap,g1,g2,g3,g4,g5,g6,g7⟩:=hv
   rw[hl] at g1;cases g1
   have ho:=h.obj id _ hl
   unfold fV at ho
   refine⟨a,_,cap,g5,by simp;omega,g6,fun hd=> ?_⟩
   have hlt:lo<hi:=by
    rcases Int.lt_or_le lo hi with x|x
    ·exact x
    ·exfalso
     apply hd
     have:lo=hi:=by omega
     subst this
     apply List.eq_nil_of_length_eq_zero
     simp
   obtain⟨b,hb,rfl⟩:=g7 hlt
   rw[hb] at ho
   obtain⟨c,t,f,k1,k2,k3,k4,k5⟩:=ho
   refine⟨b,_,c,t,f,rfl,.inr ⟨id,by simp,.inr ⟨ts,rows,wr,hl,hb,?_⟩⟩,k1,?_⟩
   ·rw[<- Nat.add_mul]
    exact Nat.mul_le_mul_right _ (by omega)
   ·exact tN _ _ lo.toNat (ny _ _ hi.toNat k5) (by simp;omega)
  ·cases hq
 ·cases hq
end ops
end Go.E
end
section
namespace Go.E
variable {E:Env} {tm:List (Nat×AV)} {a:Act} {R:Type} {C:kC} {Rc:ah} {P:Program} {X:Ctx} {o:Ow} {aG:Nat}
section ops
variable {op:Oper} {K:KK R} {r:R}
theorem lX{b:Builtin}{args:Array Operand}{tys:Array TypeId}(hop:op.op= .call ⟨.builtin b,args,tys⟩){wr rd:Nat->Prop}{Q:Next->World->Prop}{w:World}:
  acc P wr rd (execOp a.eval op) Q w↔acc P wr rd (builtin b tys op.type (args.map fun| .const _=>true| _=>false) (args.map a.eval)) Q w:=by
 unfold execOp
 rw[hop]
 dsimp only
 unfold resolve
 dsimp only
 rw[ak,bY]
 unfold invoke
 exact Iff.rfl
theorem IB{args:Array Operand}{v:AV}(ht:kD E tm a.tmps)(h:evs tm args.toList=some [v]):∃ u,args.map a.eval= #[u]∧VR E v u:=by
 have:=Bl ht h
 unfold dG at this
 obtain⟨u,q,h1,h2,h3⟩:=this
 unfold dG at h3;subst h3
 refine⟨u,?_,h2⟩
 apply Array.ext'
 simpa using h1
theorem CY{args:Array Operand}{v v':AV}(ht:kD E tm a.tmps)(h:evs tm args.toList=some [v,v']):∃ u u',args.map a.eval= #[u,u']∧VR E v u∧VR E v' u':=by
 have:=Bl ht h
 unfold dG at this
 obtain⟨u,q,h1,h2,h3⟩:=this
 unfold dG at h3
 obtain⟨u',q',h4,h5,h6⟩:=h3
 unfold dG at h6;subst h6 h4
 refine⟨u,u',?_,h2,h5⟩
 apply Array.ext'
 simpa using h1
theorem Ho{α:Type}{A:Array α}{t:α}(h:A.toList=[t]):A= #[t]:=by apply Array.ext';simpa using h
theorem aeA{α:Type}{A:Array α}{t t':α}(h:A.toList=[t,t']):A= #[t,t']:=by apply Array.ext';simpa using h
theorem ahg(T:gU P C){args:Array Operand}{tys:Array TypeId}(h:OK X o E aG)(ht:kD E tm a.tmps)(hop:op.op= .call ⟨.builtin .len,args,tys⟩)(hr:fP C Rc tm E.O aG op K=some r):Does P X o E a.eval op K r:=by
 have fin:∀ {n:Nat} {t:TypeId} {u:Value},args.map a.eval= #[u]->tys= #[t]->K (.int .i64 (n:Int)) E.O aG []=some r->(P.underlying t=some .string∧(∃ s,u= .string s∧n=s.size)∨∃ e,P.underlying t=some (.slice e)∧∃ ad cap,u= .slice ad n cap)->Does P X o E a.eval op K r:=by
  intro n t u e1 e2 hr hu
  refine Does.val (u:= .int .i64 n) h hr (by unfold VR;rfl) fun Q hq=> ?_
  rw[lX hop,e1,e2]
  unfold builtin
  dsimp only
  rw[jL]
  unfold Builtin.len_
  simp only[List.getElem?_toArray,List.getElem?_cons_zero]
  rcases hu with ⟨hU,s,rfl,rfl⟩|⟨e,hU,ad,cap,rfl⟩
  ·rw[ak,aB hU]
   exact hq
  ·rw[ak,aB hU]
   exact hq
 unfold fP at hr
 rw[hop] at hr
 dsimp only at hr
 split at hr
 ·rename_i s t h1 h2
  obtain⟨hs,hr⟩:=gG hr
  obtain⟨u,e1,e2⟩:=IB ht h1
  unfold VR at e2
  exact fin e1 (Ho h2) hr (.inl ⟨T.Zw (by simpa using hs),s,e2,rfl⟩)
 ·rename_i id t h1 h2
  obtain⟨u,e1,e2⟩:=IB ht h1
  split at hr
  ·rename_i q hq
   obtain⟨kt,tv,dv⟩:=q
   obtain⟨k,d,hU,_⟩:=T.CG hq
   split at hr
   ·rename_i tH vt es hlo
    unfold VR at e2
    obtain⟨m,b,g1,g2,rfl⟩:=e2
    rw[hlo] at g1;cases g1
    obtain⟨b',ent,clk,k1,k2,k3⟩:=h.obj id _ hlo
    rw[g2] at k1;cases k1
    have hlen:ent.size=es.length:=by
     have:∀ (es:List (tH.D×vt.D)) (l:List MapEntry),aer tH vt es l->l.length=es.length:=by
      intro es
      induction es with
      |nil=>intro l h;rw[show l=[] from h];rfl
      |cons x r ih=>intro l h;obtain⟨e,l',rfl,_,_,h⟩:=h;simp[ih l' h]
     have:=this es _ k3
     simpa using this
    refine Does.val (u:= .int .i64 es.length) h hr (by unfold VR;rfl) fun Q hq=> ?_
    rw[lX hop,e1,Ho h2]
    unfold builtin
    dsimp only
    rw[jL]
    unfold Builtin.len_
    simp only[List.getElem?_toArray,List.getElem?_cons_zero]
    rw[ak,aB hU]
    dsimp only
    rw[ak]
    refine⟨.inl (h.us _ (h.own id b ⟨_,hlo,rfl⟩ g2).2.2.2),_,k2,(fun _ _ _ x=>by cases x),rfl,?_⟩
    show Q (.value (.int .i64 (ent.size:Int))) E.w
    rw[hlen];exact hq
   ·cases hr
  ·cases hr
 ·rename_i v t hne hne' h1 h2
  obtain⟨u,e1,e2⟩:=IB ht h1
  split at hr
  ·rename_i ts hsl
   obtain⟨ti,te,_,hU,_⟩:=T.D7 hsl
   split at hr
   ·unfold VR at e2
    exact fin (n:=0) e1 (Ho h2) hr (.inr ⟨_,hU,_,_,e2⟩)
   ·split at hr
    ·rename_i q hq
     obtain⟨ad,len,cap,g1,g2,_,_⟩:=kL h hq e2
     subst g2
     exact fin e1 (Ho h2) hr (.inr ⟨_,hU,_,_,g1⟩)
    ·cases hr
  ·cases hr
 ·cases hr
theorem ahh{args:Array Operand}{tys:Array TypeId}(h:OK X o E aG)(ht:kD E tm a.tmps)(hop:op.op= .call ⟨.builtin .min,args,tys⟩)(hr:fP C Rc tm E.O aG op K=some r):Does P X o E a.eval op K r:=by
 unfold fP at hr
 rw[hop] at hr
 dsimp only at hr
 split at hr
 ·rename_i k x k' y h1
  obtain⟨_,hr⟩:=aX hr
  obtain⟨u,u',e1,e2,e3⟩:=CY ht h1
  unfold VR at e2 e3;subst e2 e3
  refine Does.val h hr (by unfold VR;rfl) fun Q hq=> ?_
  rw[lX hop,e1]
  exact hq
 ·cases hr
theorem ahi{args:Array Operand}{tys:Array TypeId}(h:OK X o E aG)(ht:kD E tm a.tmps)(hop:op.op= .call ⟨.builtin .max,args,tys⟩)(hr:fP C Rc tm E.O aG op K=some r):Does P X o E a.eval op K r:=by
 unfold fP at hr
 rw[hop] at hr
 dsimp only at hr
 split at hr
 ·rename_i k x k' y h1
  obtain⟨_,hr⟩:=aX hr
  obtain⟨u,u',e1,e2,e3⟩:=CY ht h1
  unfold VR at e2 e3;subst e2 e3
  refine Does.val h hr (by unfold VR;rfl) fun Q hq=> ?_
  rw[lX hop,e1]
  exact hq
 ·cases hr
theorem xW{wr rd:Nat->Prop}{k:IntKind}{n:Int}{y:Nat}{code:BoundsCode}{Q:Nat->World->Prop}{w:World}(h0:0<=n)(h1:n<=(y:Int))(hq:Q n.toNat w):acc P wr rd (Instr.sliceBound (.int k n) y code) Q w:=by
 unfold Instr.sliceBound
 rw[ak,tZ]
 dsimp only
 rw[if_pos ⟨h0,h1⟩]
 exact hq
def BVR(E:Env)(x:Option AV)(v:Option Value):Prop:=(x=none∧v=none)∨∃ y u,x=some y∧v=some u∧VR E y u
theorem mY(ht:kD E tm a.tmps){x:Option Operand}{y:Option AV}(h:xg tm x=some y):BVR E y (x.map a.eval):=by
 cases x with
 |none=>cases h;exact .inl ⟨rfl,rfl⟩
 |some x=>
  unfold xg at h
  obtain⟨z,h1,rfl⟩:=Option.map_eq_some_iff.1 h
  exact .inr ⟨z,_,rfl,rfl,dR ht h1⟩
theorem sG{wr rd:Nat->Prop}{isSlice:Bool}{len cap:Nat}{lo hi:Option AV}{l v:Option Value}{Q:Nat×Nat×Nat->World->Prop}{w:World}(hl:BVR E lo l)(hv:BVR E hi v)(hcap:len<=cap){m n:Nat}
  (hlo:(lo=none∧m=0)∨∃ k z,lo=some (.int k z)∧0<=z∧z<=(n:Int)∧m=z.toNat) (hhi:(hi=none∧n=len)∨∃ k z,hi=some (.int k z)∧0<=z∧z<=(len:Int)∧n=z.toNat) (hq:Q (m,n,cap) w):
  acc P wr rd (Instr.sliceBounds isSlice len cap l v none) Q w:=by
 unfold Instr.sliceBounds
 dsimp only
 rw[ak,bY]
 have low:∀ (Q':Nat->World->Prop),Q' m w->acc P wr rd (match l with|some v=>Instr.sliceBound v n (if (none:Option Value).isSome=true then .slice3C else .sliceB)|none=>pure 0) Q' w:=by
  intro Q' hq'
  rcases hlo with ⟨rfl,rfl⟩|⟨k,z,rfl,z0,z1,rfl⟩
  ·rcases hl with ⟨_,rfl⟩|⟨_,_,e,_⟩
   ·exact hq'
   ·cases e
  ·rcases hl with ⟨e,_⟩|⟨_,u,e,rfl,e2⟩
   ·cases e
   ·cases e;unfold VR at e2;subst e2
    exact xW z0 z1 hq'
 have ai8:∀ Q':Nat×Nat×Nat->World->Prop,Q' (m,n,cap) w->acc P wr rd (match l with
   |some v=>do let l <- Instr.sliceBound v n (if (none:Option Value).isSome=true then .slice3C else .sliceB);pure (l,n,cap)
   |none=>do let l <- pure 0;pure (l,n,cap)) Q' w:=by
  intro Q' hq'
  have:=low (fun x w=>Q' (x,n,cap) w) hq'
  cases l with
  |none=>exact this
  |some v=>dsimp only at this ⊢;rw[ak];exact this
 rcases hhi with ⟨rfl,rfl⟩|⟨k,z,rfl,z0,z1,rfl⟩
 ·rcases hv with ⟨_,rfl⟩|⟨_,_,e,_⟩
  ·dsimp only
   rw[ak,bY]
   exact ai8 _ hq
  ·cases e
 ·rcases hv with ⟨e,_⟩|⟨_,u,e,rfl,e2⟩
  ·cases e
  ·cases e;unfold VR at e2;subst e2
   dsimp only
   rw[ak]
   refine xW z0 (by omega) ?_
   exact ai8 _ hq
theorem ZH(T:gU P C){t:TypeId}{x:Operand}{lo hi:Option Operand}(h:OK X o E aG)(ht:kD E tm a.tmps)(hop:op.op= .slice t x lo hi none)(hr:fP C Rc tm E.O aG op K=some r):Does P X o E a.eval op K r:=by
 have ex:∀ {d:TypeDesc} {Q:Next->World->Prop},P.underlying t=some d->(∀ n e,d≠ .array n e)->acc P (wC o E.w) (vU o E.w) (Instr.slice t (a.eval x) (lo.map a.eval) (hi.map a.eval) none) (fun u w=>Q (.value u) w) E.w->
   acc P (wC o E.w) (vU o E.w) (execOp a.eval op) Q E.w:=by
  intro d Q hU hd hq
  unfold execOp
  rw[hop]
  dsimp only
  rw[jL]
  unfold Instr.sliceAt
  rw[ak,aB hU]
  cases d<;>first|exact hq|exact absurd rfl (hd _ _)
 unfold fP at hr
 rw[hop] at hr
 dsimp only at hr
 have viewed:∀ {w:AV} {l v:Option AV} {q:Rows} {ts':aC},ev tm x=some w->xg tm lo=some l->xg tm hi=some v->rowsOf E.O w=some q->D7 C t=some ts'->
   (bif !Nat.beq ts'.n q.ts.n then none else kG q.rows l v fun rows=>K (.ro q.ts rows q.deps) E.O aG [])=some r->Does P X o E a.eval op K r:=by
  intro w l v q ts' h1 h2 h3 hq hsl hr
  have e1:=dR ht h1
  have e2:=mY ht h2
  have e3:=mY ht h3
  obtain⟨hb,hr⟩:=gG hr
  have hm:ts'.n=q.ts.n:=aeh (by simpa using hb)
  obtain⟨ti,te,_,hU,hl2,hrow,_⟩:=T.D7 hsl
  obtain⟨ie,hie,hsz,_,_,hrw⟩:=T.info _ te hl2
  have hn':=(hrw ts' hrow).1
  obtain⟨ad,len,cap,g1,g2,hcap,g3⟩:=kL h hq e1
  have fin:∀ {m n:Nat},((l=none∧m=0)∨∃ k z,l=some (.int k z)∧0<=z∧z<=(n:Int)∧m=z.toNat)->((v=none∧n=len)∨∃ k z,v=some (.int k z)∧0<=z∧z<=(len:Int)∧n=z.toNat)->
    K (.ro q.ts ((q.rows.take n).drop m) q.deps) E.O aG []=some r->Does P X o E a.eval op K r:=by
   intro m n hm' hn hr
   have hmn:m<=n:=by
    rcases hm' with ⟨_,rfl⟩|⟨k,z,_,z0,z1,rfl⟩<;>omega
   have hnl:n<=len:=by
    rcases hn with ⟨_,rfl⟩|⟨k,z,_,z0,z1,rfl⟩<;>omega
   refine Does.val (u:= .slice (if cap=m then ad else ad.map (·.add (m*q.ts.n))) (n-m) (cap-m)) h hr ?_ fun Q hq=>ex hU (fun _ _ x=>by cases x) ?_
   ·unfold VR
    refine⟨_,_,_,rfl,by simp;omega,by omega,fun hd=> ?_⟩
    have hlen:0<((q.rows.take n).drop m).length:=by
     cases hx:(q.rows.take n).drop m with
     |nil=>exact absurd hx hd
     |cons _ _=>simp
    have hne:q.rows≠[]:=fun x=>by rw[x] at hlen;simp at hlen
    obtain⟨b,off,c,e,f,k1,k2,k3,k4⟩:=g3 hne
    subst k1
    have hc:cap≠m:=by simp at hlen;omega
    rw[if_neg hc]
    refine⟨b,off+m*q.ts.n,c,e,f,by rw[Option.map_some,ou],?_,k3,?_⟩
    ·have hle:off+m*q.ts.n+(n-m)*q.ts.n<=off+len*q.ts.n:=by
      rw[Nat.add_assoc, <- Nat.add_mul,Nat.add_sub_cancel' hmn]
      exact Nat.add_le_add_left (Nat.mul_le_mul_right _ hnl) _
     rcases k2 with k2|⟨i,hi,k2|⟨ts,rows,wr,j1,j2,j3⟩⟩
     ·exact .inl k2
     ·exact .inr ⟨i,hi,.inl k2⟩
     ·exact .inr ⟨i,hi,.inr ⟨ts,rows,wr,j1,j2,Nat.le_trans hle j3⟩⟩
    ·have:=tN _ _ m (ny _ _ n k4) (by simp;omega)
     rwa [List.drop_drop] at this
   ·unfold Instr.slice
    rw[ak,aB hU,g1]
    dsimp only
    rw[ak]
    refine sG e2 e3 hcap hm' hn ?_
    dsimp only
    rw[ak,fM hie,hsz,hn',hm]
    exact hq
  unfold kG at hr
  split at hr
  ·exact fin (m:=0) (n:=len) (.inl ⟨rfl,rfl⟩) (.inl ⟨rfl,rfl⟩) (by rw[g2,List.take_of_length_le (Nat.le_refl _),List.drop_zero];exact hr)
  ·obtain⟨j1,hr⟩:=aP hr
   obtain⟨j2,hr⟩:=aP hr
   exact fin (n:=len) (.inr ⟨_,_,rfl,j1,by omega,rfl⟩) (.inl ⟨rfl,rfl⟩) (by rw[g2,List.take_of_length_le (Nat.le_refl _)];exact hr)
  ·obtain⟨j1,hr⟩:=aP hr
   obtain⟨j2,hr⟩:=aP hr
   exact fin (m:=0) (.inl ⟨rfl,rfl⟩) (.inr ⟨_,_,rfl,j1,by omega,rfl⟩) (by rw[List.drop_zero];exact hr)
  ·obtain⟨j1,hr⟩:=aP hr
   obtain⟨j2,hr⟩:=aP hr
   obtain⟨j3,hr⟩:=aP hr
   exact fin (.inr ⟨_,_,rfl,j1,by omega,rfl⟩) (.inr ⟨_,_,rfl,by omega,by omega,rfl⟩) hr
  ·cases hr
 cases hsub:dN t C.subs with
 |true=>
 rw[hsub,cond_true] at hr
 split at hr
 ·
  rename_i id l v h1 h2 h3
  split at hr
  ·rename_i ts rows wr ts' hlo hsl
   obtain⟨hb,hr⟩:=aX hr
   have hm:ts'.n=ts.n:=aeh hb
   have e1:=dR ht h1
   have e2:=mY ht h2
   have e3:=mY ht h3
   obtain⟨ti,te,_,hU,hl2,hrow,_⟩:=T.D7 hsl
   obtain⟨ie,hie,hsz,_,_,hrw⟩:=T.info _ te hl2
   have hn':=(hrw ts' hrow).1
   unfold VR at e1
   obtain⟨ts1,Iy,wr1,g1,g2⟩:=e1
   rw[hlo] at g1;cases g1
   have ho:=h.obj id _ hlo
   unfold fV at ho
   have hcap:rows.length<=(E.ρ id).cap:=by
    cases hbk:(E.ρ id).b with
    |none=>rw[hbk] at ho;rw[ho.1];exact Nat.zero_le _
    |some b=>rw[hbk] at ho;obtain⟨c,t,f,_,_,k,_⟩:=ho;exact k
   have fin:∀ {m n:Int},((l=none∧m=0)∨∃ k,l=some (.int k m)∧0<=m∧m<=n)->((v=none∧n=rows.length)∨∃ k,v=some (.int k n)∧0<=n∧n<=(rows.length:Int))->
     K (.sub id m n) E.O aG []=some r->Does P X o E a.eval op K r:=by
    intro m n hm' hn hr
    have hmn:0<=m∧m<=n:=by
     rcases hm' with ⟨_,rfl⟩|⟨k,_,z0,z1⟩
     ·rcases hn with ⟨_,rfl⟩|⟨k,_,z0,z1⟩<;>omega
     ·omega
    have hnl:n<=(rows.length:Int):=by
     rcases hn with ⟨_,rfl⟩|⟨k,_,z0,z1⟩<;>omega
    have hbl:=fun Q=>sG (Q:=Q) (P:=P) (E:=E) (wr:=wC o E.w) (rd:=vU o E.w) (w:=E.w) (isSlice:=true) (len:=rows.length) (cap:=(E.ρ id).cap) e2 e3 hcap (m:=m.toNat) (n:=n.toNat)
     (by
      rcases hm' with ⟨e,rfl⟩|⟨k,e,z0,z1⟩
      ·exact .inl ⟨e,rfl⟩
      ·exact .inr ⟨k,m,e,z0,by omega,rfl⟩)
     (by
      rcases hn with ⟨e,rfl⟩|⟨k,e,z0,z1⟩
      ·exact .inl ⟨e,by simp⟩
      ·exact .inr ⟨k,n,e,z0,z1,rfl⟩)
    refine Does.val (u:= .slice (if (E.ρ id).cap=m.toNat then ((E.ρ id).b.map fun b=>(⟨b,0,none⟩:Addr)) else ((E.ρ id).b.map fun b=>(⟨b,0,none⟩:Addr)).map (·.add (m.toNat*ts.n))) (n.toNat-m.toNat) ((E.ρ id).cap-m.toNat)) h hr ?_ fun Q hq=>ex hU (fun _ _ x=>by cases x) ?_
    ·unfold VR
     refine⟨ts,rows,wr,_,_,hlo,hmn.1,hmn.2,hnl,by congr 1;omega,by omega,fun hlt=> ?_⟩
     cases hbk:(E.ρ id).b with
     |none=>rw[hbk] at ho;rw[ho.1] at hnl;simp at hnl;omega
     |some b=>
      rw[if_neg (by omega)]
      exact⟨b,rfl,by simp[ou]⟩
    ·unfold Instr.slice
     rw[ak,aB hU,g2]
     dsimp only
     rw[ak]
     refine hbl _ ?_
     dsimp only
     rw[ak,fM hie,hsz,hn',hm]
     exact hq
   unfold jA at hr
   split at hr
   ·exact fin (.inl ⟨rfl,rfl⟩) (.inl ⟨rfl,rfl⟩) hr
   ·obtain⟨j1,hr⟩:=aP hr
    obtain⟨j2,hr⟩:=aP hr
    exact fin (.inr ⟨_,rfl,j1,j2⟩) (.inl ⟨rfl,rfl⟩) hr
   ·obtain⟨j1,hr⟩:=aP hr
    obtain⟨j2,hr⟩:=aP hr
    exact fin (.inl ⟨rfl,rfl⟩) (.inr ⟨_,rfl,j1,j2⟩) hr
   ·obtain⟨j1,hr⟩:=aP hr
    obtain⟨j2,hr⟩:=aP hr
    obtain⟨j3,hr⟩:=aP hr
    exact fin (.inr ⟨_,rfl,j1,j2⟩) (.inr ⟨_,rfl,by omega,j3⟩) hr
   ·cases hr
  ·cases hr
 ·
  rename_i id i off l v h1 h2 h3
  split at hr
  ·rename_i ts rows wr ts' nn hlo ha
   have e1:=dR ht h1
   have e2:=mY ht h2
   have e3:=mY ht h3
   obtain⟨hb,hr⟩:=aX hr
   obtain⟨hi0,hr⟩:=aP hr
   obtain⟨ZI,hr⟩:=aP hr
   rw[Bool.and_eq_true] at hb
   have hm:ts'.n=ts.n:=aeh hb.1
   have hoff:off=0:=aeh hb.2
   obtain⟨ti,te,_,_,_,hU,hl2,hrow,_⟩:=T.uS ha
   obtain⟨ie,hie,hsz,_,_,hrw⟩:=T.info _ te hl2
   have hn':=(hrw ts' hrow).1
   unfold VR at e1
   obtain⟨ts1,Iy,wr1,b,g1,g2,g3,g4,g5⟩:=e1
   rw[hlo] at g1;cases g1
   rw[hi0,hoff] at g5
   have g5:a.eval x= .pointer (some ⟨b,0,none⟩):=by rw[g5];simp
   have fin:∀ {m n:Int},((l=none∧m=0)∨∃ k,l=some (.int k m)∧0<=m∧m<=n)->((v=none∧n=nn)∨∃ k,v=some (.int k n)∧0<=n∧n<=(nn:Int))->
     K (.sub id m n) E.O aG []=some r->Does P X o E a.eval op K r:=by
    intro m n hm' hn hr
    have hmn:0<=m∧m<=n:=by
     rcases hm' with ⟨_,rfl⟩|⟨k,_,z0,z1⟩
     ·rcases hn with ⟨_,rfl⟩|⟨k,_,z0,z1⟩<;>omega
     ·omega
    have hnl:n<=(nn:Int):=by
     rcases hn with ⟨_,rfl⟩|⟨k,_,z0,z1⟩<;>omega
    have hbl:=fun Q=>sG (Q:=Q) (P:=P) (E:=E) (wr:=wC o E.w) (rd:=vU o E.w) (w:=E.w) (isSlice:=false) (len:=nn) (cap:=nn) e2 e3 (Nat.le_refl _) (m:=m.toNat) (n:=n.toNat)
     (by
      rcases hm' with ⟨e,rfl⟩|⟨k,e,z0,z1⟩
      ·exact .inl ⟨e,rfl⟩
      ·exact .inr ⟨k,m,e,z0,by omega,rfl⟩)
     (by
      rcases hn with ⟨e,rfl⟩|⟨k,e,z0,z1⟩
      ·exact .inl ⟨e,by simp⟩
      ·exact .inr ⟨k,n,e,z0,z1,rfl⟩)
    refine Does.val (u:= .slice (some (if nn=m.toNat then ⟨b,0,none⟩ else Addr.add ⟨b,0,none⟩ (m.toNat*ts.n))) (n.toNat-m.toNat) (nn-m.toNat)) h hr ?_ fun Q hq=> ?_
    ·unfold VR
     refine⟨ts,rows,wr,_,_,hlo,hmn.1,hmn.2,by omega,by congr 1;omega,by omega,fun hlt=> ?_⟩
     rw[if_neg (by omega)]
     exact⟨b,g2,by simp[ou]⟩
    ·unfold execOp
     rw[hop]
     dsimp only
     rw[jL,g5]
     unfold Instr.sliceAt
     rw[ak,aB hU]
     dsimp only
     rw[ak]
     unfold Instr.sureAddr
     dsimp only
     rw[bY,ak]
     refine hbl _ ?_
     dsimp only
     rw[ak,fM hie,hsz,hn',hm]
     exact hq
   unfold jA at hr
   split at hr
   ·exact fin (.inl ⟨rfl,rfl⟩) (.inl ⟨rfl,rfl⟩) hr
   ·obtain⟨j1,hr⟩:=aP hr
    obtain⟨j2,hr⟩:=aP hr
    exact fin (.inr ⟨_,rfl,j1,j2⟩) (.inl ⟨rfl,rfl⟩) hr
   ·obtain⟨j1,hr⟩:=aP hr
    obtain⟨j2,hr⟩:=aP hr
    exact fin (.inl ⟨rfl,rfl⟩) (.inr ⟨_,rfl,j1,j2⟩) hr
   ·obtain⟨j1,hr⟩:=aP hr
    obtain⟨j2,hr⟩:=aP hr
    obtain⟨j3,hr⟩:=aP hr
    exact fin (.inr ⟨_,rfl,j1,j2⟩) (.inr ⟨_,rfl,by omega,j3⟩) hr
   ·cases hr
  ·cases hr
 ·rename_i w l v hne _ h1 h2 h3
  split at hr
  ·rename_i q ts' hq hsl
   exact viewed h1 h2 h3 hq hsl hr
  ·cases hr
 ·cases hr
 |false=>
 rw[hsub,cond_false] at hr
 split at hr
 ·
  rename_i ts' nn ha
  split at hr
  ·rename_i id i off l v h1 h2 h3
   have e1:=dR ht h1
   have e2:=mY ht h2
   have e3:=mY ht h3
   split at hr
   ·rename_i ts rows wr hlo
    obtain⟨hb,hr⟩:=aX hr
    obtain⟨hi0,hr⟩:=aP hr
    obtain⟨ZI,hr⟩:=aP hr
    rw[Bool.and_eq_true] at hb
    have hm:ts'.n=ts.n:=aeh hb.1
    have hoff:off=0:=aeh hb.2
    obtain⟨ti,te,_,_,_,hU,hl2,hrow,_⟩:=T.uS ha
    obtain⟨ie,hie,hsz,_,_,hrw⟩:=T.info _ te hl2
    have hn':=(hrw ts' hrow).1
    unfold VR at e1
    obtain⟨ts1,Iy,wr1,b,g1,g2,g3,g4,g5⟩:=e1
    rw[hlo] at g1;cases g1
    rw[hi0,hoff] at g5
    have g5:a.eval x= .pointer (some ⟨b,0,none⟩):=by rw[g5];simp
    have hsl:=kL h (x:= .own id) (q:=⟨ts,rows,[id]⟩) (by unfold rowsOf;dsimp only;rw[hlo]) (v:= .slice ((E.ρ id).b.map fun b=>⟨b,0,none⟩) rows.length (E.ρ id).cap) (by unfold VR;exact⟨ts,rows,wr,hlo,rfl⟩)
    obtain⟨ad,len,cap,q1,q2,q3,q4⟩:=hsl
    cases q1
    rw[g2] at q4
    have fin:∀ {m n:Nat},((l=none∧m=0)∨∃ k z,l=some (.int k z)∧0<=z∧z<=(n:Int)∧m=z.toNat)->((v=none∧n=nn)∨∃ k z,v=some (.int k z)∧0<=z∧z<=(nn:Int)∧n=z.toNat)->
      K (.ro ts ((rows.take n).drop m) [id]) E.O aG []=some r->Does P X o E a.eval op K r:=by
     intro m n hm' hn hr
     have hmn:m<=n:=by
      rcases hm' with ⟨_,rfl⟩|⟨k,z,_,z0,z1,rfl⟩<;>omega
     have hnl:n<=nn:=by
      rcases hn with ⟨_,rfl⟩|⟨k,z,_,z0,z1,rfl⟩<;>omega
     refine Does.val (u:= .slice (some (if nn=m then ⟨b,0,none⟩ else Addr.add ⟨b,0,none⟩ (m*ts.n))) (n-m) (nn-m)) h hr ?_ fun Q hq=> ?_
     ·unfold VR
      refine⟨_,_,_,rfl,by simp;omega,by omega,fun hd=> ?_⟩
      have hlen:0<((rows.take n).drop m).length:=by
       cases hx:(rows.take n).drop m with
       |nil=>exact absurd hx hd
       |cons _ _=>simp
      have hne:rows≠[]:=fun x=>by rw[x] at hlen;simp at hlen
      obtain⟨b',off',c,e,f,k1,k2,k3,k4⟩:=q4 hne
      cases k1
      have hc:nn≠m:=by simp at hlen;omega
      rw[if_neg hc]
      refine⟨b,0+m*ts.n,c,e,f,by rw[ou],?_,k3,?_⟩
      ·have hle:0+m*ts.n+(n-m)*ts.n<=0+rows.length*ts.n:=by
        rw[Nat.add_assoc, <- Nat.add_mul,Nat.add_sub_cancel' hmn]
        exact Nat.add_le_add_left (Nat.mul_le_mul_right _ (by omega)) _
       rcases k2 with k2|⟨i,hi,k2|⟨ts,rows,wr,j1,j2,j3⟩⟩
       ·exact .inl k2
       ·exact .inr ⟨i,hi,.inl k2⟩
       ·exact .inr ⟨i,hi,.inr ⟨ts,rows,wr,j1,j2,Nat.le_trans hle j3⟩⟩
      ·have:=tN _ _ m (ny _ _ n k4) (by simp;omega)
       rwa [List.drop_drop] at this
     ·unfold execOp
      rw[hop]
      dsimp only
      rw[jL,g5]
      unfold Instr.sliceAt
      rw[ak,aB hU]
      dsimp only
      rw[ak]
      unfold Instr.sureAddr
      dsimp only
      rw[bY,ak]
      refine sG e2 e3 (Nat.le_refl _) hm' hn ?_
      dsimp only
      rw[ak,fM hie,hsz,hn',hm]
      exact hq
    unfold kG at hr
    split at hr
    ·exact fin (m:=0) (n:=nn) (.inl ⟨rfl,rfl⟩) (.inl ⟨rfl,rfl⟩) (by rw[<- ZI,List.take_of_length_le (Nat.le_refl _),List.drop_zero];exact hr)
    ·obtain⟨j1,hr⟩:=aP hr
     obtain⟨j2,hr⟩:=aP hr
     exact fin (n:=nn) (.inr ⟨_,_,rfl,j1,by omega,rfl⟩) (.inl ⟨rfl,rfl⟩) (by rw[<- ZI,List.take_of_length_le (Nat.le_refl _)];exact hr)
    ·obtain⟨j1,hr⟩:=aP hr
     obtain⟨j2,hr⟩:=aP hr
     exact fin (m:=0) (.inl ⟨rfl,rfl⟩) (.inr ⟨_,_,rfl,j1,by omega,rfl⟩) (by rw[List.drop_zero];exact hr)
    ·obtain⟨j1,hr⟩:=aP hr
     obtain⟨j2,hr⟩:=aP hr
     obtain⟨j3,hr⟩:=aP hr
     exact fin (.inr ⟨_,_,rfl,j1,by omega,rfl⟩) (.inr ⟨_,_,rfl,by omega,by omega,rfl⟩) hr
    ·cases hr
   ·cases hr
  ·cases hr
 split at hr
 ·rename_i s l v h1 h2 h3
  have e1:=dR ht h1
  have e2:=mY ht h2
  have e3:=mY ht h3
  unfold VR at e1
  obtain⟨hs,hr⟩:=gG hr
  have hU:=T.Zw (P:=P) (t:=t) (by simpa using hs)
  have fin:∀ {m n:Nat},((l=none∧m=0)∨∃ k z,l=some (.int k z)∧0<=z∧z<=(n:Int)∧m=z.toNat)->((v=none∧n=s.size)∨∃ k z,v=some (.int k z)∧0<=z∧z<=(s.size:Int)∧n=z.toNat)->
    K (.str (s.extract m n)) E.O aG []=some r->Does P X o E a.eval op K r:=by
   intro m n hm hn hr
   refine Does.val (u:= .string (s.extract m n)) h hr (by unfold VR;rfl) fun Q hq=>ex hU (fun _ _ x=>by cases x) ?_
   unfold Instr.slice
   rw[ak,aB hU,e1]
   dsimp only[Option.isSome]
   simp only[Bool.false_eq_true,if_false]
   rw[ak]
   exact sG e2 e3 (Nat.le_refl _) hm hn hq
  unfold rV at hr
  split at hr
  ·exact fin (.inl ⟨rfl,rfl⟩) (.inl ⟨rfl,rfl⟩) hr
  ·obtain⟨g1,hr⟩:=aP hr
   obtain⟨g2,hr⟩:=aP hr
   exact fin (.inr ⟨_,_,rfl,g1,g2,rfl⟩) (.inl ⟨rfl,rfl⟩) hr
  ·obtain⟨g1,hr⟩:=aP hr
   obtain⟨g2,hr⟩:=aP hr
   exact fin (.inl ⟨rfl,rfl⟩) (.inr ⟨_,_,rfl,g1,g2,rfl⟩) hr
  ·obtain⟨g1,hr⟩:=aP hr
   obtain⟨g2,hr⟩:=aP hr
   obtain⟨g3,hr⟩:=aP hr
   exact fin (.inr ⟨_,_,rfl,g1,by omega,rfl⟩) (.inr ⟨_,_,rfl,by omega,g3,rfl⟩) hr
  ·cases hr
 ·rename_i w l v hne h1 h2 h3
  split at hr
  ·rename_i q ts' hq hsl
   exact viewed h1 h2 h3 hq hsl hr
  ·cases hr
 ·cases hr
theorem KW(T:gU P C){t:TypeId}{x:Operand}(h:OK X o E aG)(ht:kD E tm a.tmps)(hop:op.op= .sliceToArrayPointer t x)(hr:fP C Rc tm E.O aG op K=some r):Does P X o E a.eval op K r:=by
 unfold fP at hr
 rw[hop] at hr
 dsimp only at hr
 split at hr
 ·rename_i ts' n v ha h1
  have e1:=dR ht h1
  split at hr
  ·rename_i q hq
   obtain⟨hb,hr⟩:=aX hr
   obtain⟨hn,hr⟩:=aP hr
   rw[Bool.and_eq_true] at hb
   have h0:0<n:=Nat.le_of_ble_eq_true hb.2
   have hs:=kL h hq e1
   obtain⟨ti,te,_,_,_,hU,_⟩:=T.uS ha
   have hs':=hs
   obtain⟨ad,len,cap,g1,g2,_,g3⟩:=hs
   obtain⟨b,off,_,_,_,rfl,_⟩:=g3 (fun x=>by rw[x] at hn;simp at hn;omega)
   refine Does.val (u:= .pointer (some ⟨b,off,none⟩)) h hr ?_ fun Q hq=> ?_
   ·unfold VR
    rw[g1] at hs'
    exact⟨b,off,len,cap,hs',Int.le_refl _,by omega,by simp⟩
   ·unfold execOp
    rw[hop]
    dsimp only
    rw[jL,g1]
    unfold Instr.arrayAt
    rw[ak,aB hU]
    dsimp only
    rw[if_neg (by omega)]
    exact hq
  ·cases hr
 ·cases hr
end ops
end Go.E
end
section
namespace Go.E
variable {E:Env} {tm:List (Nat×AV)} {a:Act} {R:Type} {C:kC} {Rc:ah} {P:Program} {X:Ctx} {o:Ow} {aG:Nat}
section ops
variable {op:Oper} {K:KK R} {r:R}
theorem xX{x:AV}{v:Value}(h:VR E x v):dG E x.cells v.cells.toList:=by
 have one:x.cells=[x]->(∀ cs,v≠ .agg cs)->dG E x.cells v.cells.toList:=by
  intro e hv
  rw[e]
  have:v.cells= #[v]:=by cases v<;>first|rfl|exact absurd rfl (hv _)
  rw[this]
  unfold dG;exact⟨v,[],rfl,h,by unfold dG;rfl⟩
 cases x with
 |agg cs=>unfold VR at h;obtain⟨l,rfl,h⟩:=h;exact h
 |dead=>refine one rfl fun cs e=> ?_;unfold VR at h;rw[e] at h;cases h
 |int k n=>refine one rfl fun cs e=> ?_;unfold VR at h;rw[e] at h;cases h
 |bool b=>refine one rfl fun cs e=> ?_;unfold VR at h;rw[e] at h;cases h
 |str s=>refine one rfl fun cs e=> ?_;unfold VR at h;rw[e] at h;cases h
 |aT=>refine one rfl fun cs e=> ?_;unfold VR at h;rw[e] at h;cases h
 |kF=>refine one rfl fun cs e=> ?_;unfold VR at h;rw[e] at h;cases h
 |jo=>refine one rfl fun cs e=> ?_;unfold VR at h;rw[e] at h;cases h
 |nZ=>refine one rfl fun cs e=> ?_;unfold VR at h;rw[e] at h;cases h
 |undef=>refine one rfl fun cs e=> ?_;unfold VR undef at h;rw[e] at h;cases h
 |ro ts rows deps=>refine one rfl fun cs e=> ?_;unfold VR at h;obtain⟨_,_,_,h,_⟩:=h;rw[e] at h;cases h
 |own id=>refine one rfl fun cs e=> ?_;unfold VR at h;obtain⟨_,_,_,_,h⟩:=h;rw[e] at h;cases h
 |ptr id off=>refine one rfl fun cs e=> ?_;unfold VR at h;obtain⟨_,_,_,_,h⟩:=h;rw[e] at h;cases h
 |gX id i off=>refine one rfl fun cs e=> ?_;unfold VR at h;obtain⟨_,_,_,_,_,_,_,_,h⟩:=h;rw[e] at h;cases h
 |iE ts rows deps i off=>refine one rfl fun cs e=> ?_;unfold VR at h;obtain⟨_,_,_,_,_,_,_,h⟩:=h;rw[e] at h;cases h
 |func fn x y=>refine one rfl fun cs e=> ?_;unfold VR at h;obtain⟨_,_,h,_⟩:=h;rw[e] at h;cases h
 |iface t y=>refine one rfl fun cs e=> ?_;unfold VR at h;obtain⟨_,h,_⟩:=h;rw[e] at h;cases h
 |AY vs=>refine one rfl fun cs e=> ?_;unfold VR at h;obtain⟨_,h,_⟩:=h;rw[e] at h;cases h
 |mp id=>refine one rfl fun cs e=> ?_;unfold VR at h;obtain⟨_,_,_,_,h⟩:=h;rw[e] at h;cases h
 |sub id lo hi=>refine one rfl fun cs e=> ?_;unfold VR at h;obtain⟨_,_,_,_,_,_,_,_,_,h,_⟩:=h;rw[e] at h;cases h
 |raw u=>refine one rfl fun cs e=> ?_;unfold VR at h;rw[<- h.1,e] at h;cases h.2
theorem Eu{x:AV}{v:Value}(h:VR E x v)(hp:plain x=true):v.oneCell=true:=by
 cases x<;>simp only[plain,Bool.false_eq_true] at hp<;>unfold VR at h
 case ro=>exact Hg h
 case own=>obtain⟨_,_,_,_,rfl⟩:=h;rfl
 case ptr=>obtain⟨_,_,_,_,rfl⟩:=h;rfl
 case gX=>obtain⟨_,_,_,_,_,_,_,_,rfl⟩:=h;rfl
 case iE=>obtain⟨_,_,_,_,_,_,_,rfl⟩:=h;rfl
 case func=>obtain⟨_,_,rfl,_⟩:=h;rfl
 case iface=>obtain⟨_,rfl,_⟩:=h;rfl
 case dead=>exact h
 case mp=>obtain⟨_,_,_,_,rfl⟩:=h;rfl
 case raw=>rw[h.1];exact h.2
 case sub=>obtain⟨_,_,_,_,_,_,_,_,_,rfl,_⟩:=h;rfl
 all_goals (rw[h];rfl)
theorem Bo:∀ {xs:List AV} {l:List Value},dG E xs l->Eh xs=true->∀ v∈l,v.oneCell=true
 |[],l,h,_,v,hv=>by unfold dG at h;subst h;cases hv
 |x::xs,l,h,hp,v,hv=>by
  unfold dG at h;obtain⟨u,q,rfl,h1,h2⟩:=h
  unfold Eh at hp
  simp only[Bool.and_eq_true] at hp
  rcases List.mem_cons.1 hv with rfl|hv
  ·exact Eu h1 hp.1
  ·exact Bo h2 hp.2 v hv
def Makes(P:Program)(X:Ctx)(o:Ow)(E:Env)(aG id:Nat)(ρ:Operand->Value)(op:Oper)(K:KK R)(r:R):Prop:=
 ∃ v O1 es,K v O1 (id+1) es=some r∧∀ gq,id<gq->aG<=gq->acc P (wC o E.w) (vU o E.w) (execOp ρ op) (Qn X o E gq O1 es v) E.w
theorem Makes.does{ρ:Operand->Value}(h:Makes P X o E aG aG ρ op K r):Does P X o E ρ op K r:=by
 obtain⟨v,O1,es,h1,h2⟩:=h
 exact⟨v,O1,aG+1,es,h1,h2 _ (Nat.lt_succ_self _) (Nat.le_succ _)⟩
theorem Makes.new{id:Nat}{w':World}{ob:Obj}{v:AV}{u:Value}{ao:AO}{cap:Nat}(h:OK X o E aG)(hf:look E.O id=none)(h0:id≠foreign)(hr:K v ((id,ao)::E.O) (id+1) []=some r)(hw:w'.heap=E.w.heap.push ob)
  (ho:∀ E':Env,E'.w=w'->(∀ b,E.N b->E'.N b)->E'.N=E.N->Step E E' []->uX E.N E'.N E.w E'.w->(E'.ρ id)=⟨some E.w.heap.size,cap⟩->E'.O=(id,ao)::E.O->E'.w.heap[E.w.heap.size]? =some ob->fV E' id ao∧VR E' v u)
  (hx:∀ Q:Next->World->Prop,Q (.value u) w'->acc P (wC o E.w) (vU o E.w) (execOp a.eval op) Q E.w):Makes P X o E aG id a.eval op K r:=by
 refine⟨v,_,[],hr,fun gq hlt hle=> ?_⟩
 obtain⟨hk,hs,hok⟩:=wB h hf h0 hlt hle hw ao cap
 obtain⟨h1,h2⟩:=ho {E with w:=w',ρ:=upd E.ρ id ⟨some E.w.heap.size,cap⟩,O:=(id,ao)::E.O} rfl (fun _ x=>x) rfl hs hk.Bj (kK _ _ _) rfl (by show w'.heap[_]? =_;rw[hw];simp)
 exact hx _ ⟨{E with w:=w',ρ:=upd E.ρ id ⟨some E.w.heap.size,cap⟩,O:=(id,ao)::E.O},rfl,rfl,rfl,hok h1,hs,.inr ⟨u,rfl,h2⟩⟩
theorem Does.new{w':World}{ob:Obj}{v:AV}{u:Value}{ao:AO}{cap:Nat}(h:OK X o E aG)(hr:K v ((aG,ao)::E.O) (aG+1) []=some r)(hw:w'.heap=E.w.heap.push ob)
  (ho:∀ E':Env,E'.w=w'->(∀ b,E.N b->E'.N b)->E'.N=E.N->Step E E' []->uX E.N E'.N E.w E'.w->(E'.ρ aG)=⟨some E.w.heap.size,cap⟩->E'.O=(aG,ao)::E.O->E'.w.heap[E.w.heap.size]? =some ob->fV E' aG ao∧VR E' v u)
  (hx:∀ Q:Next->World->Prop,Q (.value u) w'->acc P (wC o E.w) (vU o E.w) (execOp a.eval op) Q E.w):Does P X o E a.eval op K r:=
 (Makes.new h h.fresh (Nat.ne_of_gt h.pos) hr hw ho hx).does
theorem IC(c:Array Value):free c (0,0):=fun _ _ h=>Nat.not_lt_zero _ h.2
theorem FB{id:Nat}(T:gU P C){t:TypeId}(h:OK X o E aG)(hf:look E.O id=none)(h0:id≠foreign)(hop:op.op= .alloc t)(hr:fP C Rc tm E.O id op K=some r):Makes P X o E aG id a.eval op K r:=by
 unfold fP at hr
 rw[hop] at hr
 dsimp only at hr
 split at hr
 ·
  rename_i ts n ha
  obtain⟨hn,hr⟩:=aX hr
  have hn:0<n:=Nat.le_of_ble_eq_true hn
  obtain⟨ti,te,hl,hk,_,_,hle,hrow,hs,hlen⟩:=T.uS ha
  subst hlen
  obtain⟨i,z,hi,z1,z2,z3⟩:=T.arr t ti te ts hl hk hle hrow hs
  refine Makes.new (cap:=ti.len) (w':={E.w with heap:=E.w.heap.push (.cells z.cells t)}) (u:= .pointer (some ⟨E.w.heap.size,0,none⟩)) h hf h0 hr rfl ?_ ?_
  ·intro E' e1 _ _ hs' _ e2 e3 e4
   constructor
   ·unfold fV
    rw[e2]
    exact⟨_,_,_,e4,IC _,by simp,by rw[z2,hs];exact Nat.le_refl _,z3 _ _⟩
   ·unfold VR
    exact⟨_,_,_,_,by rw[e3];exact dA _ _ _,by rw[e2],Int.le_refl _,by simpa using hn,by simp⟩
  ·intro Q hq
   unfold execOp
   rw[hop]
   dsimp only
   rw[jL]
   unfold Instr.alloc
   rw[ak,iY hi z1]
   dsimp only
   rw[ak]
   unfold newVar
   rw[nG]
   exact hq
 split at hr
 ·rename_i ti hl
  obtain⟨hz,hr⟩:=gG hr
  obtain⟨i,hi,_,_,hzero,_⟩:=T.info t ti hl
  obtain⟨z,z1,z2⟩:=hzero (aeh (by simpa using hz))
  refine Makes.new (cap:=0) (w':={E.w with heap:=E.w.heap.push (.cells z.cells t)}) (u:= .pointer (some ⟨E.w.heap.size,0,none⟩)) h hf h0 hr rfl ?_ ?_
  ·intro E' e1 _ _ hs _ e2 e3 e4
   refine⟨⟨_,_,_,_,by rw[e2],e4,IC _,?_⟩,?_⟩
   ·exact hs.oZ (nN z2)
   ·unfold VR
    exact⟨_,_,by rw[e3];exact dA _ _ _,by rw[e2],rfl⟩
  ·intro Q hq
   unfold execOp
   rw[hop]
   dsimp only
   rw[jL]
   unfold Instr.alloc
   rw[ak,iY hi z1]
   dsimp only
   rw[ak]
   unfold newVar
   rw[nG]
   exact hq
 ·cases hr
theorem ZJ(T:gU P C){t:TypeId}(h:OK X o E aG)(hop:op.op= .alloc t)(hr:fP C Rc tm E.O aG op K=some r):Does P X o E a.eval op K r:=
 (FB T h h.fresh (Nat.ne_of_gt h.pos) hop hr).does
theorem LU{id:Nat}{t:TypeId}{x:Operand}(h:OK X o E aG)(hf:look E.O id=none)(h0:id≠foreign)(ht:kD E tm a.tmps)(hop:op.op= .box t x)(hr:fP C Rc tm E.O id op K=some r):Makes P X o E aG id a.eval op K r:=by
 unfold fP at hr
 rw[hop] at hr
 dsimp only at hr
 split at hr
 ·rename_i v h1
  have e1:=dR ht h1
  refine Makes.new (cap:=0) (w':={E.w with heap:=E.w.heap.push (.cells (a.eval x).cells t)}) (u:= .pointer (some ⟨E.w.heap.size,0,none⟩)) h hf h0 hr rfl ?_ ?_
  ·intro E' _ _ _ hs _ e2 e3 e4
   refine⟨⟨_,_,_,_,by rw[e2],e4,IC _,?_⟩,?_⟩
   ·exact hs.oZ (xX e1)
   ·unfold VR
    exact⟨_,_,by rw[e3];exact dA _ _ _,by rw[e2],rfl⟩
  ·intro Q hq
   unfold execOp
   rw[hop]
   dsimp only
   rw[jL]
   unfold Instr.box newVar
   rw[ak,nG]
   exact hq
 ·cases hr
theorem ahj{t:TypeId}{x:Operand}(h:OK X o E aG)(ht:kD E tm a.tmps)(hop:op.op= .box t x)(hr:fP C Rc tm E.O aG op K=some r):Does P X o E a.eval op K r:=
 (LU h h.fresh (Nat.ne_of_gt h.pos) ht hop hr).does
theorem qR:∀ {cs xs cs':List AV} {off:Nat} {l m:List Value},setCells cs off xs=some cs'->dG E cs l->dG E xs m->dG E cs' (l.take off++m++l.drop (off+m.length))∧off+m.length<=l.length
 |cs,[],cs',0,l,m,h,h1,h2=>by
  unfold dG at h2;subst h2
  have:cs'=cs:=by cases cs<;>(simp only[setCells] at h;cases h;rfl)
  subst this
  simpa using h1
 |c::cs,x::xs,cs',0,l,m,h,h1,h2=>by
  unfold dG at h1 h2
  obtain⟨v,q,rfl,h3,h4⟩:=h1
  obtain⟨u,q',rfl,h5,h6⟩:=h2
  simp only[setCells] at h
  obtain⟨z,hz,rfl⟩:=Option.map_eq_some_iff.1 h
  obtain⟨k1,k2⟩:=qR hz h4 h6
  refine⟨?_,by simp only[List.length_cons];omega⟩
  unfold dG
  refine⟨u,q'++q.drop q'.length,by simp,h5,?_⟩
  simpa using k1
 |c::cs,xs,cs',off+1,l,m,h,h1,h2=>by
  unfold dG at h1
  obtain⟨v,q,rfl,h3,h4⟩:=h1
  have h:(setCells cs off xs).map (c:: ·)=some cs':=by cases xs<;>exact h
  obtain⟨z,hz,rfl⟩:=Option.map_eq_some_iff.1 h
  obtain⟨k1,k2⟩:=qR hz h4 h2
  refine⟨?_,by simp only[List.length_cons];omega⟩
  unfold dG
  refine⟨v,q.take off++m++q.drop (off+m.length),?_,h3,k1⟩
  rw[Nat.add_right_comm];simp
 |[],x::xs,cs',0,l,m,h,h1,h2=>by simp[setCells] at h
 |[],xs,cs',off+1,l,m,h,h1,h2=>by cases xs<;>simp[setCells] at h
theorem oz{wr rd:Nat->Prop}{b:Nat}:∀ (vs:List Value) (off i:Nat) (w:World) (c:Array Value) (t:TypeId) (f:Nat×Nat) (Q:Unit->World->Prop),wr b->w.heap[b]? =some (.cells c t f)->free c f->(∀ v∈vs,v.oneCell=true)->off+i+vs.length<=c.size->
  (∀ (w':World) (c':Array Value),w'.heap.size=w.heap.size->(∀ b',b'≠b->w'.heap[b']? =w.heap[b']?)->w'.heap[b]? =some (.cells c' t f)->c'.size=c.size->c'.toList=c.toList.take (off+i)++vs++c.toList.drop (off+i+vs.length)->Q () w')->
  acc P wr rd (storeCells ⟨b,off,none⟩ vs i) Q w
 |[],off,i,w,c,t,f,Q,_,hc,_,_,_,hq=>by
  unfold storeCells
  exact hq w c rfl (fun _ _=>rfl) hc rfl (by simp)
 |v::vs,off,i,w,c,t,f,Q,hb,hc,hf,h1,hl,hq=>by
  unfold storeCells
  rw[ak,ou]
  simp only[List.length_cons] at hl
  have hlt:off+i<c.size:=by omega
  have hblt:b<w.heap.size:=by
   rcases Nat.lt_or_ge b w.heap.size with x|x
   ·exact x
   ·rw[Array.getElem?_eq_none x] at hc;cases hc
  refine⟨rfl,hb,h1 v (by simp),⟨c[off+i],?_⟩,?_,?_⟩
  ·unfold World.cell?
   rw[hc];simp[hlt]
  ·unfold World.frozen?
   rw[hc]
   have:=hf (off+i) hlt
   obtain⟨lo,hi⟩:=f
   simpa using this
  ·show acc P wr rd (storeCells ⟨b,off,none⟩ vs (i+1)) Q (w.setCell ⟨b,off+i,none⟩ v)
   have hw1:(w.setCell ⟨b,off+i,none⟩ v).heap[b]? =some (.cells (c.setIfInBounds (off+i) v) t f):=by
    unfold World.setCell
    simp only[Array.getElem?_modify,if_pos,hc,Option.map_some]
    simp
   refine oz vs off (i+1) _ (c.setIfInBounds (off+i) v) t f Q hb hw1 (fun j hj=>hf j (by simpa using hj)) (fun u hu=>h1 u (by simp[hu])) (by simp;omega) ?_
   intro w' c' k1 k2 k3 k4 k5
   refine hq w' c' (k1.trans (by simp[World.setCell])) (fun b' hb'=> ?_) k3 (by rw[k4];simp) ?_
   ·rw[k2 b' hb']
    unfold World.setCell
    simp[Array.getElem?_modify,Ne.symm hb']
   ·rw[k5]
    simp only[Array.toList_setIfInBounds,List.length_cons]
    rw[List.take_set,List.drop_set_of_lt (by omega)]
    have:c.toList.take (off+(i+1))=c.toList.take (off+i)++[c[off+i]]:=by
     rw[show off+(i+1)=off+i+1 by omega,List.take_add_one]
     simp[hlt]
    rw[this,List.set_append_right _ _ (by simp;omega)]
    have:off+i-(c.toList.take (off+i)).length=0:=by simp;omega
    rw[this]
    simp[Nat.add_assoc,Nat.add_comm,Nat.add_left_comm]
theorem CZ(h:OK X o E aG){id b:Nat}{x:AO}(hl:look E.O id=some x)(hx:live x=true)(hb:(E.ρ id).b=some b):wC o E.w b:= .inl (h.own id b ⟨x,hl,hx⟩ hb).2.2.2
theorem kU{x y:aC}{rows:List x.D}{d:List y.D}(h:lu x y rows=some d):∃ e:x=y,d=e▸rows:=by
 unfold lu at h
 split at h
 ·rename_i hb;cases h;exact⟨aC.beq_eq hb,rfl⟩
 ·cases h
theorem oC{O:bn}{ts:aC}{x:AV}{d:List ts.D}(h:CT.jq O (.sl ts) x=some d):(x= .aT∧d=[])∨(∃ deps,x= .ro ts d deps)∨∃ id wr,x= .own id∧look O id=some (.arr ts d wr):=by
 cases x
 case aT=>cases h;exact .inl ⟨rfl,rfl⟩
 case ro ts' rows deps=>
  obtain⟨rfl,rfl⟩:=kU (show lu ts' ts rows=some d from h)
  exact .inr (.inl ⟨deps,rfl⟩)
 case own id=>
  have h:(match look O id with|some (.arr ts' rows _)=>lu ts' ts rows| _=>none)=some d:=h
  split at h
  ·rename_i ts' rows wr hl
   obtain⟨rfl,rfl⟩:=kU h
   exact .inr (.inr ⟨id,wr,rfl,hl⟩)
  ·cases h
 all_goals cases h
theorem xY{O:bn}{k:IntKind}{x:AV}{d:Int}(h:CT.jq O (.int k) x=some d):x= .int k d:=by
 cases x<;>try (cases h;done)
 rename_i k' n
 have h:(bif xJ k k' then some n else none)=some d:=h
 obtain⟨e,h⟩:=LM h
 cases h;rw[e]
theorem vg{O:bn}{x:AV}{d:Bool}(h:CT.jq O .bool x=some d):x= .bool d:=by
 cases x<;>try (cases h;done)
 cases h;rfl
theorem xZ{O:bn}{x:AV}{d:ByteArray}(h:CT.jq O .str x=some d):x= .str d:=by
 cases x<;>try (cases h;done)
 cases h;rfl
theorem C9{w:World}{N:Nat->Prop}{t:CT}{ts:aC}{d:t.D×ts.D}{l:List Value}:aC.rp w N (.cons t ts) d l↔∃ v r,l=v::r∧CT.rp w N t d.1 v∧aC.rp w N ts d.2 r:=Iff.rfl
def Shut(E E':Env)(x:AV):Prop:=∀ i∈x.sls,i≠foreign∧∀ b ts rows wr,look E.O i=some (.arr ts rows wr)->(E.ρ i).b=some b->E'.N b∧E'.w.heap[b]? =E.w.heap[b]?
theorem zC{E':Env}(h:OK X o E aG)(hn:uX E.N E'.N E.w E'.w):∀ (t:CT) (x:AV) (d:t.D) (v:Value),t.jq E.O x=some d->VR E x v->Shut E E' x->t.rp E'.w E'.N d v
 | .int k,x,d,v,hd,hv,_=>by rw[xY hd] at hv;unfold VR at hv;unfold CT.rp;exact hv
 | .bool,x,d,v,hd,hv,_=>by rw[vg hd] at hv;unfold VR at hv;unfold CT.rp;exact hv
 | .str,x,d,v,hd,hv,_=>by rw[xZ hd] at hv;unfold VR at hv;unfold CT.rp;exact hv
 | .sl ts,x,d,v,hd,hv,hs=>by
  rcases oC hd with ⟨rfl,rfl⟩|⟨deps,rfl⟩|⟨id,wr,rfl,hl⟩
  ·unfold VR at hv;subst hv
   exact V6.2 ⟨_,_,_,rfl,rfl,Nat.le_refl _,fun x=>absurd rfl x⟩
  ·unfold VR at hv
   obtain⟨ad,len,cap,g1,g2,g3,g4⟩:=hv
   refine V6.2 ⟨ad,len,cap,g1,g2,g3,fun hne=> ?_⟩
   obtain⟨b,off,c,e,f,k1,k2,k3,k4⟩:=g4 hne
   have hb:E'.N b∧E'.w.heap[b]? =E.w.heap[b]? :=by
    rcases k2 with k2|⟨i,hi,k2|⟨ts',rows,wr,j1,j2,j3⟩⟩
    ·exact hn b k2
    ·exact absurd k2.1 (hs i hi).1
    ·exact (hs i hi).2 b ts' rows wr j1 j2
   exact⟨b,off,c,e,f,k1,hb.1,by rw[hb.2];exact k3,fJ (fun d l=>aC.jI hn ts d l) _ _ k4⟩
  ·have hq:rowsOf E.O (.own id)=some ⟨ts,d,[id]⟩:=by
    show (match look E.O id with|some (.arr ts rows _)=>some (Rows.mk ts rows [id])| _=>none)=_
    rw[hl]
   obtain⟨ad,len,cap,g1,g2,g3,g4⟩:=kL h hq hv
   refine V6.2 ⟨ad,len,cap,g1,g2,g3,fun hne=> ?_⟩
   obtain⟨b,off,c,e,f,k1,k2,k3,k4⟩:=g4 hne
   have hb:E'.N b∧E'.w.heap[b]? =E.w.heap[b]? :=by
    rcases k2 with k2|⟨i,hi,k2|⟨ts',rows,wr,j1,j2,j3⟩⟩
    ·exact hn b k2
    ·exact absurd k2.1 (hs i hi).1
    ·exact (hs i hi).2 b ts' rows wr j1 j2
   exact⟨b,off,c,e,f,k1,hb.1,by rw[hb.2];exact k3,fJ (fun d l=>aC.jI hn ts d l) _ _ k4⟩
theorem IE{E':Env}(h:OK X o E aG)(hn:uX E.N E'.N E.w E'.w):∀ (ts:aC) (xs:List AV) (d:ts.D) (l:List Value),ts.iL E.O xs=some d->dG E xs l->(∀ x∈xs,Shut E E' x)->ts.rp E'.w E'.N d l
 | .one t,[],d,l,hd,_,_=>by cases hd
 | .one t,[x],d,l,hd,hv,hs=>by
  unfold dG at hv;obtain⟨v,q,rfl,h1,h2⟩:=hv
  unfold dG at h2;subst h2
  unfold aC.rp;exact⟨v,rfl,zC h hn t x d v hd h1 (hs x aee)⟩
 | .one t,x::y::r,d,l,hd,_,_=>by cases hd
 | .cons t ts,[],d,l,hd,_,_=>by cases hd
 | .cons t ts,x::xs,d,l,hd,hv,hs=>by
  unfold dG at hv;obtain⟨v,q,rfl,h1,h2⟩:=hv
  have hd:(match t.jq E.O x,ts.iL E.O xs with|some d,some e=>some (d,e)| _,_=>none)=some d:=hd
  split at hd
  ·rename_i e1 e2 g1 g2
   cases hd
   refine C9.2 ?_
   exact⟨v,q,rfl,zC h hn t x _ v g1 h1 (hs x aee),IE h hn ts xs _ q g2 h2 fun y hy=>hs y (aef _ hy)⟩
  ·cases hd
theorem ZK{E':Env}(h:OK X o E aG)(hn:uX E.N E'.N E.w E'.w):∀ (ts:aC) (d e:ts.D) (i:Nat) (x:AV) (v:Value) (l:List Value),ts.put E.O d i x=some e->VR E x v->Shut E E' x->ts.rp E'.w E'.N d l->
  ts.rp E'.w E'.N e (l.take i++v::l.drop (i+1))∧i<l.length
 | .one t,d,e,0,x,v,l,hp,hv,hs,hl=>by
  unfold aC.rp at hl⊢
  obtain⟨u,rfl,hl⟩:=hl
  exact⟨⟨v,by simp,zC h hn t x e v hp hv hs⟩,by simp⟩
 | .one t,d,e,i+1,x,v,l,hp,hv,hs,hl=>by cases hp
 | .cons t ts,d,e,0,x,v,l,hp,hv,hs,hl=>by
  unfold aC.rp at hl⊢
  obtain⟨u,q,rfl,h1,h2⟩:=hl
  have hp:(t.jq E.O x).map (fun e=>(e,d.2))=some e:=hp
  obtain⟨z,hz,rfl⟩:=Option.map_eq_some_iff.1 hp
  exact⟨⟨v,q,by simp,zC h hn t x z v hz hv hs,h2⟩,by simp⟩
 | .cons t ts,d,e,i+1,x,v,l,hp,hv,hs,hl=>by
  unfold aC.rp at hl
  obtain⟨u,q,rfl,h1,h2⟩:=hl
  have hp:(ts.put E.O d.2 i x).map (fun e=>(d.1,e))=some e:=hp
  obtain⟨z,hz,rfl⟩:=Option.map_eq_some_iff.1 hp
  obtain⟨k1,k2⟩:=ZK h hn ts d.2 z i x v q hz hv hs h2
  exact⟨C9.2 ⟨u,q.take i++v::q.drop (i+1),by simp,h1,k1⟩,by simpa using k2⟩
theorem Wj{E':Env}(h:OK X o E aG)(hn:uX E.N E'.N E.w E'.w)(ts:aC):∀ (xs:List AV) (d e:ts.D) (i:Nat) (m l:List Value),ts.puts E.O d i xs=some e->dG E xs m->(∀ x∈xs,Shut E E' x)->ts.rp E'.w E'.N d l->
  ts.rp E'.w E'.N e (l.take i++m++l.drop (i+m.length))∧(m≠[]->i+m.length<=l.length)
 |[],d,e,i,m,l,hp,hv,_,hl=>by
  unfold dG at hv;subst hv
  cases hp
  simpa using hl
 |x::xs,d,e,i,m,l,hp,hv,hs,hl=>by
  unfold dG at hv;obtain⟨v,q,rfl,h1,h2⟩:=hv
  unfold aC.puts at hp
  split at hp
  ·rename_i z hz
   obtain⟨k1,k2⟩:=ZK h hn ts d z i x v l hz h1 (hs x aee) hl
   obtain⟨k3,k4⟩:=Wj h hn ts xs z e (i+1) q _ hp h2 (fun y hy=>hs y (aef _ hy)) k1
   have e1:(l.take i++v::l.drop (i+1)).take (i+1)=l.take i++[v]:=by
    rw[List.take_append,List.take_of_length_le (by simp;omega)]
    have:i+1-(l.take i).length=1:=by simp;omega
    rw[this];simp
   have e2:(l.take i++v::l.drop (i+1)).drop (i+1+q.length)=l.drop (i+(v::q).length):=by
    rw[List.drop_append,List.drop_of_length_le (by simp;omega)]
    have:i+1+q.length-(l.take i).length=q.length+1:=by simp;omega
    rw[this]
    simp only[List.nil_append,List.drop_succ_cons,List.drop_drop,List.length_cons]
    congr 1;omega
   rw[e1,e2] at k3
   refine⟨by simpa using k3,fun _=> ?_⟩
   cases q with
   |nil=>simp only[List.length_singleton];omega
   |cons y ys=>
    have:=k4 (by simp)
    simp only[List.length_append,List.length_take,List.length_cons,List.length_drop] at this⊢
    omega
  ·cases hp
end ops
end Go.E
end
section
namespace Go.E
variable {E:Env} {tm:List (Nat×AV)} {a:Act} {R:Type} {C:kC} {Rc:ah} {P:Program} {X:Ctx} {o:Ow} {aG:Nat}
section ops
variable {op:Oper} {K:KK R} {r:R}
theorem Qn.look{eY:Nat}{O1:bn}{es:List Eff}{v:AV}{nx:Next}{E':Env}(hF:E'.F=E.F)(hl:∀ i,look (dw es O1) i=look E'.O i)(h:OK X (o.grow E.w.heap.size E'.w.heap.size) E' eY)(hs:Step E E' es)
  (hv:nx= .skip∧v= .undef∨∃ u,nx= .value u∧VR E' v u):Qn X o E eY O1 es v nx E'.w:=by
 obtain⟨h1,h2⟩:=h.zy hl
 have h3:=hs.trans h2
 rw[List.append_nil] at h3
 refine⟨{E' with O:=dw es O1},rfl,hF,rfl,h1,h3,?_⟩
 rcases hv with hv|⟨u,e,hv⟩
 ·exact .inl hv
 ·exact .inr ⟨u,e,h2 _ _ hv⟩
theorem Keep.aeB{E E':Env}{id:Nat}{cs:List AV}(h:Keep E E' fun i=>i=id)(hl:look E.O id=some (.box cs)):Keep E E' fun _=>False:=
 {h with arr:=fun i _ ts rows wr hi=>h.arr i (fun e=>by rw[e,hl] at hi;cases hi) ts rows wr hi}
theorem LV{n:Nat}{o:Ow}:(∀ b,(o.grow n n).u b↔o.u b)∧∀ b,(o.grow n n).s b↔o.s b:=by
 constructor<;>intro b<;>constructor<;>first|exact .inl|(rintro (h|⟨h,h'⟩);exact h;omega)
theorem ZL{α:Type}(c m:List α)(p n off:Nat)(h:off+m.length<=n):
  c.take p++(((c.drop p).take n).take off++m++((c.drop p).take n).drop (off+m.length))++c.drop (p+n)=c.take (p+off)++m++c.drop (p+off+m.length):=by
 have e1:c.take (p+off)=c.take p++((c.drop p).take n).take off:=by
  rw[List.take_take,Nat.min_eq_left (by omega),List.take_add]
 have e2:c.drop (p+off+m.length)=((c.drop p).take n).drop (off+m.length)++c.drop (p+n):=by
  rw[List.drop_take,List.drop_drop,show p+n=(p+(off+m.length))+(n-(off+m.length)) by omega, <- List.drop_drop (i:=n-(off+m.length)),show p+off+m.length=p+(off+m.length) by omega]
  rw[List.take_append_drop]
 rw[e1,e2]
 simp only[List.append_assoc]
theorem yc(es:List Eff)(id i:Nat):aQ i (es++[.dO id])=aQ i es:=by
 rw[iH];show (_||false)=_;rw[Bool.or_false]
theorem uI(h:OK X o E aG){es:List Eff}(hq:qj E.O es):aQ foreign es=false:=by
 induction hq with
 |nil=>rfl
 | @cons id ts rows wr r' ha _ ih=>
  show (Nat.beq id foreign||aQ foreign r')=false
  rw[cZ (h.num id _ ha).2,ih];rfl
theorem IG(T:gU P C){t:TypeId}{x y:Operand}(hop:op.op= .store t x y){ti:TI}{ad:Addr}{Q:Next->World->Prop}(hl:look C.ty t=some ti)(e:a.eval x= .pointer (some ad))(hs:(a.eval y).cells.size=ti.size)
  (hq:acc P (wC o E.w) (vU o E.w) (storeCells ad (a.eval y).cells.toList) (fun _ w=>Q .skip w) E.w):acc P (wC o E.w) (vU o E.w) (execOp a.eval op) Q E.w:=by
 obtain⟨i,hi,hsz,_⟩:=T.info t ti hl
 unfold execOp
 rw[hop]
 dsimp only
 rw[af5,e]
 unfold Instr.storeAt
 rw[ak]
 show acc P _ _ (storeVar t ad (a.eval y)) _ _
 unfold storeVar
 rw[ak,fM hi,hsz,if_neg (fun x=>x hs)]
 exact hq
theorem II(T:gU P C){t:TypeId}{x y:Operand}(h:OK X o E aG)(hop:op.op= .store t x y){ti:TI}(h1:look C.ty t=some ti){v:AV}(e3:dG E v.cells (a.eval y).cells.toList)(hc1:Nat.beq v.cells.length ti.size=true)(hc2:Eh v.cells=true)
  {id b pos:Nat} {ts:aC} {rows rows':List ts.D} (hlo:look E.O id=some (.arr ts rows true)) (g2:(E.ρ id).b=some b) (g5:a.eval x= .pointer (some ⟨b,pos,none⟩)) {FC:List Eff} (hse:og E.O v.cells=some FC) (hns:aQ id FC=false)
  (hr:K .undef ((id,.arr ts rows' true)::E.O) aG (FC++[.dO id])=some r) (hlen':rows'.length=rows.length) (hend:pos+(a.eval y).cells.toList.length<=rows.length*ts.n)
  (hrep:∀ E1:Env,uX E.N E1.N E.w E1.w->(∀ z∈v.cells,Shut E E1 z)->∀ l,dV ts.n (ts.rp E1.w E1.N) rows l->dV ts.n (ts.rp E1.w E1.N) rows' (l.take pos++(a.eval y).cells.toList++l.drop (pos+(a.eval y).cells.toList.length))):Does P X o E a.eval op K r:=by
 have hlen:=lT e3
 have hsz:(a.eval y).cells.size=ti.size:=by
  rw[<- aeh hc1, <- hlen];simp
 obtain⟨q1,q2⟩:=pR hse
 obtain⟨E1,w1,r1,f1,l1,ok1,st1,n1,m1⟩:=uZ q1 h fun _ _ _ _ hx=> .inl hx
 have lk1:look E1.O id=some (.arr ts rows true):=by
  rw[l1,bT,hns,hlo];rfl
 have ho:=h.obj id _ hlo
 unfold fV at ho
 rw[g2] at ho
 obtain⟨c,tt,f,k1,k2,k3,k4,k5⟩:=ho
 have hn:uX E.N E1.N E.w E1.w:=fun b hb=>⟨n1 b hb,by rw[w1]⟩
 have p1:=hrep E1 hn (fun z hz j hj=>⟨fun e=>(by rw[e] at hj;have:=q2 z hz foreign hj;rw[uI h q1] at this;cases this),fun b' ts' rows' wr' j1 j2=>⟨m1 j ts' rows' wr' b' (q2 z hz j hj) j1 j2,by rw[w1]⟩⟩) c.toList (fJ (fun d l=>aC.jI hn ts d l) _ _ k5)
 have hcs:rows.length*ts.n<=c.size:=Nat.le_trans (Nat.mul_le_mul_right _ k3) k4
 refine⟨.undef,_,_,_,hr,IG T hop h1 g5 hsz ?_⟩
 refine oz _ pos 0 E.w c tt f _ (CZ h hlo rfl g2) k1 k2 (Bo e3 hc2) (by omega) ?_
 intro w' c' z1 z2 z3 z4 z5
 have wo:=zA (w':=w') ok1 lk1 rfl (by rw[r1];exact g2) (by rw[w1];exact z1) (by rw[w1];exact z2) (.arr ts rows' true) rfl [.dO id] (fun _=>rfl) rfl
 have lt:=lW (es:=[.dO id]) (id:=id) (a':= .arr ts rows' true) (O:=E1.O) (fun _=>rfl) rfl
 have hk:=wo.1 rfl
 have hst:=hk.dO (fun ts' pK wr' hx=>by
  rw[lk1] at hx;cases hx
  exact⟨rfl,rows',hlen',true,lt.1⟩)
 have hok:=wo.2 hst (by
  unfold fV
  show match (E1.ρ id).b with|none=>_|some b=>_
  rw[r1,g2]
  refine⟨c',tt,f,z3,fun j hj=>k2 j (by omega),by rw[hlen'];exact k3,by rw[z4];exact k4,?_⟩
  have p1':=fJ (fun d l=>aC.jI hk.Bj ts d l) _ _ p1
  rw[z5];exact p1')
 refine Qn.look (E':={E1 with w:=w',O:=dw [.dO id] ((id,.arr ts rows' true)::E1.O)}) f1 (fun j=> ?_) hok.grow (st1.trans hst) (.inl ⟨rfl,rfl⟩)
 show _=look (dw [.dO id] _) j
 by_cases e:j=id
 ·subst e
  rw[lt.1,bT,yc,hns,dA];rfl
 ·rw[lt.2 j e,l1,bT,bT,yc,fU _ _ (fun x=>e x.symm)]
  split
  ·rfl
  ·cases look E.O j with
   |none=>rfl
   |some x=>simp only[Option.map_some,qQ]
theorem uf{α:Type}:∀ (l:List α) (i:Nat) (x:α),zl l i x=l.set i x
 |[],_,_=>rfl
 | _::_,0,_=>rfl
 |y::r,i+1,x=>by show y::zl r i x=_;rw[uf r i x];rfl
theorem IJ{α:Type}:∀ (rs l:List α) (i:Nat),i+rs.length<=l.length->zn l i rs=l.take i++rs++l.drop (i+rs.length)
 |[],l,i,_=>by simp[zn]
 |x::rs,l,i,h=>by
  simp only[List.length_cons] at h
  unfold zn
  rw[IJ rs _ _ (by rw[uf,List.length_set];omega),uf]
  rw[List.take_set,List.drop_set_of_lt (by omega)]
  have e:(l.take (i+1)).set i x=l.take i++[x]:=by
   rw[List.take_add_one,List.set_append_right _ _ (by simp;omega)]
   have:i-(l.take i).length=0:=by simp;omega
   rw[this]
   have hlt:i<l.length:=by omega
   simp[hlt]
  rw[e]
  simp[Nat.add_assoc,Nat.add_comm,Nat.add_left_comm]
theorem FD{E':Env}(h:OK X o E aG)(hn:uX E.N E'.N E.w E'.w){ts:aC}:∀ (n:Nat) (xs:List AV) (rs:List ts.D) (m:List Value),mW E.O ts n xs=some rs->dG E xs m->(∀ x∈xs,Shut E E' x)->rs.length=n∧m.length=n*ts.n∧dV ts.n (ts.rp E'.w E'.N) rs m
 |0,[],rs,m,hr,hv,_=>by cases hr;unfold dG at hv;subst hv;simp[dV]
 |0,_::_,rs,m,hr,_,_=>by cases hr
 |n+1,xs,rs,m,hr,hv,hs=>by
  have hr:(match takeN ts.n xs with
   |some l=>match ts.iL E.O l,mW E.O ts n (rQ ts.n xs) with
    |some d,some ds=>some (d::ds)
    | _,_=>none
   |none=>none)=some rs:=by cases xs<;>exact hr
  split at hr
  ·rename_i l hl
   split at hr
   ·rename_i d ds hd hds
    cases hr
    obtain⟨v1,v2⟩:=Em hv hl
    have mem:∀ (k:Nat) (xs l:List AV),takeN k xs=some l->(∀ x∈l,x∈xs)∧(∀ x∈rQ k xs,x∈xs):=by
     intro k
     induction k with
     |zero=>intro xs l hl;cases hl;exact⟨fun _ hx=>(by cases hx),fun x hx=>(by cases xs<;>exact hx)⟩
     |succ k ih=>
      intro xs l hl
      cases xs with
      |nil=>cases hl
      |cons y ys=>
       obtain⟨z,hz,rfl⟩:=Option.map_eq_some_iff.1 (show (takeN k ys).map (y:: ·)=some l from hl)
       obtain⟨i1,i2⟩:=ih ys z hz
       exact⟨fun x hx=>(List.mem_cons.1 hx).elim (fun e=>e▸aee) fun hx=>aef _ (i1 x hx),fun x hx=>aef _ (i2 x hx)⟩
    obtain⟨m1,m2⟩:=mem _ _ _ hl
    have d1:=IE h hn ts l d _ hd v1 fun x hx=>hs x (m1 x hx)
    obtain⟨i1,i2,i3⟩:=FD h hn n _ ds _ hds (En hv) fun x hx=>hs x (m2 x hx)
    refine⟨by simp[i1],?_,⟨v2,d1,i3⟩⟩
    rw[List.length_drop] at i2
    rw[Nat.add_mul,Nat.one_mul];omega
   ·cases hr
  ·cases hr
theorem Wn:∀ (ts:aC) (w:World) (N:Nat->Prop) (d:ts.D) (l:List Value),ts.rp w N d l->l.length=ts.n
 | .one t,w,N,d,l,hl=>by unfold aC.rp at hl;obtain⟨v,rfl,_⟩:=hl;rfl
 | .cons t ts,w,N,d,l,hl=>by obtain⟨v,q,rfl,_,hl⟩:=C9.1 hl;simp[aC.n,Wn ts w N _ _ hl]
theorem ZM(T:gU P C){t:TypeId}{x y:Operand}(h:OK X o E aG)(ht:kD E tm a.tmps)(hop:op.op= .store t x y)(hr:fP C Rc tm E.O aG op K=some r):Does P X o E a.eval op K r:=by
 unfold fP at hr
 rw[hop] at hr
 dsimp only at hr
 split at hr
 ·rename_i ti id off v h1 h2 h3
  have e2:=dR ht h2
  have e3:=xX (dR ht h3)
  have hlen:=lT e3
  split at hr
  ·rename_i cs hlo
   obtain⟨hc,hr⟩:=gG hr
   simp only[Bool.not_eq_false',Bool.and_eq_true] at hc
   have hsz:(a.eval y).cells.size=ti.size:=by
    rw[<- aeh hc.1, <- hlen];simp
   split at hr
   ·rename_i cs' hset
    unfold VR at e2
    obtain⟨cs0,b,g1,g2,g3⟩:=e2
    rw[hlo] at g1;cases g1
    obtain⟨b',c,tt,f,k1,k2,k3,k4⟩:=h.obj id _ hlo
    rw[g2] at k1;cases k1
    obtain⟨s1,s2⟩:=qR hset k4 e3
    refine⟨.undef,_,_,[],hr,IG T hop h1 g3 hsz ?_⟩
    refine oz _ off 0 E.w c tt f _ (CZ h hlo rfl g2) k2 k3 (Bo e3 hc.2) (by simpa using s2) ?_
    intro w' c' z1 z2 z3 z4 z5
    have wo:=zA h hlo rfl g2 z1 z2 (.box cs') rfl [] (fun _=>rfl) rfl
    have hk:=(wo.1 rfl).aeB hlo
    have hok:=wo.2 hk.step ⟨b,c',tt,f,g2,z3,fun j hj=>k3 j (by omega),hk.step.oZ (by rw[z5];exact s1)⟩
    exact⟨{E with w:=w',O:=dw [] ((id,.box cs')::E.O)},rfl,rfl,rfl,hok.grow,hk.step,.inl ⟨rfl,rfl⟩⟩
   ·cases hr
  ·cases hr
 ·rename_i ti id i off v h1 h2 h3
  have e2:=dR ht h2
  have e3:=xX (dR ht h3)
  have hlen:=lT e3
  split at hr
  ·rename_i ts rows hlo
   obtain⟨hc,hr⟩:=gG hr
   simp only[Bool.not_eq_false',Bool.and_eq_true] at hc
   obtain⟨⟨hc1,hc2⟩,hc3⟩:=hc
   have hsz:(a.eval y).cells.size=ti.size:=by
    rw[<- aeh hc1, <- hlen];simp
   have hpos:0<(a.eval y).cells.size:=by rw[hsz];exact Nat.le_of_ble_eq_true hc3
   unfold VR at e2
   obtain⟨vV,jW,wr0,b,g1,g2,g3,g4,g5⟩:=e2
   rw[hlo] at g1;cases g1
   have hi:i.toNat<rows.length:=by omega
   split at hr
   ·
    rename_i ts' n ha
    split at hr
    ·rename_i rs FC hrs hse
     obtain⟨hb,hr⟩:=gG hr
     obtain⟨hle,hr⟩:=aP hr
     simp only[Bool.or_eq_false_iff,Bool.not_eq_false',Bool.and_eq_true] at hb
     obtain⟨hns,hm,hoff⟩:=hb
     have hoff:=aeh hoff
     rw[hoff,Nat.add_zero] at g5
     have hl0:rs.length=n∧(a.eval y).cells.toList.length=n*ts.n:=by
      have:∀ (n:Nat) (xs:List AV) (rs:List ts.D),mW E.O ts n xs=some rs->rs.length=n∧xs.length=n*ts.n:=by
       intro n
       induction n with
       |zero=>
        intro xs rs hx
        cases xs with
        |nil=>cases hx;simp
        |cons z zs=>cases hx
       |succ n ih=>
        intro xs rs hx
        have hx:(match takeN ts.n xs with
         |some l=>match ts.iL E.O l,mW E.O ts n (rQ ts.n xs) with
          |some d,some ds=>some (d::ds)
          | _,_=>none
         |none=>none)=some rs:=by cases xs<;>exact hx
        split at hx
        ·rename_i l hl
         split at hx
         ·rename_i d ds hd hds
          cases hx
          obtain⟨i1,i2⟩:=ih _ _ hds
          have tl:∀ (k:Nat) (xs l:List AV),takeN k xs=some l->xs.length=k+(rQ k xs).length:=by
           intro k
           induction k with
           |zero=>intro xs l _;cases xs<;>simp[rQ]
           |succ k ih=>
            intro xs l hl
            cases xs with
            |nil=>cases hl
            |cons y ys=>
             obtain⟨z,hz,_⟩:=Option.map_eq_some_iff.1 (show (takeN k ys).map (y:: ·)=some l from hl)
             have:=ih ys z hz
             show (y::ys).length=k+1+(rQ k ys).length
             simp only[List.length_cons];omega
          have:=tl _ _ _ hl
          exact⟨by simp[i1],by rw[Nat.add_mul,Nat.one_mul];omega⟩
         ·cases hx
        ·cases hx
      obtain⟨j1,j2⟩:=this n _ _ hrs
      exact⟨j1,by rw[hlen,j2]⟩
     have hp:=IJ rs rows i.toNat (by rw[hl0.1];exact hle)
     have hmul:(i.toNat+n)*ts.n<=rows.length*ts.n:=Nat.mul_le_mul_right _ hle
     rw[Nat.add_mul] at hmul
     refine II T h hop h1 e3 hc1 hc2 hlo g2 g5 hse hns hr (by rw[hp];simp[hl0.1];omega) (by rw[hl0.2];exact hmul) fun E1 hn hsh l hl=> ?_
     obtain⟨_,_,q3⟩:=FD h hn n _ rs _ hrs e3 hsh
     rw[hp,hl0.2]
     generalize (a.eval y).cells.toList=m at*
     have hll:=wu _ _ hl
     have len1:(l.take (i.toNat*ts.n)).length=i.toNat*ts.n:=by rw[List.length_take];omega
     have tk:(rows.take i.toNat).length=i.toNat:=by rw[List.length_take];omega
     rw[List.append_assoc,kT,kT,tk,hl0.1,List.append_assoc]
     refine⟨?_,?_,?_⟩
     ·rw[<- jK _ _ (i.toNat*ts.n) (by rw[tk];exact Nat.le_refl _),List.take_append_of_le_length (by omega),List.take_take,Nat.min_self,jK _ _ _ (by rw[tk];exact Nat.le_refl _)]
      exact ny _ _ _ hl
     ·rw[List.drop_append_of_le_length (by omega),List.drop_of_length_le (by omega),List.nil_append, <- jK _ _ (n*ts.n) (by rw[hl0.1];exact Nat.le_refl _),List.take_append_of_le_length (by omega),List.take_of_length_le (by omega)]
      exact q3
     ·have ai9:(l.take (i.toNat*ts.n)++m).length=i.toNat*ts.n+n*ts.n:=by rw[List.length_append];omega
      rw[List.drop_drop, <- List.append_assoc,List.drop_append_of_le_length (Nat.le_of_eq ai9.symm),List.drop_of_length_le (l:=l.take (i.toNat*ts.n)++m) (Nat.le_of_eq ai9),List.nil_append, <- Nat.add_mul]
      exact tN _ _ _ hl hle
    ·cases hr
   split at hr
   ·rename_i row FC hp hse
    obtain⟨hns,hr⟩:=gG hr
    have hrow0:∀ E1:Env,uX E.N E1.N E.w E1.w->(∀ z∈v.cells,Shut E E1 z)->∀ l,ts.rp E1.w E1.N (rows.getD i.toNat ts.zero) l->ts.rp E1.w E1.N row (l.take off++(a.eval y).cells.toList++l.drop (off+(a.eval y).cells.toList.length))∧off+(a.eval y).cells.toList.length<=l.length:=by
     intro E1 hn hsh l hl
     obtain⟨p1,p2⟩:=Wj h hn ts _ _ row off _ _ hp e3 hsh hl
     exact⟨p1,p2 (fun x=>by rw[<- Array.length_toList,x] at hpos;exact absurd hpos (Nat.lt_irrefl _))⟩
    have hm:off+(a.eval y).cells.toList.length<=ts.n:=by
     have ho:=h.obj id _ hlo
     unfold fV at ho
     rw[g2] at ho
     obtain⟨c,tt,f,k1,k2,k3,k4,k5⟩:=ho
     obtain⟨q1,q2⟩:=pR hse
     obtain⟨E1,w1,r1,f1,l1,ok1,st1,n1,m1⟩:=uZ q1 h fun _ _ _ _ hx=> .inl hx
     have hn:uX E.N E1.N E.w E1.w:=fun b hb=>⟨n1 b hb,by rw[w1]⟩
     have hrow:=(pG rows _ i.toNat _ k5 (sF (d:=ts.zero) hi)).1
     have:=(hrow0 E1 hn (fun z hz j hj=>⟨fun e=>(by rw[e] at hj;have:=q2 z hz foreign hj;rw[uI h q1] at this;cases this),fun b' ts' rows' wr' j1 j2=>⟨m1 j ts' rows' wr' b' (q2 z hz j hj) j1 j2,by rw[w1]⟩⟩) _ (aC.jI hn ts _ _ hrow)).2
     rwa [Wn _ _ _ _ _ hrow] at this
    have hmul:(i.toNat+1)*ts.n<=rows.length*ts.n:=Nat.mul_le_mul_right _ hi
    rw[Nat.add_mul,Nat.one_mul] at hmul
    refine II T h hop h1 e3 hc1 hc2 hlo g2 g5 hse hns hr (by simp) (by omega) fun E1 hn hsh l hl=> ?_
    have hrow:=pG rows l i.toNat _ hl (sF (d:=ts.zero) hi)
    obtain⟨p1,_⟩:=hrow0 E1 hn hsh _ hrow.1
    have hl2:((l.drop (i.toNat*ts.n)).take ts.n).length=ts.n:=by simp at hrow ⊢;omega
    have:=Bh rows l i.toNat row _ hl hi (by simp only[List.length_append,List.length_take,List.length_drop] at hl2 ⊢;simp only[Array.length_toList] at hl2 hm ⊢;omega) p1
    rw[ZL l _ (i.toNat*ts.n) ts.n off hm] at this
    exact this
   ·cases hr
  ·cases hr
 ·cases hr
end ops
end Go.E
end
section
namespace Go.E
variable {E:Env} {tm:List (Nat×AV)} {a:Act} {R:Type} {C:kC} {Rc:ah} {P:Program} {X:Ctx} {o:Ow} {aG:Nat}
section ops
variable {op:Oper} {K:KK R} {r:R}
theorem yg(z:Array Value):∀ (k:Nat),(List.range (k*z.size)).map (fun i=>z[i%z.size]!)=(List.replicate k z.toList).flatten
 |0=>by simp
 |k+1=>by
  rw[Nat.add_mul,Nat.one_mul,Nat.add_comm,List.range_add,List.map_append,List.replicate_succ,List.flatten_cons, <- yg z k]
  congr 1
  ·apply List.ext_getElem
   ·simp
   ·intro i h1 h2
    have:i<z.size:=by simpa using h1
    simp[Nat.mod_eq_of_lt this,this]
  ·rw[List.map_map]
   apply List.map_congr_left
   intro i _
   simp[Function.comp]
theorem yh{α:Type}{n:Nat}{Q:α->List Value->Prop}{d:α}{z rest:List Value}(hz:z.length=n)(hq:Q d z):∀ (l k:Nat),l<=k->dV n Q (List.replicate l d) ((List.replicate k z).flatten++rest)
 |0,_,_=>trivial
 |l+1,0,h=>absurd h (Nat.not_succ_le_zero _)
 |l+1,k+1,h=>by
  rw[List.replicate_succ,List.replicate_succ,List.flatten_cons,List.append_assoc]
  refine⟨by simp[hz],?_,?_⟩
  ·rw[List.take_append_of_le_length (by omega),List.take_of_length_le (by omega)];exact hq
  ·rw[List.drop_append_of_le_length (by omega),List.drop_of_length_le (by omega),List.nil_append]
   exact yh hz hq l k (by omega)
theorem Uc{w:World}{N:Nat->Prop}:∀ (ts:aC) (d:ts.D) (l:List Value),ts.rp w N d l->l.length=ts.n
 | .one _,_,_,h=>by unfold aC.rp at h;obtain⟨v,rfl,_⟩:=h;rfl
 | .cons _ ts,d,_,h=>by unfold aC.rp at h;obtain⟨v,q,rfl,_,h⟩:=h;unfold aC.n;simp[Uc ts d.2 q h]
theorem gU.NV(T:gU P C){t:TypeId}{ti:TI}{ts:aC}(hl:look C.ty t=some ti)(hr:ti.row=some ts):∃ (i:TypeInfo) (z:Value),P.info? t=some i∧i.size=ts.n∧i.bytes=ti.bytes∧0<ti.bytes∧ti.bytes<=65536∧i.zero=some z∧z.cells.size=ts.n∧∀ w N,ts.rp w N ts.zero z.cells.toList:=by
 obtain⟨i,h1,h2,h3,_,h4⟩:=T.info t ti hl
 obtain⟨k1,k2,k3,z,k4,k5⟩:=h4 ts hr
 refine⟨i,z,h1,h2.trans k1,h3,k2,k3,k4,?_,k5⟩
 have:=Uc ts _ _ (k5 default fun _=>False)
 simpa using this
theorem wrap64{n:Int}(h0:0<=n)(h1:n<=9223372036854775807):IntKind.i64.wrap n=n:=by
 unfold IntKind.wrap
 simp only[IntKind.signed,IntKind.bits]
 simp
 omega
theorem xq{id:Nat}(T:gU P C){t:TypeId}{l c:Operand}(h:OK X o E aG)(hf:look E.O id=none)(h0:id≠foreign)(ht:kD E tm a.tmps)(hop:op.op= .makeSlice t l c)(hr:fP C Rc tm E.O id op K=some r):Makes P X o E aG id a.eval op K r:=by
 unfold fP at hr
 rw[hop] at hr
 dsimp only at hr
 split at hr
 ·rename_i ti kl nl kc nc h1 h2 h3
  split at hr
  ·rename_i te hl2
   split at hr
   ·rename_i ts hrow
    split at hr
    ·rename_i ts' hsl
     obtain⟨hb,hr⟩:=gG hr
     obtain⟨g1,hr⟩:=aP hr
     obtain⟨g2,hr⟩:=aP hr
     obtain⟨g3,hr⟩:=aP hr
     obtain⟨ti',te',e1,hU,e2,e3,_⟩:=T.D7 hsl
     rw[h1] at e1;cases e1
     obtain⟨i,z,hi,hsz,hby,hb0,_,hz,hzs,hrp⟩:=T.NV hl2 hrow
     have v2:=dR ht h2
     have v3:=dR ht h3
     unfold VR at v2 v3
     have hc:nc<=140737488355328:=by
      have:nc*1<=nc*(te.bytes:Int):=Int.mul_le_mul_of_nonneg_left (by omega) (by omega)
      omega
     have w1:=wrap64 g1 (by omega:nl<=9223372036854775807)
     have w2:=wrap64 (by omega:0<=nc) (by omega:nc<=9223372036854775807)
     refine Makes.new (cap:=nc.toNat) (w':={E.w with heap:=E.w.heap.push (.cells ((Array.range (nc.toNat*ts.n)).map (z.cells[· %z.cells.size]!)) ti.elem)}) (u:= .slice (some ⟨E.w.heap.size,0,none⟩) nl.toNat nc.toNat) h hf h0 hr rfl ?_ ?_
     ·intro E' _ _ _ _ _ e2 e3 e4
      have hlist:((Array.range (nc.toNat*ts.n)).map (z.cells[· %z.cells.size]!)).toList=(List.replicate nc.toNat z.cells.toList).flatten:=by
       rw[Array.toList_map,Array.toList_range, <- hzs];exact yg _ _
      refine⟨?_,?_⟩
      ·unfold fV
       rw[e2]
       refine⟨_,_,_,e4,IC _,by simp;omega,by simp,?_⟩
       rw[hlist]
       have:=yh (n:=ts.n) (Q:=ts.rp E'.w E'.N) (d:=ts.zero) (z:=z.cells.toList) (rest:=[]) (by simpa using hzs) (hrp _ _) nl.toNat nc.toNat (by omega)
       simpa using this
      ·unfold VR
       exact⟨ts,_,true,by rw[e3];exact dA _ _ _,by rw[e2];simp⟩
     ·intro Q hq
      unfold execOp
      rw[hop]
      dsimp only
      rw[jL,v2,v3]
      unfold Instr.makeSlice
      rw[ak,aB hU]
      dsimp only
      rw[ak]
      show acc P _ _ (asInt (.int kl nl)) _ _
      show acc P _ _ (do let c <- asInt (.int kc nc);_) _ _
      rw[ak]
      show acc P _ _ (do let bytes <- typeInfo ti.elem;_) _ _
      rw[ak,kJ hi]
      dsimp only
      rw[w1,w2,hby]
      have c1:¬ ((te.bytes:Int)*nc>2^48):=by
       rw[Int.mul_comm];omega
      have c2:(decide (nc<0)||decide ((te.bytes:Int)*nc>2^48))=false:=by
       simp only[Bool.or_eq_false_iff,decide_eq_false_iff_not];exact⟨by omega,c1⟩
      have c3:¬ (((decide (nc<0)||decide ((te.bytes:Int)*nc>2^48))||decide (nl<0)||decide (nl>nc))=true):=by
       rw[c2];simp;omega
      rw[if_neg c3,ak]
      have room:∀ {Q:Unit->World->Prop} {w:World},Q () w->acc P (wC o E.w) (vU o E.w) (askRoom (nc.toNat*te.bytes)) Q w:=by
       intro Q w hq
       unfold askRoom
       split
       ·exact⟨.inl rfl,hq⟩
       ·exact hq
      refine room ?_
      rw[ak,fM hi,hsz]
      have fin:acc P (wC o E.w) (vU o E.w) (do let a <- newRow ti.elem ((Array.range (nc.toNat*ts.n)).map (z.cells[· %z.cells.size]!));pure (Value.slice (some a) nl.toNat nc.toNat)) (fun u w=>Q (.value u) w) E.w:=by
       rw[ak,nG];exact hq
      split
      ·rename_i hz0
       rw[hz0] at fin⊢
       have e0:∀ f:Nat->Value,(Array.range 0).map f= #[]:=fun f=>by simp
       rw[ak,bY]
       rw[e0] at fin⊢
       exact fin
      ·rw[ak,iY hi hz,ak,bY]
       exact fin
    ·cases hr
   ·cases hr
  ·cases hr
 ·cases hr
theorem NW(T:gU P C){t:TypeId}{l c:Operand}(h:OK X o E aG)(ht:kD E tm a.tmps)(hop:op.op= .makeSlice t l c)(hr:fP C Rc tm E.O aG op K=some r):Does P X o E a.eval op K r:=
 (xq T h h.fresh (Nat.ne_of_gt h.pos) ht hop hr).does
theorem FH(vs:List Value):∀ (off k:Nat) (cs:Array Value),off+k+vs.length<=cs.size->((vs.zipIdx k).foldl (fun cs (c,j)=>cs.setIfInBounds (off+j) c) cs).toList=cs.toList.take (off+k)++vs++cs.toList.drop (off+k+vs.length):=by
 induction vs with
 |nil=>intro off k cs _;simp
 |cons v vs ih=>
  intro off k cs hl
  simp only[List.length_cons] at hl
  have hlt:off+k<cs.size:=by omega
  simp only[List.zipIdx_cons,List.foldl_cons]
  rw[ih off (k+1) _ (by simp;omega)]
  simp only[Array.toList_setIfInBounds,List.length_cons]
  rw[List.take_set,List.drop_set_of_lt (by omega)]
  have:cs.toList.take (off+(k+1))=cs.toList.take (off+k)++[cs[off+k]]:=by
   rw[show off+(k+1)=off+k+1 by omega,List.take_add_one]
   simp[hlt]
  rw[this,List.set_append_right _ _ (by simp;omega)]
  have:off+k-(cs.toList.take (off+k)).length=0:=by simp;omega
  rw[this]
  simp only[List.set_cons_zero,List.append_assoc,List.cons_append,List.nil_append]
  congr 4;omega
theorem LW{place:Nat->Option (Nat×Nat)}{cs:Array Value}{i off size:Nat}{v:Value}{rest:List (Nat×Value)}(hp:place i=some (off,size))(hs:v.cells.size=size)(hl:off+v.cells.size<=cs.size):
  ∃ cs':Array Value,cs'.toList=cs.toList.take off++v.cells.toList++cs.toList.drop (off+v.cells.size)∧cs'.size=cs.size∧Instr.fill place cs ((i,v)::rest)=Instr.fill place cs' rest:=by
 refine⟨v.cells.zipIdx.foldl (fun cs (c,j)=>cs.setIfInBounds (off+j) c) cs,?_,?_,?_⟩
 ·rw[<- Array.foldl_toList,Array.toList_zipIdx]
  have:=FH v.cells.toList off 0 cs (by simpa using hl)
  simpa using this
 ·rw[<- Array.foldl_toList,Array.toList_zipIdx]
  have:=congrArg List.length (FH v.cells.toList off 0 cs (by simpa using hl))
  simp at this ⊢;omega
 ·show (match place i with|none=>none|some (off,size)=>if v.cells.size≠size||off+v.cells.size>cs.size then none else Instr.fill place _ rest)=_
  rw[hp]
  dsimp only
  have:(decide (v.cells.size≠size)||decide (off+v.cells.size>cs.size))=false:=by
   simp;omega
  rw[if_neg (by rw[this];simp)]
theorem Hq(ht:kD E tm a.tmps):∀ {ps:List (Nat×Operand)} {vs:List (Nat×AV)},KR tm ps=some vs->vs.map (·.1)=ps.map (·.1)∧dG E (vs.map (·.2)) (ps.map fun p=>a.eval p.2)
 |[],vs,h=>by cases h;exact⟨rfl,by unfold dG;rfl⟩
 |(i,x)::q,vs,h=>by
  unfold KR at h
  split at h
  ·rename_i v vs' h1 h2
   cases h
   obtain⟨k1,k2⟩:=Hq ht h2
   refine⟨by simp[k1],?_⟩
   simp only[List.map_cons]
   unfold dG;exact⟨_,_,rfl,dR ht h1,k2⟩
  ·cases h
theorem sH{place:Nat->Option (Nat×Nat)}:∀ (ps:List (Nat×Operand)) (vs:List (Nat×AV)) (cs cs':List AV) (c:Array Value),nM place cs vs=some cs'->vs.map (·.1)=ps.map (·.1)->dG E (vs.map (·.2)) (ps.map fun p=>a.eval p.2)->dG E cs c.toList->
  ∃ c':Array Value,Instr.fill place c (ps.map fun p=>(p.1,a.eval p.2))=some c'∧dG E cs' c'.toList
 |[],[],cs,cs',c,h,_,_,hc=>by cases h;exact⟨c,rfl,hc⟩
 |[],_::_,_,_,_,_,h,_,_=>by simp at h
 | _::_,[],_,_,_,_,h,_,_=>by simp at h
 |(i,x)::ps,(j,v)::vs,cs,cs',c,h,hi,hv,hc=>by
  simp only[List.map_cons,List.cons.injEq] at hi
  obtain⟨hj,hi⟩:=hi
  have hj:j=i:=hj
  subst hj
  simp only[List.map_cons] at hv
  unfold dG at hv
  obtain⟨u,q,e,h1,h2⟩:=hv
  simp only[List.cons.injEq] at e
  obtain⟨rfl,rfl⟩:=e
  unfold nM at h
  split at h
  ·rename_i off n hp
   split at h
   ·rename_i cs1 hset
    obtain⟨hn,h⟩:=aX h
    have e1:=xX h1
    obtain⟨s1,s2⟩:=qR hset hc e1
    have hlen:=lT e1
    obtain⟨c1,k1,k2,k3⟩:=LW (rest:=ps.map fun p=>(p.1,a.eval p.2)) (cs:=c) hp (v:=a.eval x) (by rw[<- aeh hn, <- hlen];simp) (by simpa using s2)
    obtain⟨c',k4,k5⟩:=sH ps vs cs1 cs' c1 h hi h2 (by rw[k1];simpa using s1)
    exact⟨c',by rw[<- k4];exact k3,k5⟩
   ·cases h
  ·cases h
end ops
end Go.E
end
section
namespace Go.E
variable {E:Env} {tm:List (Nat×AV)} {a:Act} {R:Type} {C:kC} {Rc:ah} {P:Program} {X:Ctx} {o:Ow} {aG:Nat}
section ops
variable {op:Oper} {K:KK R} {r:R}
theorem QG{α β:Type}{wr rd:Nat->Prop}(g:α->Sem β)(k:α->β):∀ (xs:List α),(∀ x∈xs,∀ (Q:β->World->Prop) (w:World),Q (k x) w->acc P wr rd (g x) Q w)->∀ (Q:List β->World->Prop) (w:World),Q (xs.map k) w->acc P wr rd (xs.mapM g) Q w
 |[],_,Q,w,hq=>by simpa [bY] using hq
 |x::xs,h,Q,w,hq=>by
  rw[List.mapM_cons,ak]
  refine h x (by simp) _ _ ?_
  rw[ak]
  refine QG g k xs (fun y hy=>h y (by simp[hy])) _ _ ?_
  exact hq
theorem ZN{α β:Type}{wr rd:Nat->Prop}(g:α->Sem β)(k:α->β)(xs:Array α)(h:∀ x∈xs,∀ (Q:β->World->Prop) (w:World),Q (k x) w->acc P wr rd (g x) Q w)(Q:Array β->World->Prop)(w:World)(hq:Q (xs.map k) w):acc P wr rd (xs.mapM g) Q w:=by
 rw[Array.mapM_eq_mapM_toList]
 show acc P wr rd (List.toArray <$> List.mapM g xs.toList) Q w
 rw[map_eq_pure_bind,ak]
 refine QG g k xs.toList (fun x hx=>h x (by simpa using hx)) _ _ ?_
 rw[bY]
 have:(xs.toList.map k).toArray=xs.map k:=by apply Array.ext';simp
 rw[this];exact hq
theorem ZO(T:gU P C){t:TypeId}{ps:Array (Nat×Operand)}(h:OK X o E aG)(ht:kD E tm a.tmps)(hop:op.op= .build t ps)(hr:fP C Rc tm E.O aG op K=some r):Does P X o E a.eval op K r:=by
 unfold fP at hr
 rw[hop] at hr
 dsimp only at hr
 split at hr
 ·rename_i ti vs h1 h2
  split at hr
  ·rename_i cs hf
   obtain⟨hc,hr⟩:=aX hr
   simp only[Bool.and_eq_true] at hc
   obtain⟨i,hi,hsz,_,hzero,_⟩:=T.info t ti h1
   obtain⟨z,z1,z2⟩:=hzero (aeh hc.1)
   obtain⟨d,hU,hd⟩:=T.under t ti h1
   have hk:=aeh hc.2
   have:=TI.nD hd (by rw[hk];decide)
   rw[hk] at this
   obtain⟨fs,rfl⟩:∃ fs,d= .struct fs:=by simpa using this
   have ahd:=hd.2.2
   have tys:=T.flt t ti fs h1 hU
   obtain⟨v1,v2⟩:=Hq ht h2
   let sz:TypeId->Nat:=fun u=>match P.info? u with|some i=>i.size|none=>0
   have hp:∀ i q,(match qL ti i with|some (o,ft)=>(match look C.ty ft with|some tf=>some (o,tf.size)|none=>none)|none=>none)=some q->(fs.map fun f=>(f.offset,sz f.type))[i]? =some q:=by
    intro i q hq
    split at hq
    ·rename_i off ft hfo
     split at hq
     ·rename_i tf hl
      cases hq
      obtain⟨fl,k1,k2,k3⟩:=ahd i off ft hfo
      obtain⟨j,j1,j2,_⟩:=T.info ft tf hl
      simp only[Array.getElem?_map,k1,Option.map_some,k2,k3,sz,j1,j2]
     ·cases hq
    ·cases hq
   have gen:∀ (ps:List (Nat×Operand)) (vs:List (Nat×AV)) (cs cs':List AV),nM (fun i=>match qL ti i with|some (o,ft)=>(match look C.ty ft with|some tf=>some (o,tf.size)|none=>none)|none=>none) cs vs=some cs'->
     nM (fun i=>(fs.map fun f=>(f.offset,sz f.type))[i]?) cs vs=some cs':=by
    intro _ vs
    induction vs with
    |nil=>intro cs cs' h;exact h
    |cons v vs ih=>
     intro cs cs' h
     obtain⟨i,x⟩:=v
     unfold nM at h⊢
     split at h
     ·rename_i off n hpl
      rw[hp i _ hpl]
      dsimp only
      split at h
      ·rename_i c1 hset
       obtain⟨b1,b2⟩:=aX h
       rw[b1]
       exact ih _ _ b2
      ·cases h
     ·cases h
   obtain⟨c',f1,f2⟩:=sH ps.toList vs _ _ z.cells (gen [] _ _ _ hf) v1 v2 (nN (E:=E) z2)
   refine Does.val (u:= .agg c') h hr ?_ fun Q hq=> ?_
   ·unfold VR;exact⟨c'.toList,by simp,f2⟩
   ·unfold execOp
    rw[hop]
    dsimp only
    rw[jL]
    unfold Instr.build
    rw[ak,iY hi z1,ak,aB hU]
    dsimp only
    rw[ak]
    refine ZN _ (fun f=>(f.offset,sz f.type)) fs (fun fl hfl Q w hq=> ?_) _ _ ?_
    ·obtain⟨j,hj⟩:=tys fl hfl
     rw[ak,fM hj]
     have:sz fl.type=j.size:=by show (match P.info? fl.type with|some i=>i.size|none=>0)=_;rw[hj]
     rw[this] at hq;exact hq
    ·have e:(ps.map fun x=>(x.1,a.eval x.2)).toList=ps.toList.map fun p=>(p.1,a.eval p.2):=by simp
     show acc P _ _ (match Instr.fill _ z.cells (Array.map (fun x=>match x with|(i,x)=>(i,a.eval x)) ps).toList with|some cells=>_| _=>_) _ _
     have e':(Array.map (fun x:Nat×Operand=>match x with|(i,x)=>(i,a.eval x)) ps).toList=ps.toList.map fun p=>(p.1,a.eval p.2):=by simp
     rw[e',f1]
     exact hq
  ·
   obtain⟨hc,hr⟩:=aX hr
   rw[Bool.and_eq_true] at hc
   split at hr
   ·rename_i te hle
    split at hr
    ·rename_i cs hf
     obtain⟨i,hi,hsz,_,hzero,_⟩:=T.info t ti h1
     obtain⟨z,z1,z2⟩:=hzero (aeh hc.1)
     obtain⟨d,hU,hd⟩:=T.under t ti h1
     have hk:=aeh hc.2
     have:=TI.nD hd (by rw[hk];decide)
     rw[hk] at this
     have hdd:d= .array ti.len ti.elem:=by simpa using this
     subst hdd
     obtain⟨ie,hie,hsz',_⟩:=T.info _ te hle
     obtain⟨v1,v2⟩:=Hq ht h2
     obtain⟨c',f1,f2⟩:=sH ps.toList vs _ _ z.cells hf v1 v2 (nN (E:=E) z2)
     refine Does.val (u:= .agg c') h hr ?_ fun Q hq=> ?_
     ·unfold VR;exact⟨c'.toList,by simp,f2⟩
     ·unfold execOp
      rw[hop]
      dsimp only
      rw[jL]
      unfold Instr.build
      rw[ak,iY hi z1,ak,aB hU]
      dsimp only
      rw[ak,fM hie,hsz']
      show acc P _ _ (match Instr.fill _ z.cells (Array.map (fun x=>match x with|(i,x)=>(i,a.eval x)) ps).toList with|some cells=>_| _=>_) _ _
      have e':(Array.map (fun x:Nat×Operand=>match x with|(i,x)=>(i,a.eval x)) ps).toList=ps.toList.map fun p=>(p.1,a.eval p.2):=by simp
      rw[e',f1]
      exact hq
    ·cases hr
   ·cases hr
 ·cases hr
theorem Ak{E1:Env}(h:OK X o E aG)(hn:uX E.N E1.N E.w E1.w)(ts:aC):∀ (ps:List (Nat×Operand)) (vs:List (Nat×AV)) (rows rows':List ts.D) (c:Array Value),oh E.O ts rows vs=some rows'->vs.map (·.1)=ps.map (·.1)->
  dG E (vs.map (·.2)) (ps.map fun p=>a.eval p.2)->(∀ p∈vs,∀ x∈p.2.cells,Shut E E1 x)->dV ts.n (ts.rp E1.w E1.N) rows c.toList->c.size=rows.length*ts.n->
  ∃ c':Array Value,Instr.fill (fun i=>some (i*ts.n,ts.n)) c (ps.map fun p=>(p.1,a.eval p.2))=some c'∧dV ts.n (ts.rp E1.w E1.N) rows' c'.toList∧rows'.length=rows.length∧c'.size=c.size
 |[],[],rows,rows',c,hf,_,_,_,hr,_=>by cases hf;exact⟨c,rfl,hr,rfl,rfl⟩
 |[],_::_,_,_,_,_,hi,_,_,_,_=>by simp at hi
 | _::_,[],_,_,_,_,hi,_,_,_,_=>by simp at hi
 |(i,x)::ps,(j,v)::vs,rows,rows',c,hf,hi,hv,hs,hr,hc=>by
  simp only[List.map_cons,List.cons.injEq] at hi
  obtain⟨hj,hi⟩:=hi
  have hj:j=i:=hj
  subst hj
  simp only[List.map_cons] at hv
  unfold dG at hv
  obtain⟨u,q,e,h1,h2⟩:=hv
  simp only[List.cons.injEq] at e
  obtain⟨rfl,rfl⟩:=e
  have hf:(match ts.iL E.O v.cells with|some d=>bif Nat.blt j rows.length then oh E.O ts (zl rows j d) vs else none|none=>none)=some rows':=hf
  split at hf
  ·rename_i d hd
   obtain⟨hlt,hf⟩:=aX hf
   have hlt:j<rows.length:=Nat.le_of_ble_eq_true hlt
   have e1:=xX h1
   have hrow:=IE h hn ts v.cells d _ hd e1 (hs (j,v) (by simp))
   have hlen:=Uc ts d _ hrow
   have hmul:j*ts.n+ts.n<=rows.length*ts.n:=by
    have:=Nat.mul_le_mul_right ts.n (Nat.succ_le_of_lt hlt);rwa [Nat.succ_mul] at this
   obtain⟨c1,k1,k2,k3⟩:=LW (place:=fun i=>some (i*ts.n,ts.n)) (i:=j) (off:=j*ts.n) (size:=ts.n) (rest:=ps.map fun p=>(p.1,a.eval p.2)) (cs:=c) rfl (v:=a.eval x) (by simpa using hlen) (by rw[show (a.eval x).cells.size=ts.n by simpa using hlen];omega)
   have hset:=Bh rows c.toList j d _ hr hlt hlen hrow
   rw[uf] at hf
   obtain⟨c',m1,m2,m3,m4⟩:=Ak h hn ts ps vs _ rows' c1 hf hi h2 (fun p hp=>hs p (by simp[hp])) (by rw[k1];rw[show (a.eval x).cells.size=ts.n by simpa using hlen];exact hset) (by rw[k2,hc];simp)
   exact⟨c',by rw[<- m1];exact k3,m2,by rw[m3];simp,by rw[m4,k2]⟩
  ·cases hf
theorem LX{O:bn}{es:List Eff}(h:qj O es){i:Nat}(hi:look O i=none):aQ i es=false:=by
 induction h with
 |nil=>rfl
 | @cons id ts rows wr r' ha _ ih=>
  show (Nat.beq id i||aQ i r')=false
  have:id≠i:=fun e=>by rw[e,hi] at ha;cases ha
  rw[cZ this,ih];rfl
theorem vk{id:Nat}(T:gU P C){t:TypeId}{n:Nat}{ps:Array (Nat×Operand)}(h:OK X o E aG)(hfi:look E.O id=none)(h0:id≠foreign)(ht:kD E tm a.tmps)(hop:op.op= .buildSlice t n ps)(hr:fP C Rc tm E.O id op K=some r):Makes P X o E aG id a.eval op K r:=by
 unfold fP at hr
 rw[hop] at hr
 dsimp only at hr
 split at hr
 ·rename_i ti vs h1 h2
  split at hr
  ·rename_i te hl2
   split at hr
   ·rename_i ts hrow
    split at hr
    ·rename_i rows FC ts' hf hse hsl
     obtain⟨hc,hr⟩:=gG hr
     simp only[Bool.or_eq_false_iff] at hc
     obtain⟨ti',te',e1,hU,e2,e3,_⟩:=T.D7 hsl
     rw[h1] at e1;cases e1
     obtain⟨i,z,hi,hsz,hby,hb0,_,hz,hzs,hrp⟩:=T.NV hl2 hrow
     have hte:te.size=ts.n:=by rw[<- T.szs _ i hi te hl2,hsz]
     have hsmall:¬ (n*ts.n>2^24):=by
      have:=hc.2
      rw[hte] at this
      intro hgt
      have h2:Nat.blt 16777216 (n*ts.n)=true:=Nat.ble_eq_true_of_le hgt
      rw[h2] at this;cases this
     obtain⟨q1,q2⟩:=pR hse
     obtain⟨E1,w1,r1,f1,l1,ok1,st1,n1,m1⟩:=uZ q1 h fun _ _ _ _ hx=> .inl hx
     have hn:uX E.N E1.N E.w E1.w:=fun b hb=>⟨n1 b hb,by rw[w1]⟩
     obtain⟨v1,v2⟩:=Hq ht h2
     have shut:∀ p∈vs,∀ x∈p.2.cells,Shut E E1 x:=by
      intro p hp x hx j hj
      have hmem:x∈(vs.map (·.2.cells)).flatten:=List.mem_flatten.2 ⟨_,List.mem_map.2 ⟨p,hp,rfl⟩,hx⟩
      have hsj:=q2 x hmem j hj
      exact⟨fun e=>(by rw[e,uI h q1] at hsj;cases hsj),fun b am2 pK ahc j1 j2=>⟨m1 j am2 pK ahc b hsj j1 j2,by rw[w1]⟩⟩
     let zc:Array Value:=(Array.range (n*ts.n)).map (z.cells[· %z.cells.size]!)
     have hlist:zc.toList=(List.replicate n z.cells.toList).flatten:=by
      rw[Array.toList_map,Array.toList_range, <- hzs];exact yg _ _
     have hz0:dV ts.n (ts.rp E1.w E1.N) (List.replicate n ts.zero) zc.toList:=by
      rw[hlist]
      have:=yh (n:=ts.n) (Q:=ts.rp E1.w E1.N) (d:=ts.zero) (z:=z.cells.toList) (rest:=[]) (by simpa using hzs) (hrp _ _) n n (Nat.le_refl _)
      simpa using this
     obtain⟨c',k1,k2,k3,k4⟩:=Ak h hn ts ps.toList vs _ rows zc hf v1 v2 shut hz0 (by simp[zc])
     have hrl:rows.length=n:=by rw[k3];simp
     have hcs:c'.size=n*ts.n:=by rw[k4];simp[zc]
     let w2:World:={E1.w with heap:=E1.w.heap.push (.cells c' ti.elem)}
     have hf1:look E1.O id=none:=by rw[l1,bT,LX q1 hfi,hfi];rfl
     obtain⟨hk,hs,_⟩:=wB (id:=id) (gq:=max aG (id+1)) (w':=w2) ok1 hf1 h0 (by omega) (by omega) rfl (.arr ts rows true) n
     have hok:=fun gq hlt hle=>(wB (id:=id) (gq:=gq) (w':=w2) ok1 hf1 h0 hlt hle rfl (.arr ts rows true) n).2.2
     have hok:=fun gq hlt hle=>hok gq hlt hle (by
      unfold fV
      show match (upd E1.ρ id _ id).b with|none=>_|some b=>_
      rw[kK]
      refine⟨c',ti.elem,(0,0),by show w2.heap[_]? =_;simp[w2],IC _,by show _<=(upd E1.ρ id _ id).cap;rw[kK];exact Nat.le_of_eq hrl,by show (upd E1.ρ id _ id).cap*_<=_;rw[kK,hcs];exact Nat.le_refl _,fJ (fun d l=>aC.jI hk.Bj ts d l) _ _ k2⟩)
     refine⟨.own id,_,_,hr,fun gq hlt hle=> ?_⟩
     have fin:Qn X o E gq ((id,.arr ts rows true)::E.O) FC (.own id) (.value (.slice (some ⟨E.w.heap.size,0,none⟩) n n)) w2:=by
      refine Qn.look (E':={E1 with w:=w2,ρ:=upd E1.ρ id ⟨some E1.w.heap.size,n⟩,O:=(id,.arr ts rows true)::E1.O}) f1 (fun j=> ?_) (by rw[<- w1];exact hok gq hlt hle) (by have:=st1.trans hs;rwa [List.append_nil] at this) (.inr ⟨_,rfl,?_⟩)
      ·rw[bT]
       by_cases e:j=id
       ·subst e
        rw[LX q1 hfi,dA]
        show _=look ((j,_)::E1.O) j
        rw[dA];rfl
       ·rw[fU _ _ (fun x=>e x.symm)]
        show _=look ((id,_)::E1.O) j
        rw[fU _ _ (fun x=>e x.symm),l1,bT]
      ·unfold VR
       refine⟨ts,rows,true,dA _ _ _,?_⟩
       show _=Value.slice ((upd E1.ρ id _ id).b.map _) _ (upd E1.ρ id _ id).cap
       rw[kK,w1,hrl];rfl
     unfold execOp
     rw[hop]
     dsimp only
     rw[jL]
     unfold Instr.buildSlice
     rw[ak,aB hU]
     dsimp only
     rw[ak,fM hi,hsz,if_neg hsmall]
     have e':(Array.map (fun x:Nat×Operand=>match x with|(i,x)=>(i,a.eval x)) ps).toList=ps.toList.map fun p=>(p.1,a.eval p.2):=by simp
     have go:∀ zero:Array Value,(Array.range (n*ts.n)).map (zero[· %zero.size]!)=zc->acc P (wC o E.w) (vU o E.w) (do
       let some cells := Instr.fill (fun i => some (i * ts.n,ts.n)) ((Array.range (n * ts.n)).map (zero[· % zero.size]!)) (Array.map (fun x : Nat × Operand => match x with | (i,x) => (i,a.eval x)) ps).toList | stuck "buildSlice: a part of the wrong size"
       pure (Value.slice (some (<- newRow ti.elem cells)) n n)) (fun u w=>Qn X o E gq ((id,.arr ts rows true)::E.O) FC (.own id) (.value u) w) E.w:=by
      intro zero hze
      rw[hze,e',k1]
      dsimp only
      rw[ak,nG]
      have:({E.w with heap:=E.w.heap.push (.cells c' ti.elem)}:World)=w2:=by rw[<- w1]
      rw[this]
      exact fin
     split
     ·rename_i hn0
      rw[ak,bY]
      refine go #[] ?_
      have e0:∀ f:Nat->Value,(Array.range (n*ts.n)).map f= #[]:=fun f=>by rw[hn0];simp
      show _=(Array.range (n*ts.n)).map _
      rw[e0,e0]
     ·rw[ak,iY hi hz,ak,bY]
      exact go z.cells rfl
    ·cases hr
   ·cases hr
  ·cases hr
 ·cases hr
theorem KX(T:gU P C){t:TypeId}{n:Nat}{ps:Array (Nat×Operand)}(h:OK X o E aG)(ht:kD E tm a.tmps)(hop:op.op= .buildSlice t n ps)(hr:fP C Rc tm E.O aG op K=some r):Does P X o E a.eval op K r:=
 (vk T h h.fresh (Nat.ne_of_gt h.pos) ht hop hr).does
end ops
end Go.E
end
