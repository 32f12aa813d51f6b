/- What is reckoned without an end; calls from outside; laws over bytes. -/
import Derived.ChangeSlices
import Derived.OpenShut
import Derived.RowKit
import Derived.Handed
import Derived.ChangeSame
import Derived.ChangeVars
import Derived.JoinedCond
import Derived.Deep.Slices
import Derived.Test.YtmceeioelenigaaGreatDoorEg
section
namespace Go.E
def Lt{R:Type}(x:Option R)(F:Nat->Nat->Option R):Prop:=∀ r,x=some r->∃ k0,∀ k m,k0<=k->k0<=m->F k m=some r
section
variable {R:Type}
theorem aZ{F:Nat->Nat->Option R}:Lt none F:=fun _ h=>by cases h
theorem aeO{x:Option R}:Lt x fun _ _=>x:=fun _ h=>⟨0,fun _ _ _ _=>h⟩
theorem iq{p:Prop}[Decidable p]{x:Option R}{F:Nat->Nat->Option R}(h:Lt x F):Lt (chk p x) fun k m=>chk p (F k m):=by
 by_cases hp:p
 ·unfold chk;simp only[if_pos hp];exact h
 ·unfold chk;simp only[if_neg hp];exact aZ
theorem BR{b:Bool}{x y:Option R}{F G:Nat->Nat->Option R}(h:Lt x F)(h':Lt y G):Lt (sel b x y) fun k m=>sel b (F k m) (G k m):=by
 cases b
 ·exact h'
 ·exact h
theorem iy{b:Bool}{x y:Option R}{F G:Nat->Nat->Option R}(h:Lt x F)(h':Lt y G):Lt (bif b then x else y) fun k m=>bif b then F k m else G k m:=by
 cases b
 ·exact h'
 ·exact h
theorem aeP{A:Type}{x:Option A}{F:Nat->Nat->Option A}{f:A->Option R}{G:Nat->Nat->A->Option R}(h:Lt x F)(hf:∀ a,Lt (f a) fun k m=>G k m a):Lt (x.bind f) fun k m=>(F k m).bind (G k m):=by
 intro r hr
 obtain⟨a,ha,hr⟩:=Option.bind_eq_some_iff.1 hr
 obtain⟨k1,h1⟩:=h a ha
 obtain⟨k2,h2⟩:=hf a r hr
 refine⟨max k1 k2,fun k m hk hm=> ?_⟩
 show (F k m).bind (G k m)=some r
 rw[h1 k m (by omega) (by omega)]
 exact h2 k m (by omega) (by omega)
open Classical in
theorem aeQ{x:Option R}{F:Nat->Nat->Option R}{α:Type}{l:List α}{f:α->Option R}{G:Nat->Nat->α->Option R}(h:Lt x F)(hl:∀ a∈l,Lt (f a) fun k m=>G k m a):Lt (sameAll x (l.map f)) fun k m=>sameAll (F k m) (l.map (G k m)):=by
 intro r hr
 have key:∀ l:List α,(∀ a∈l,Lt (f a) fun k m=>G k m a)->x=some r->qO x (l.map f)->∃ k0,∀ k m,k0<=k->k0<=m->qO (some r) (l.map (G k m)):=by
  intro l hl hx ha
  induction l with
  |nil=>exact⟨0,fun _ _ _ _=>trivial⟩
  |cons a l ih=>
   obtain⟨h1,h2⟩:f a=x∧qO x (l.map f):=ha
   obtain⟨k1,e1⟩:=ih (fun b hb=>hl b (aef _ hb)) h2
   obtain⟨k2,e2⟩:=hl a aee r (h1.trans hx)
   refine⟨max k1 k2,fun k m hk hm=>⟨e2 k m (by omega) (by omega),e1 k m (by omega) (by omega)⟩⟩
 cases l with
 |nil=>exact h r hr
 |cons a l=>
  have hr:(if qO x ((a::l).map f) then x else none)=some r:=hr
  split at hr
  ·rename_i hs
   obtain⟨k1,e1⟩:=h r hr
   obtain⟨k2,e2⟩:=key (a::l) hl hr hs
   refine⟨max k1 k2,fun k m hk hm=> ?_⟩
   show (if qO (F k m) ((a::l).map (G k m)) then F k m else none)=some r
   rw[e1 k m (by omega) (by omega),if_pos (e2 k m (by omega) (by omega))]
  ·cases hr
end
section
variable {R:Type} {C:kC} {Rc:ah} {Rk:Nat->Nat->ah}
variable {K:KK R} {Kk:Nat->Nat->KK R}
def LtK(K:KK R)(Kk:Nat->Nat->KK R):Prop:=∀ v O n e,Lt (K v O n e) fun k m=>Kk k m v O n e
def LtC(Rc:ah)(Rk:Nat->Nat->ah):Prop:=∀ f s a,Lt (Rc f s a) fun k m=>Rk k m f s a
theorem RN{x:Option R}{F:Nat->Nat->Option R}(h:Lt x F):∀ (a b:List AV),Lt (jl a b x) fun k m=>jl a b (F k m):=by
 intro a
 induction a with
 |nil=>intro b;cases b<;>first|exact h|exact aZ
 |cons u a ih=>
  intro b
  cases b with
  |nil=>cases u<;>exact aZ
  |cons v b=>cases u<;>cases v<;>first|exact aZ|exact iy (iq (ih b)) aZ|exact iq (ih b)
theorem RP{x:Option R}{F:Nat->Nat->Option R}(h:Lt x F)(bs:List Nat)(O:bn):∀ (l:bn),Lt (kQ bs O l x) fun k m=>kQ bs O l (F k m):=by
 intro l
 induction l with
 |nil=>exact h
 |cons p l ih=>
  obtain⟨b,a⟩:=p
  cases a with
  |box cs=>
   unfold kQ
   cases look O b with
   |none=>exact aZ
   |some a=>cases a<;>first|exact aZ|exact iy (RN ih _ _) aZ
  | _=>exact aZ
theorem aaw(hC:LtC Rc Rk)(hK:LtK K Kk)(f:FuncId)(s:dX)(O:bn)(aG:Nat)(args:List AV):Lt (qH Rc f s O aG args K) fun k m=>qH (Rk k m) f s O aG args (Kk k m):=by
 unfold qH
 cases getArgs O s.ps args with
 |none=>exact aZ
 |some q=>
  obtain⟨d,iP,moved,used,boxes⟩:=q
  refine iy (aeP (hC f s d) fun r=> ?_) aZ
  exact iy (iy (RP (hK _ _ _ _) _ _ _) aZ) (hK _ _ _ _)
theorem X5{kt:CT}{q:kt.D}{z:AV}{K:AV->Bool->Option R}{Kk:Nat->Nat->AV->Bool->Option R}(hK:∀ v b,Lt (K v b) fun k m=>Kk k m v b):∀ l,Lt (Ef kt q z K l) fun k m=>Ef kt q z (Kk k m) l:=by
 intro l
 induction l with
 |nil=>exact hK _ _
 |cons p l ih=>exact BR (hK _ _) ih
theorem MV{kt:CT}{q:kt.D}{z:AV}{K:List (kt.D×AV)->Option R}{Kk:Nat->Nat->List (kt.D×AV)->Option R}(hK:∀ v,Lt (K v) fun k m=>Kk k m v):∀ l acc,Lt (Ba kt q z K acc l) fun k m=>Ba kt q z (Kk k m) acc l:=by
 intro l
 induction l with
 |nil=>exact fun acc=>hK _
 |cons p l ih=>exact fun acc=>BR (hK _) (ih _)
theorem UE{α:Type}{rows:List α}{lo hi:Option AV}{K:List α->Option R}{Kk:Nat->Nat->List α->Option R}(hK:∀ v,Lt (K v) fun k m=>Kk k m v):Lt (kG rows lo hi K) fun k m=>kG rows lo hi (Kk k m):=by
 unfold kG
 rcases lo with _|lo<;>rcases hi with _|hi<;>(try cases lo)<;>(try cases hi)<;>first|exact aZ|exact hK _|exact iq (iq (hK _))|exact iq (iq (iq (hK _)))
theorem Oi{len:Nat}{lo hi:Option AV}{K:Int->Int->Option R}{Kk:Nat->Nat->Int->Int->Option R}(hK:∀ v b,Lt (K v b) fun k m=>Kk k m v b):Lt (jA len lo hi K) fun k m=>jA len lo hi (Kk k m):=by
 unfold jA
 rcases lo with _|lo<;>rcases hi with _|hi<;>(try cases lo)<;>(try cases hi)<;>first|exact aZ|exact hK _ _|exact iq (iq (hK _ _))|exact iq (iq (iq (hK _ _)))
theorem X6{s:ByteArray}{lo hi:Option AV}{K:ByteArray->Option R}{Kk:Nat->Nat->ByteArray->Option R}(hK:∀ v,Lt (K v) fun k m=>Kk k m v):Lt (rV s lo hi K) fun k m=>rV s lo hi (Kk k m):=by
 unfold rV
 rcases lo with _|lo<;>rcases hi with _|hi<;>(try cases lo)<;>(try cases hi)<;>first|exact aZ|exact hK _|exact iq (iq (hK _))|exact iq (iq (iq (hK _)))
theorem ahz{kd:Nat}{cmp:List CT}{lit:Bool}{O:bn}{x y:AV}{K:Bool->Option R}{Kk:Nat->Nat->Bool->Option R}(hK:∀ v,Lt (K v) fun k m=>Kk k m v):Lt (aeq kd cmp lit O x y K) fun k m=>aeq kd cmp lit O x y (Kk k m):=by
 unfold aeq
 split<;>first|exact aZ|exact iy (hK _) aZ|exact iy (iq (hK _)) aZ|skip
 ·cases cmp with
  |nil=>exact aZ
  |cons t ts=>dsimp only;split<;>first|exact aZ|exact hK _
 ·split<;>first|exact aZ|exact iy (iq (hK _)) aZ
theorem WH{op:BinOp}{q:IntKind}{x y:Int}{K:AV->Option R}{Kk:Nat->Nat->AV->Option R}(hK:∀ v,Lt (K v) fun k m=>Kk k m v):Lt (Ii op q x y K) fun k m=>Ii op q x y (Kk k m):=by
 cases op<;>first|exact hK _|exact iq (hK _)|exact aZ
theorem X7{left:Bool}{q:IntKind}{x y:Int}{K:AV->Option R}{Kk:Nat->Nat->AV->Option R}(hK:∀ v,Lt (K v) fun k m=>Kk k m v):Lt (rU left q x y K) fun k m=>rU left q x y (Kk k m):=
 iq (iy (hK _) (hK _))
theorem aeR{op:BinOp}{x y:ByteArray}{K:AV->Option R}{Kk:Nat->Nat->AV->Option R}(hK:∀ v,Lt (K v) fun k m=>Kk k m v):Lt (NC op x y K) fun k m=>NC op x y (Kk k m):=by
 cases op<;>first|exact hK _|exact iq (hK _)|exact aZ
theorem aeS{kd:Nat}{cmp:List CT}{lit:Bool}{O:bn}{op:BinOp}{x y:AV}{K:AV->Option R}{Kk:Nat->Nat->AV->Option R}(hK:∀ v,Lt (K v) fun k m=>Kk k m v):Lt (CB kd cmp lit O op x y K) fun k m=>CB kd cmp lit O op x y (Kk k m):=by
 unfold CB
 split<;>first|exact X7 hK|exact iy (WH hK) aZ|exact aeR hK|exact ahz fun t=>hK _|exact aZ
theorem UF(hK:LtK K Kk)(row:aC)(elem:Nat)(O:bn)(aG:Nat)(x y:AV):Lt (qM C row elem O aG x y K) fun k m=>qM C row elem O aG x y (Kk k m):=by
 unfold qM
 cases look C.ty elem with
 |none=>exact aZ
 |some te=>
  dsimp only
  cases te.row with
  |none=>exact aZ
  |some ts=>
   refine iy aZ ?_
   split
   ·split
    ·exact iq (hK _ _ _ _)
    ·split
     ·split
      ·exact iq (hK _ _ _ _)
      ·exact aZ
     ·exact aZ
    ·exact aZ
   ·exact aZ
end
end Go.E
end
section
namespace Go.E
section
variable {R:Type} {C:kC} {Rc:ah} {Rk:Nat->Nat->ah}
variable {K:KK R} {Kk:Nat->Nat->KK R}
theorem Dy{tm:List (Nat×AV)}{O:bn}{aG:Nat}{op:Op}(hC:LtC Rc Rk)(hK:LtK K Kk):Lt (match callee C tm op with
  |some (g,vs)=>match look C.sig g with
   |some s=>qH Rc g s O aG vs K
   |none=>none
  |none=>none) fun k m=>match callee C tm op with
  |some (g,vs)=>match look C.sig g with
   |some s=>qH (Rk k m) g s O aG vs (Kk k m)
   |none=>none
  |none=>none:=by
 cases callee C tm op with
 |none=>exact aZ
 |some q=>
  obtain⟨g,vs⟩:=q
  dsimp only
  cases look C.sig g with
  |none=>exact aZ
  |some s=>exact aaw hC hK _ _ _ _ _
theorem aax(hC:LtC Rc Rk)(hK:LtK K Kk)(tm:List (Nat×AV))(O:bn)(aG:Nat)(o:Oper):Lt (fP C Rc tm O aG o K) fun k m=>fP C (Rk k m) tm O aG o (Kk k m):=by
 obtain⟨dst,op,ty,pos,aft,guard⟩:=o
 cases op with
 |call c=>
  obtain⟨cal,args,tys⟩:=c
  cases cal with
  |builtin b=>
   cases b<;>first|exact Dy hC hK|skip
   all_goals (unfold fP;dsimp only;repeat' (first|exact aZ|exact hK _ _ _ _|exact UF hK _ _ _ _ _ _|refine iq ?_|refine iy ?_ ?_|refine BR ?_ ?_|split))
  |value f=>exact Dy hC hK
  |invoke x m=>exact Dy hC hK
 |makeMap t r=>cases r<;>first|exact Dy hC hK|(unfold fP;dsimp only;repeat' (first|exact aZ|exact hK _ _ _ _|split))
 |slice t x lo hi mx=>
  cases mx with
  |some _=>unfold fP;exact aZ
  |none=>unfold fP;dsimp only;repeat' (first|exact aZ|exact hK _ _ _ _|exact UE fun _=>hK _ _ _ _|exact Oi fun _ _=>hK _ _ _ _|exact X6 fun _=>hK _ _ _ _|refine iq ?_|refine iy ?_ ?_|split)
 |store t a x=>unfold fP;dsimp only;repeat' (first|exact aZ|exact hK _ _ _ _|refine iq ?_|refine iy ?_ ?_|split)
 |load t a=>unfold fP;dsimp only;repeat' (first|exact aZ|exact hK _ _ _ _|refine iq ?_|refine iy ?_ ?_|split)
 |convert a b x=>unfold fP;dsimp only;repeat' (first|exact aZ|exact hK _ _ _ _|refine iq ?_|refine iy ?_ ?_|split)
 |indexAddr t a x=>unfold fP;dsimp only;repeat' (first|exact aZ|exact hK _ _ _ _|refine iq ?_|refine iy ?_ ?_|split)
 |binOp op t x y u=>unfold fP;dsimp only;repeat' (first|exact aZ|exact aeS fun _=>hK _ _ _ _|split)
 |unOp op t x=>unfold fP;dsimp only;repeat' (first|exact aZ|exact hK _ _ _ _|exact WH fun _=>hK _ _ _ _|split)
 |lookup t m q b=>unfold fP;dsimp only;repeat' (first|exact aZ|exact hK _ _ _ _|exact X5 (fun _ _=>hK _ _ _ _) _|refine iy ?_ ?_|split)
 |insert t m q b=>unfold fP;dsimp only;repeat' (first|exact aZ|exact hK _ _ _ _|exact MV (fun _=>hK _ _ _ _) _ _|refine iy ?_ ?_|split)
 |mapUpdate t m q b=>unfold fP;dsimp only;repeat' (first|exact aZ|exact hK _ _ _ _|exact MV (fun _=>hK _ _ _ _) _ _|refine iy ?_ ?_|split)
 | _=>first|exact Dy hC hK|(unfold fP;dsimp only;repeat' (first|exact aZ|exact hK _ _ _ _|refine iq ?_|refine iy ?_ ?_|refine BR ?_ ?_|split))
end
end Go.E
end
section
namespace Go.E
section
variable {R:Type} {C:kC} {Rc:ah} {Rk:Nat->Nat->ah} {Rt:St->Option R} {Rtk:Nat->Nat->St->Option R} {fin:List AV->St->Option R}
theorem Oj(hC:LtC Rc Rk)(hR:∀ st,Lt (Rt st) fun k m=>Rtk k m st):∀ (n:Nat) (fresh:Bool) (s:St),Lt (jf C Rc Rt fin n fresh s) fun k m=>jf C (Rk k m) (Rtk k m) fin n fresh s
 |0,_,_=>aZ
 |n+1,fresh,s=>by
  have ih:=fun s=>Oj hC hR n false s
  have ret:Lt (ZY C fin (jf C Rc Rt fin n false) s) fun k m=>ZY C fin (jf C (Rk k m) (Rtk k m) fin n false) s:=by
   unfold ZY
   split
   ·split
    ·split
     ·exact aeO
     ·split
      ·exact ih _
      ·split
       ·exact ih _
       ·exact aZ
      ·exact aZ
    ·exact aZ
   ·exact aZ
  unfold jf
  dsimp only
  split<;>first|exact ret|exact ih _|exact aZ|skip
  ·split<;>first|exact aZ|exact BR (ih _) (ih _)
  ·split<;>first|exact aZ|exact ih _
  ·have enter:∀ (dr:Bool) (id:Nat) (ops:Array Oper) (k:List It),Lt (bif dr then match Bd s.cur.fn id C.nV with
      |some (o::os)=>sameAll (jf C Rc Rt fin n false (pz s (rX s.cur.fn id C.nV) ops.toList o k)) (os.map fun o=>jf C Rc Rt fin n false (pz s (rX s.cur.fn id C.nV) ops.toList o k))
      | _=>none
     else jf C Rc Rt fin n false (qc s (.ops ops.toList ops.toList::k))) fun kk m=>bif dr then match Bd s.cur.fn id C.nV with
      |some (o::os)=>sameAll (jf C (Rk kk m) (Rtk kk m) fin n false (pz s (rX s.cur.fn id C.nV) ops.toList o k)) (os.map fun o=>jf C (Rk kk m) (Rtk kk m) fin n false (pz s (rX s.cur.fn id C.nV) ops.toList o k))
      | _=>none
     else jf C (Rk kk m) (Rtk kk m) fin n false (qc s (.ops ops.toList ops.toList::k)):=by
    intro dr id ops k
    refine iy ?_ (ih _)
    split
    ·exact aeQ (ih _) fun a _=>ih _
    ·exact aZ
   refine iy (enter _ _ _ _) ?_
   split
   ·split
    ·exact hR _
    ·exact aZ
   ·exact enter _ _ _ _
  ·split
   ·exact aZ
   ·have go:∀ s:St,_:=fun s=>ih s
    split<;>first|exact aZ|exact ih _|skip
    all_goals (repeat' (first|exact aZ|exact ih _|refine iy ?_ ?_|refine BR ?_ ?_|refine aax hC (fun v O n e=> ?_) _ _ _ _|split))
  ·split<;>first|exact aZ|exact ih _|skip
   all_goals (repeat' (first|exact aZ|exact ih _|refine BR ?_ ?_|refine aax hC (fun v O n e=>ih _) _ _ _ _|split))
end
end Go.E
end
section
namespace Go.E
noncomputable def run(C:kC)(Rc:ah)(s:dX):Nat->St->Option s.B
 |0,_=>none
 |k+1,st=>from_ C Rc s (run C Rc s k) st
noncomputable def den(C:kC)(pr:ah):Nat->ah
 |0=>pr
 |k+1=>fun f s a=>match pr f s a with
  |some r=>some r
  |none=>body C (den C pr k) f s (run C (den C pr k) s k) a
section
variable {P:Program} {main:Bool} {Rl:Ow->World->World->Prop} {C:kC} {Rc:ah} {X:Ctx} {cs0:List Frame}
theorem leans(T:gU P C)(hcode:∀ g fn c,look C.fns g=some fn->fn.body=some c->codeOk fn.ntmps c=true)(mP:∀ g fn c,look C.fns g=some fn->fn.body=some c->gZ C g c=true)(hR:Leaves Rl)(hRc:Good P main Rl C Rc){s:dX}{Rt:St->Option s.B}(hRt:∀ st r,Rt st=some r->GI C st->Goes P main Rl X cs0 (Out C s X cs0 r) st):
  IV P main Rl C Rc X cs0 (fun r=>Out C s X cs0 r) Rt (fin s) where
 tys:=T
 code:=hcode
 draws:=mP
 rely:=hR
 canon:=fun _ _ _ hc _ _ _ _ h=>aeK h hc
 back:=hRt
 fin:=fun vs st r fn h _ hfn hd o E tmps todo hst ht=>aeL vs st r fn h hfn hd o E tmps todo hst ht
 call:=fun K st all op rest k r q hop _ ha hK o E tmps todo cs ops i idx todo' h ht e hi hd htd hw=>ahw T hcode hR hRc K st all op rest k r q hop ha hK o E tmps todo cs ops i idx todo' h ht e hi hd htd hw
theorem agh(T:gU P C)(hcode:∀ g fn c,look C.fns g=some fn->fn.body=some c->codeOk fn.ntmps c=true)(mP:∀ g fn c,look C.fns g=some fn->fn.body=some c->gZ C g c=true)(hR:Leaves Rl)(hRc:Good P main Rl C Rc){s:dX}:∀ (k:Nat) (st:St) (r:s.B),run C Rc s k st=some r->GI C st->Goes P main Rl X cs0 (Out C s X cs0 r) st
 |0,_,_,h,_=>by cases h
 |k+1,st,r,h,hd=>Ji (leans T hcode mP hR hRc (agh T hcode mP hR hRc k)) fuel true st r hd h
theorem JG{pr:ah}(T:gU P C)(hcode:∀ g fn c,look C.fns g=some fn->fn.body=some c->codeOk fn.ntmps c=true)(mP:∀ g fn c,look C.fns g=some fn->fn.body=some c->gZ C g c=true)(hR:Leaves Rl)(hp:Good P main Rl C pr):∀ (k:Nat),Good P main Rl C (den C pr k)
 |0=>hp
 |k+1=>fun f s a r h=>by
  have h:(match pr f s a with
   |some r=>some r
   |none=>body C (den C pr k) f s (run C (den C pr k) s k) a)=some r:=h
  cases hq:pr f s a with
  |some q=>rw[hq] at h;cases h;exact hp f s a _ hq
  |none=>
  rw[hq] at h
  have h:body C (den C pr k) f s (run C (den C pr k) s k) a=some r:=h
  unfold body at h
  split at h
  ·rename_i fn hfn
   split at h
   ·rename_i c hc
    exact⟨fn,c,hfn,hc,fun X cs0=>Ji (leans T hcode mP hR (JG T hcode mP hR hp k) (agh T hcode mP hR (JG T hcode mP hR hp k) k)) fuel false _ r (fun p hp=>by
     rcases List.mem_cons.1 hp with e|hp
     ·subst e
      show (gZ C f c&&true)=true
      rw[Bool.and_true];exact mP f fn c hfn hc
     ·cases hp) h⟩
   ·cases h
  ·cases h
end
open Classical in
noncomputable def D(C:kC)(pr:ah):ah:=fun f s a=>
 if h:∃ r k0,∀ k,k0<=k->den C pr k f s a=some r then some h.choose else none
open Classical in
noncomputable def L(C:kC)(pr:ah)(s:dX):St->Option s.B:=fun st=>
 if h:∃ r k0,∀ k m,k0<=k->k0<=m->run C (den C pr k) s m st=some r then some h.choose else none
theorem anv{C:kC}{pr:ah}{f:FuncId}{s:dX}{a:s.A}{r:s.B}{k0:Nat}(h:∀ k,k0<=k->den C pr k f s a=some r):D C pr f s a=some r:=by
 have hx:∃ r k0,∀ k,k0<=k->den C pr k f s a=some r:=⟨r,k0,h⟩
 unfold D
 rw[dif_pos hx]
 obtain⟨k1,h1⟩:=hx.choose_spec
 have e1:=h1 (max k0 k1) (by omega)
 have e2:=h (max k0 k1) (by omega)
 rw[e1] at e2
 exact e2
theorem ajx{C:kC}{pr:ah}{f:FuncId}{s:dX}{a:s.A}{r:s.B}(h:D C pr f s a=some r):∃ k0,∀ k,k0<=k->den C pr k f s a=some r:=by
 unfold D at h
 split at h
 ·rename_i hx;cases h;exact hx.choose_spec
 ·cases h
theorem anw{C:kC}{pr:ah}{s:dX}{st:St}{r:s.B}{k0:Nat}(h:∀ k m,k0<=k->k0<=m->run C (den C pr k) s m st=some r):L C pr s st=some r:=by
 have hx:∃ r k0,∀ k m,k0<=k->k0<=m->run C (den C pr k) s m st=some r:=⟨r,k0,h⟩
 unfold L
 rw[dif_pos hx]
 obtain⟨k1,h1⟩:=hx.choose_spec
 have e1:=h1 (max k0 k1) (max k0 k1) (by omega) (by omega)
 have e2:=h (max k0 k1) (max k0 k1) (by omega) (by omega)
 rw[e1] at e2
 exact e2
theorem ajy{C:kC}{pr:ah}{s:dX}{st:St}{r:s.B}(h:L C pr s st=some r):∃ k0,∀ k m,k0<=k->k0<=m->run C (den C pr k) s m st=some r:=by
 unfold L at h
 split at h
 ·rename_i hx;cases h;exact hx.choose_spec
 ·cases h
theorem agi{C:kC}{pr:ah}:LtC (D C pr) fun k _=>den C pr k:=fun f s a r h=>by
 obtain⟨k0,h⟩:=ajx h
 exact⟨k0,fun k _ hk _=>h k hk⟩
theorem aay{C:kC}{pr:ah}{f:FuncId}{s:dX}{a:s.A}{r:s.B}(hp:pr f s a=none)(h:body C (D C pr) f s (L C pr s) a=some r):D C pr f s a=some r:=by
 have hb:Lt (body C (D C pr) f s (L C pr s) a) fun k m=>body C (den C pr k) f s (run C (den C pr k) s m) a:=by
  unfold body
  split
  ·split
   ·exact Oj agi (fun st r h=>ajy h) _ _ _
   ·exact aZ
  ·exact aZ
 obtain⟨k0,h0⟩:=hb r h
 refine anv (k0:=k0+1) fun k hk=> ?_
 cases k with
 |zero=>omega
 |succ k=>
  show (match pr f s a with
   |some r=>some r
   |none=>body C (den C pr k) f s (run C (den C pr k) s k) a)=_
  rw[hp]
  exact h0 k k (by omega) (by omega)
theorem ahB{C:kC}{pr:ah}{s:dX}{st:St}{r:s.B}(h:from_ C (D C pr) s (L C pr s) st=some r):L C pr s st=some r:=by
 obtain⟨k0,h0⟩:=Oj (Rtk:=fun k m=>run C (den C pr k) s m) agi (fun st r h=>ajy h) _ _ _ r h
 refine anw (k0:=k0+1) fun k m hk hm=> ?_
 cases m with
 |zero=>omega
 |succ m=>exact h0 k m (by omega) (by omega)
theorem ahC{P:Program}{main:Bool}{Rl:Ow->World->World->Prop}{C:kC}{pr:ah}(T:gU P C)(hcode:∀ g fn c,look C.fns g=some fn->fn.body=some c->codeOk fn.ntmps c=true)(mP:∀ g fn c,look C.fns g=some fn->fn.body=some c->gZ C g c=true)(hR:Leaves Rl)(hp:Good P main Rl C pr):Good P main Rl C (D C pr):=fun f s a r h=>by
 obtain⟨k0,h⟩:=ajx h
 exact JG T hcode mP hR hp k0 f s a r (h k0 (Nat.le_refl _))
end Go.E
end
section
namespace Go.E
def zO:AV->AV->Bool
 | .int k n,.int k' n'=>xJ k k'&&decide (n=n')
 | .bool b,.bool b'=>b==b'
 | .str s,.str s'=>s.data.toList.isEmpty&&s'.data.toList.isEmpty
 | .raw (.map none),.raw (.map none)=>true
 | .aT,.aT| .kF,.kF| .jo,.jo| .nZ,.nZ=>true
 | _,_=>false
def wO:List AV->List AV->Bool
 |[],[]=>true
 |x::xs,y::ys=>zO x y&&wO xs ys
 | _,_=>false
theorem Ol{x y:AV}(h:zO x y=true):x=y:=by
 unfold zO at h
 split at h
 ·rw[Bool.and_eq_true,decide_eq_true_eq] at h
  rw[vW h.1,h.2]
 ·rw[eq_of_beq h]
 ·rename_i s s'
  rw[Bool.and_eq_true,List.isEmpty_iff,List.isEmpty_iff] at h
  obtain⟨⟨l⟩⟩:=s
  obtain⟨⟨l'⟩⟩:=s'
  obtain rfl:l=[]:=h.1
  obtain rfl:l'=[]:=h.2
  rfl
 ·rfl
 ·rfl
 ·rfl
 ·rfl
 ·rfl
 ·cases h
theorem AL:∀ {xs ys:List AV},wO xs ys=true->xs=ys
 |[],[],_=>rfl
 |x::xs,y::ys,h=>by
  have h:(zO x y&&wO xs ys)=true:=h
  rw[Bool.and_eq_true] at h
  rw[Ol h.1,AL h.2]
 |[],_::_,h=>by cases h
 | _::_,[],h=>by cases h
def zeroV:CT->Value->Bool
 | .int k,.int k' n=>xJ k k'&&decide (n=0)
 | .bool,.bool b=> !b
 | .str,.string s=>s.data.toList.isEmpty
 | .sl _,.slice _ 0 _=>true
 | _,_=>false
def EK:aC->List Value->Bool
 | .one t,[v]=>zeroV t v
 | .cons t ts,v::r=>zeroV t v&&EK ts r
 | _,_=>false
theorem RQ{w:World}{N:Nat->Prop}:∀ {t:CT} {v:Value},zeroV t v=true->t.rp w N t.zero v
 | .int k,.int k' n,h=>by
  have h:(xJ k k'&&decide (n=0))=true:=h
  rw[Bool.and_eq_true,decide_eq_true_eq] at h
  rw[<- vW h.1,h.2];unfold CT.rp;rfl
 | .bool,.bool b,h=>by
  have h:(!b)=true:=h
  cases b with
  |true=>cases h
  |false=>unfold CT.rp;rfl
 | .str,.string s,h=>by
  have h:s.data.toList.isEmpty=true:=h
  rw[List.isEmpty_iff] at h
  obtain⟨⟨l⟩⟩:=s
  obtain rfl:l=[]:=h
  unfold CT.rp;rfl
 | .sl ts,.slice a 0 cap,_=>V6.2 ⟨a,0,cap,rfl,rfl,Nat.zero_le _,fun x=>absurd rfl x⟩
theorem EL{w:World}{N:Nat->Prop}:∀ {ts:aC} {l:List Value},EK ts l=true->ts.rp w N ts.zero l
 | .one t,[v],h=>by unfold aC.rp;exact⟨v,rfl,RQ h⟩
 | .cons t ts,v::r,h=>by
  have h:(zeroV t v&&EK ts r)=true:=h
  rw[Bool.and_eq_true] at h
  unfold aC.rp;exact⟨v,r,rfl,RQ h.1,EL h.2⟩
def rowIs(ty:List (Nat×TI))(e:Nat):Option aC->Bool
 |some (.one (.sl ts))=>match look ty e with
  |some te=>match te.row with
   |some ts'=>ts'.beq ts
   |none=>false
  |none=>false
 | _=>true
def Dz(fs:List Field):List (Nat×Nat)->Bool
 |[]=>true
 |(o,ft)::r=>match fs with
  |fl::fs=>Nat.beq fl.offset o&&Nat.beq fl.type ft&&Dz fs r
  |[]=>false
def oK(ty:List (Nat×TI))(ti:TI):TypeDesc->Bool
 | .pointer e=>Nat.beq ti.kd 1&& !ti.agg&&Nat.beq ti.elem e
 | .interface _=>Nat.beq ti.kd 2&& !ti.agg
 | .func .. =>Nat.beq ti.kd 3&& !ti.agg
 | .slice e=>Nat.beq ti.kd 4&& !ti.agg&&Nat.beq ti.elem e&&rowIs ty e ti.row
 | .array n e=>Nat.beq ti.kd 5&&ti.agg&&Nat.beq ti.len n&&Nat.beq ti.elem e
 | .struct fs=>Nat.beq ti.kd 6&&ti.agg&&Dz fs.toList ti.fields
 | .map k v=>Nat.beq ti.kd 7&& !ti.agg&&Nat.beq ti.elem k&&Nat.beq ti.len v
 | .string=>Nat.beq ti.kd 9&& !ti.agg
 | .bool=>Nat.beq ti.kd 10&& !ti.agg
 | .int k=>Nat.beq ti.kd 11&& !ti.agg&&(match ti.row with
  |some (.one (.int k'))=>xJ k k'
  |none=>true
  | _=>false)
 | .named .. =>false
 | _=>Nat.beq ti.kd 0&& !ti.agg
theorem DC:∀ {l:List (Nat×Nat)} {fs:List Field} {f o ft:Nat},Dz fs l=true->nth l f=some (o,ft)->∃ fl,fs[f]? =some fl∧fl.offset=o∧fl.type=ft
 |[],_,_,_,_,_,h=>by cases h
 |(o',ft')::r,fs,f,o,ft,h,hn=>by
  cases fs with
  |nil=>cases h
  |cons fl fs=>
   have h:(Nat.beq fl.offset o'&&Nat.beq fl.type ft'&&Dz fs r)=true:=h
   rw[Bool.and_eq_true,Bool.and_eq_true] at h
   cases f with
   |zero=>
    cases hn
    exact⟨fl,rfl,aeh h.1.1,aeh h.1.2⟩
   |succ f=>
    obtain⟨fl',h1,h2⟩:=DC h.2 hn
    exact⟨fl',by simpa using h1,h2⟩
theorem UG{C:kC}{ti:TI}{d:TypeDesc}(h:oK C.ty ti d=true):ti.fits C d:=by
 have nb:∀ {a b:Nat},Nat.beq a b=true->a=b:=fun h=>aeh h
 have nt:∀ {b:Bool},(!b)=true->b=false:=fun {b} h=>by cases b<;>first|rfl|cases h
 cases d with
 |pointer e=>simp only[oK,Bool.and_eq_true] at h;exact⟨nb h.1.1,nt h.1.2,nb h.2⟩
 |interface m=>simp only[oK,Bool.and_eq_true] at h;exact⟨nb h.1,nt h.2⟩
 |func a b c=>simp only[oK,Bool.and_eq_true] at h;exact⟨nb h.1,nt h.2⟩
 |slice e=>
  simp only[oK,Bool.and_eq_true] at h
  refine⟨nb h.1.1.1,nt h.1.1.2,nb h.1.2,fun ts hr=> ?_⟩
  have h2:=h.2
  rw[hr] at h2
  have h2:(match look C.ty e with
   |some te=>match te.row with
    |some ts'=>ts'.beq ts
    |none=>false
   |none=>false)=true:=h2
  split at h2
  ·rename_i te ht
   split at h2
   ·rename_i ts' hr'
    exact⟨te,ht,by rw[hr',aC.beq_eq h2]⟩
   ·cases h2
  ·cases h2
 |array n e=>simp only[oK,Bool.and_eq_true] at h;exact⟨nb h.1.1.1,h.1.1.2,nb h.1.2,nb h.2⟩
 |struct fs=>
  simp only[oK,Bool.and_eq_true] at h
  refine⟨nb h.1.1,h.1.2,fun f o ft hf=> ?_⟩
  obtain⟨fl,h1,h2⟩:=DC h.2 hf
  exact⟨fl,by rw[<- Array.getElem?_toList];exact h1,h2⟩
 |string=>simp only[oK,Bool.and_eq_true] at h;exact⟨nb h.1,nt h.2⟩
 |bool=>simp only[oK,Bool.and_eq_true] at h;exact⟨nb h.1,nt h.2⟩
 |int k=>
  simp only[oK,Bool.and_eq_true] at h
  refine⟨nb h.1.1,nt h.1.2,fun r hr=> ?_⟩
  have h2:=h.2
  rw[hr] at h2
  split at h2
  ·rename_i k' e
   cases e
   rw[vW h2]
  ·rename_i e;cases e
  ·cases h2
 |named a b=>cases h
 |invalid=>simp only[oK,Bool.and_eq_true] at h;exact⟨nb h.1,nt h.2⟩
 |float k=>simp only[oK,Bool.and_eq_true] at h;exact⟨nb h.1,nt h.2⟩
 |complex k=>simp only[oK,Bool.and_eq_true] at h;exact⟨nb h.1,nt h.2⟩
 |unsafePointer=>simp only[oK,Bool.and_eq_true] at h;exact⟨nb h.1,nt h.2⟩
 |map a b=>simp only[oK,Bool.and_eq_true] at h;exact⟨nb h.1.1.1,nt h.1.1.2,nb h.1.2,nb h.2⟩
 |chan a b=>simp only[oK,Bool.and_eq_true] at h;exact⟨nb h.1,nt h.2⟩
 |tuple a=>simp only[oK,Bool.and_eq_true] at h;exact⟨nb h.1,nt h.2⟩
def UH(ti:TI)(z:Option Value):Bool:= !Nat.beq ti.zero.length ti.size||match z with
 |some z=>match ofValues z.cells.toList with
  |some l=>wO l ti.zero
  |none=>false
 |none=>false
def rowOk(ti:TI)(z:Option Value):Bool:=match ti.row with
 |none=>true
 |some ts=>Nat.beq ti.size ts.n&&Nat.blt 0 ti.bytes&&Nat.ble ti.bytes 65536&&match z with
  |some z=>EK ts z.cells.toList
  |none=>false
def DF(ts:aC):Nat->List Value->Bool
 |0,_=>true
 |n+1,l=>Nat.ble ts.n l.length&&EK ts (l.take ts.n)&&DF ts n (l.drop ts.n)
theorem Gm{w:World}{N:Nat->Prop}{ts:aC}:∀ {n:Nat} {l:List Value},DF ts n l=true->dV ts.n (ts.rp w N) (List.replicate n ts.zero) l
 |0,_,_=>trivial
 |n+1,l,h=>by
  have h:(Nat.ble ts.n l.length&&EK ts (l.take ts.n)&&DF ts n (l.drop ts.n))=true:=h
  rw[Bool.and_eq_true,Bool.and_eq_true] at h
  exact⟨Nat.le_of_ble_eq_true h.1.1,EL h.1.2,Gm h.2⟩
def aaz(ty:List (Nat×TI))(ti:TI)(z:Option Value):Bool:= !Nat.beq ti.kd 5||match look ty ti.elem with
 |some te=>match te.row with
  |some ts=> !Nat.beq ti.size (ti.len*ts.n)||match z with
   |some z=>Nat.beq z.cells.toList.length ti.size&&DF ts ti.len z.cells.toList
   |none=>false
  |none=>true
 |none=>true
def aaA(ti:TI)(z:Option Value):Bool:=ti.agg||match z with
 |some (.agg _)=>false
 | _=>true
def aaB(P:Program)(t:Nat)(ti:TI):Bool:=match ti.cmp with
 |[]=>true
 |cs=>Zv P t cs
def yK(P:Program)(t:Nat):List (String×FuncId)->Bool
 |[]=>true
 |(m,g)::r=>Iw P t m g&&yK P t r
def DI(P:Program):List (Nat×List (String×FuncId))->Bool
 |[]=>true
 |(t,l)::r=>yK P t l&&DI P r
theorem Gn{P:Program}{t:Nat}{m:String}{g:FuncId}:∀ {L:List (Nat×List (String×FuncId))} {l:List (String×FuncId)},DI P L=true->look L t=some l->Qs l m=some g->Iw P t m g=true
 |(t',l')::r,l,h,hl,hg=>by
  have h:(yK P t' l'&&DI P r)=true:=h
  rw[Bool.and_eq_true] at h
  have hl:(bif Nat.beq t' t then some l' else look r t)=some l:=hl
  by_cases e:t'=t
  ·subst e
   rw[Nat.beq_refl] at hl;cases hl
   have:∀ l:List (String×FuncId),yK P t' l=true->Qs l m=some g->Iw P t' m g=true:=by
    intro l
    induction l with
    |nil=>intro _ h;cases h
    |cons q r ih=>
     obtain⟨n,x⟩:=q
     intro h hg
     have h:(Iw P t' n x&&yK P t' r)=true:=h
     rw[Bool.and_eq_true] at h
     have hg:(bif n==m then some x else Qs r m)=some g:=hg
     cases hn:n==m with
     |true=>
      rw[hn] at hg;cases hg
      rw[eq_of_beq hn] at h;exact h.1
     |false=>rw[hn] at hg;exact ih h.2 hg
   exact this _ h.1 hg
  ·rw[cZ e] at hl;exact Gn h.2 hl hg
def yL(P:Program):List Field->Bool
 |[]=>true
 |f::r=>(match P.info? f.type with|some _=>true|none=>false)&&yL P r
def aeT(P:Program)(ty:List (Nat×TI))(t:Nat)(ti:TI):Bool:=
 (match P.info? t with
 |some i=>Nat.beq i.size ti.size&&Nat.beq i.bytes ti.bytes&&UH ti i.zero&&rowOk ti i.zero&&aaz ty ti i.zero&&aaA ti i.zero
 |none=>false)&&
 (match P.underlying t with
 |some d=>oK ty ti d&&(match d with| .struct fs=>yL P fs.toList| _=>true)
 |none=>false)&&(ti.fields.isEmpty||Nat.beq ti.kd 6)&&aaB P t ti
def RS(P:Program)(ty:List (Nat×TI)):List (Nat×TI)->Bool
 |[]=>true
 |(t,ti)::r=>aeT P ty t ti&&RS P ty r
def zQ:List (Nat×Func)->Bool
 |[]=>true
 |(_,fn)::r=>(match fn.body with|some c=>codeOk fn.ntmps c|none=>true)&&zQ r
def WI(P:Program):List (Nat×Func)->Prop
 |[]=>True
 | (f,fn) :: r => (P.funcs[f]? = some fn ∧ (fn.name == "runtime.NumGoroutine") = false) ∧ WI P r
theorem MW{P:Program}{ty:List (Nat×TI)}:∀ {l:List (Nat×TI)} {t:Nat} {ti:TI},RS P ty l=true->look l t=some ti->aeT P ty t ti=true
 |(t',ti')::r,t,ti,h,hl=>by
  have h:(aeT P ty t' ti'&&RS P ty r)=true:=h
  rw[Bool.and_eq_true] at h
  have hl:(bif Nat.beq t' t then some ti' else look r t)=some ti:=hl
  by_cases e:t'=t
  ·subst e;rw[Nat.beq_refl] at hl;cases hl;exact h.1
  ·rw[cZ e] at hl;exact MW h.2 hl
theorem fnsOk_get {P : Program} : ∀ {l : List (Nat × Func)} {f : Nat} {fn : Func},WI P l -> look l f = some fn -> P.funcs[f]? = some fn ∧ (fn.name == "runtime.NumGoroutine") = false
 |(f',fn')::r,f,fn,h,hl=>by
  have hl:(bif Nat.beq f' f then some fn' else look r f)=some fn:=hl
  by_cases e:f'=f
  ·subst e;rw[Nat.beq_refl] at hl;cases hl;exact h.1
  ·rw[cZ e] at hl;exact fnsOk_get h.2 hl
theorem yM:∀ {l:List (Nat×Func)} {f:Nat} {fn:Func} {c:Code},zQ l=true->look l f=some fn->fn.body=some c->codeOk fn.ntmps c=true
 |(f',fn')::r,f,fn,c,h,hl,hc=>by
  have h:((match fn'.body with|some c=>codeOk fn'.ntmps c|none=>true)&&zQ r)=true:=h
  rw[Bool.and_eq_true] at h
  have hl:(bif Nat.beq f' f then some fn' else look r f)=some fn:=hl
  by_cases e:f'=f
  ·subst e;rw[Nat.beq_refl] at hl;cases hl
   have h1:=h.1
   rw[hc] at h1;exact h1
  ·rw[cZ e] at hl;exact yM h.2 hl hc
theorem DJ{P:Program}:∀ {l:List Field},yL P l=true->∀ fl∈l,∃ i,P.info? fl.type=some i
 |f::r,h,fl,hf=>by
  have h:((match P.info? f.type with|some _=>true|none=>false)&&yL P r)=true:=h
  rw[Bool.and_eq_true] at h
  rcases List.mem_cons.1 hf with e|hf
  ·subst e
   have h1:=h.1
   split at h1
   ·rename_i i hi;exact⟨i,hi⟩
   ·cases h1
  ·exact DJ h.2 fl hf
def zS(C:kC):List (Nat×Func)->Bool
 |[]=>true
 |(f,fn)::r=>(match fn.body with|some c=>gZ C f c|none=>true)&&zS C r
theorem Gp{C:kC}:∀ {l:List (Nat×Func)} {f:Nat} {fn:Func} {c:Code},zS C l=true->look l f=some fn->fn.body=some c->gZ C f c=true
 |(f',fn')::r,f,fn,c,h,hl,hc=>by
  have h:((match fn'.body with|some c=>gZ C f' c|none=>true)&&zS C r)=true:=h
  rw[Bool.and_eq_true] at h
  have hl:(bif Nat.beq f' f then some fn' else look r f)=some fn:=hl
  by_cases e:f'=f
  ·subst e;rw[Nat.beq_refl] at hl;cases hl
   have h1:=h.1
   rw[hc] at h1;exact h1
  ·rw[cZ e] at hl;exact Gp h.2 hl hc
theorem anx{P:Program}{C:kC}(h:RS P C.ty C.ty=true)(hf:WI P C.fns)(hm:P.follows .mixedOrders=true)(hme:DI P C.Qq=true):gU P C:=by
 have nb:∀ {a b:Nat},Nat.beq a b=true->a=b:=fun h=>aeh h
 have get:∀ {t:Nat} {ti:TI},look C.ty t=some ti->(∃ i,P.info? t=some i∧i.size=ti.size∧i.bytes=ti.bytes∧UH ti i.zero=true∧rowOk ti i.zero=true∧aaz C.ty ti i.zero=true∧aaA ti i.zero=true)∧
   (∃ d,P.underlying t=some d∧oK C.ty ti d=true∧∀ fs,d= .struct fs->yL P fs.toList=true)∧((ti.fields.isEmpty||Nat.beq ti.kd 6)=true∧aaB P t ti=true):=fun {t ti} hl=>by
  have:=MW h hl
  unfold aeT at this
  rw[Bool.and_eq_true,Bool.and_eq_true,Bool.and_eq_true] at this
  obtain⟨⟨⟨h1,h2⟩,h3⟩,h4⟩:=this
  refine⟨?_,?_,h3,h4⟩
  ·split at h1
   ·rename_i i hi
    simp only[Bool.and_eq_true] at h1
    exact⟨i,hi,nb h1.1.1.1.1.1,nb h1.1.1.1.1.2,h1.1.1.1.2,h1.1.1.2,h1.1.2,h1.2⟩
   ·cases h1
  ·split at h2
   ·rename_i d hd
    rw[Bool.and_eq_true] at h2
    refine⟨d,hd,h2.1,fun fs e=> ?_⟩
    subst e;exact h2.2
   ·cases h2
 refine⟨fun t ti hl=> ?_,fun t ti hl=> ?_,fun t ti fs hl hu fl hfl=> ?_,fun t i hi ti hl=> ?_,fun t ti hl hne=> ?_,fun f fn hl=>fnsOk_get hf hl,hm,fun t ti te ts hl hk hle hr hs=> ?_,fun t ti hl hc=> ?_,fun t m g hg=> ?_,fun t ti i z hl hi hz hag cs=> ?_⟩
 ·obtain⟨⟨i,h1,h2,h3,h4,h5,_⟩,_,_⟩:=get hl
  refine⟨i,h1,h2,h3,fun e=> ?_,fun ts hr=> ?_⟩
  ·unfold UH at h4
   have hb:Nat.beq ti.zero.length ti.size=true:=by rw[e];exact Nat.beq_refl _
   rw[hb,Bool.not_true,Bool.false_or] at h4
   split at h4
   ·rename_i z hz
    split at h4
    ·rename_i l hl'
     exact⟨z,hz,by rw[hl',AL h4]⟩
    ·cases h4
   ·cases h4
  ·unfold rowOk at h5
   rw[hr] at h5
   simp only[Bool.and_eq_true] at h5
   obtain⟨⟨⟨a,b⟩,c⟩,d⟩:=h5
   refine⟨nb a,Nat.le_of_ble_eq_true b,Nat.le_of_ble_eq_true c,?_⟩
   split at d
   ·rename_i z hz;exact⟨z,hz,fun w N=>EL d⟩
   ·cases d
 ·obtain⟨_,⟨d,h1,h2,_⟩,_⟩:=get hl
  exact⟨d,h1,UG h2⟩
 ·obtain⟨_,⟨d,h1,_,h3⟩,_⟩:=get hl
  rw[hu] at h1;cases h1
  exact DJ (h3 fs rfl) fl (by simpa using hfl)
 ·obtain⟨⟨i',h1,h2,_⟩,_⟩:=get hl
  rw[hi] at h1;cases h1;exact h2
 ·have h3:=(get hl).2.2.1
  rw[Bool.or_eq_true] at h3
  rcases h3 with h3|h3
  ·rw[List.isEmpty_iff] at h3;exact absurd h3 hne
  ·exact nb h3
 ·obtain⟨⟨i,h1,h2,_,_,_,h6,_⟩,_,_⟩:=get hl
  unfold aaz at h6
  rw[hk,Nat.beq_refl,Bool.not_true,Bool.false_or,hle] at h6
  dsimp only at h6
  rw[hr] at h6
  dsimp only at h6
  rw[<- hs,Nat.beq_refl,Bool.not_true,Bool.false_or] at h6
  split at h6
  ·rename_i z hz
   rw[Bool.and_eq_true] at h6
   exact⟨i,z,h1,hz,by have:=nb h6.1;simpa using this,fun w N=>Gm h6.2⟩
  ·cases h6
 ·have h4:=(get hl).2.2.2
  unfold aaB at h4
  split at h4
  ·rename_i e;exact absurd e hc
  ·exact h4
 ·unfold meth at hg
  split at hg
  ·rename_i l hl
   exact Gn hme hl hg
  ·cases hg
 ·obtain⟨⟨i',h1,_,_,_,_,_,h7⟩,_,_⟩:=get hl
  rw[hi] at h1;cases h1
  unfold aaA at h7
  rw[hag,Bool.false_or,hz] at h7
  intro e
  rw[e] at h7;cases h7
end Go.E
end
section
namespace Go.E
section
variable {P:Program} {C:kC}
def Solo:Ow->World->World->Prop:=fun _ w w2=>w2=w
theorem RU:Leaves Solo:=fun _ w w2 h=>by
 have h:w2=w:=h
 subst h
 exact⟨Nat.le_refl _,fun _ _=>rfl⟩
theorem Via.steps{S:Ow->Frame->List Frame->World->Prop}{o:Ow}{fr:Frame}{cs:List Frame}{w:World}(h:Via P true Solo S o fr cs w):∃ o' fr' cs' w',S o' fr' cs' w'∧Steps P (lone fr cs w) (lone fr' cs' w')∧w'.os=w.os∧w'.output=w.output:=by
 induction h with
 |stop h=>exact⟨_,_,_,_,h,Steps.refl _ _,rfl,rfl⟩
 |step a b _ ih=>
  obtain⟨o',fr',cs',w',h1,h2,h3,h4⟩:=ih _ rfl
  refine⟨o',fr',cs',w',h1,Steps.head (step_lone_go ?_) h2,h3.trans b.os,h4.trans b.output⟩
  have a:=a
  unfold Conc.G at a
  rw[a];rfl
def Qp(w:World):Env:=⟨w,fun _=>⟨none,0⟩,fun b=>b<w.heap.size,fun b=>b<w.heap.size,[]⟩
def aeU(f:FuncId)(w:World):Ctx:=⟨fun b=>b<w.heap.size,w,fun b=>b<w.heap.size,[],f⟩
def ajz(w:World):Ow:=⟨fun _=>False,fun b=>b<w.heap.size⟩
theorem out_ok(f:FuncId)(w:World):OK (aeU f w) (ajz w) (Qp w) 1 where
 pos:=Nat.one_pos
 num:=fun i a h=>by cases h
 obj:=fun i a h=>by cases h
 inj:=fun i j b hi=>by obtain⟨_,h,_⟩:=hi;cases h
 own:=fun i b hi=>by obtain⟨_,h,_⟩:=hi;cases h
 zx:=fun b hb=>⟨hb,hb,fun _=>hb⟩
 kept:=fun b hb=>⟨hb,rfl,hb⟩
 size:=Nat.le_refl _
 fg:=fun b hb=>hb
 us:=fun b hb=>hb.elim
 bx:=fun q hq=>by cases hq
theorem aaC{pr:ah}(T:gU P C)(hcode:zQ C.fns=true)(mP:zS C C.fns=true)(hp:Good P true Solo C pr){f:FuncId}{s:dX}{a:s.A}{r:s.B}(h:D C pr f s a=some r){vals:List Value}{w:World}(hplain:(gY s.ps a 1 (1+jh s.ps)).2=([],1))(hst:jh s.ps=0)
  (aaD:rO (Qp w)) (hargs:dG (Qp w) (gY s.ps a 1 (1+jh s.ps)).1 vals) {R:Ending->World->Prop}
  (hR:∀ (o:Ow) (E:Env) (st:St) (vs:List AV) (v:Value),OK (aeU f w) o E st.aG->E.O=st.objs->st.bx=[]->fin s vs st=some r->VR E (jr vs) v->E.w.os=w.os->E.w.output=w.output->R (.returned v) E.w):Calls P f vals.toArray w R:=by
 intro cs
 obtain⟨fn,body,hfn,hbody,hg⟩:=ahC (P:=P) (main:=true) (Rl:=Solo) T (fun g fn c=>yM hcode) (fun g fn c=>Gp mP) RU hp f s a r h
 obtain⟨f1,f2⟩:=T.fns f fn hfn
 have anz:qW (aeU f w) (ajz w) (Qp w) (start f body s a) cs (frame f (vals.toArray++Array.replicate (fn.ntmps-vals.toArray.size) undef) [.code body]) cs:=by
  rw[start_eq,hplain,hst]
  rw[hst] at hargs
  refine⟨out_ok f w,rfl,⟨_,_,rfl,NY hargs aaD,?_⟩,⟨[],rfl,rfl⟩,rfl,rfl⟩
  refine lD ⟨rfl,jM ?_ body (yM hcode hfn hbody)⟩ rfl
  simp only[Array.size_append,Array.size_replicate];omega
 obtain⟨o',fr',cs',w',hout,hsteps,hos,hput⟩:=(hg (aeU f w) cs _ _ _ _ anz).steps
 obtain⟨E,st,tmps,todo,vs,fn',rfl,rfl,hw,UJ,htm,hfn',hdr,hfin⟩:=hout
 obtain⟨v,hv,hacc⟩:=yA (P:=P) T UJ.ok UJ.objs htm hdr
 have hrun:=yB (hacc _ ⟨rfl,rfl⟩)
 obtain⟨g1,_⟩:=T.fns _ fn' hfn'
 subst hw
 have GR:st.callers=[]:=by
  obtain⟨cs1,e,hc⟩:=UJ.callers
  have:cs1=[]:=List.eq_nil_of_length_eq_zero (by have:=congrArg List.length e;rw[List.length_append] at this;omega)
  subst this
  cases hcs:st.callers with
  |nil=>rfl
  |cons x xs=>rw[hcs] at hc;obtain⟨_,_,e,_⟩:=hc;cases e
 have hroot:st.cur.fn=f:=by
  have:=UJ.root
  rw[GR] at this
  exact this
 refine⟨.returned v,E.w,{frame st.cur.fn tmps todo with mode:= .returning},hR o' E st vs v UJ.ok UJ.objs UJ.bx hfin hv hos hput,?_,hroot,rfl,rfl,rfl,fn',g1,hrun⟩
 ·have he:Frame.enter P f vals.toArray .normal=frame f (vals.toArray++Array.replicate (fn.ntmps-vals.toArray.size) undef) [.code body]:=Conc.enter_at _ f1 hbody
  rw[he]
  exact hsteps
end
end Go.E
end
section
namespace Go.E
open Go.ChangeShapes Go.WideShapes Go.RowKit
abbrev u8s:aC:= .one (.int .u8)
abbrev aaE:dX:=⟨[⟨.one (.sl u8s),[.leak]⟩],[⟨.one .bool,[]⟩],false⟩
theorem aeV{vs:List AV}{st:St}{r:Bool}(h:fin aaE vs st=some r):vs=[.bool r]:=by
 unfold fin at h
 rw[show slotsOf st.cur.tm (CU aaE.ps 0)=some [] from rfl] at h
 dsimp only at h
 rw[List.append_nil] at h
 cases hc:(zu [] st.bx&&pF aaE.rs vs.length) with
 |false=>rw[hc] at h;cases h
 |true=>
  rw[hc,cond_true] at h
  match vs,h with
  |[],h=>cases h
  |x::y::r,h=>cases h
  |[x],h=>
   cases x<;>first
    |(cases h;rfl)
    |cases h
theorem WJ{w:World}{N:Nat->Prop}:∀ {rows:List Int} {l:List Value},(∀ i,i<rows.length->l[i]? =some (.int .u8 (rows.getD i 0)))->dV 1 (aC.rp w N u8s) rows l
 |[],l,_=>trivial
 |x::rows,l,h=>by
  have h0:=h 0 (by simp)
  match l,h0 with
  |v::l,h0=>
   have h0:some v=some (.int .u8 x):=h0
   cases h0
   exact⟨by simp,⟨_,rfl,rfl⟩,WJ fun i hi=>h (i+1) (by simpa using hi)⟩
theorem RV{H:Type}{enc:TypeId×Value->H}{P:Program}{f:Func}{s:ChangeSpec}{apart fresh handsOn again:Bool}{W W':World}{args:Array Value}{v:Value}{ds gs:List (DataW H)}{before pa pv:List MemPlace}
  (hW:DataW.Whole enc P f.params.toList s.vars apart W args.toList ds gs before)
  (hres:∀ (b:Nat) (sp:Nat->Bool) (hd:Bool),DataW.TrodAll enc P W' b sp hd f.resultTypes.toList (v.resultList f.resultTypes.size) (s.fn H (ds++gs)).results [])
  (hargs:∀ sp:Nat->Bool,(∀ p∈before,sp p.block=true)->DataW.TrodAll enc P W' 0 sp true f.params.toList args.toList (s.fn H (ds++gs)).args pa)
  (hvars:∀ sp:Nat->Bool,(∀ p∈before,sp p.block=true)->DataW.TrodVars enc P W' sp s.vars (s.fn H (ds++gs)).vars pv)
  (hps:before=pa++pv) (hos:W'.os=W.os) (hout:W'.output=W.output) (hold:∀ b,b<W.heap.size->W'.heap[b]? =W.heap[b]?)
  (hok:∀ (j:Nat) (t:TypeId) (r:Value),f.resultTypes[j]? =some t->(v.resultList f.resultTypes.size)[j]? =some r->Value.okWide P W' .any 0 t r):
  s.post enc P f apart fresh handsOn again W args v W':=by
 have hlt:∀ p∈before,p.block<W.heap.size:=fun p hp=>hW.lt p hp
 have hdec:∀ p∈before,(fun b=>decide (b<W.heap.size)) p.block=true:=fun p hp=>by simpa using hlt p hp
 refine⟨ds,gs,before,[],pa,pv,hW,hres _ _ _,hargs _ hdec,hvars _ hdec,⟨hos,hout,fun i hi=> ?_⟩,fun _=> ?_⟩
 ·have e:W'.heap[i]? =W.heap[i]? :=hold i hi
  rw[e]
  cases hc:W.heap[i]? with
  |none=>rfl
  |some x=>cases x with
   |cells c t fr=>exact⟨rfl,rfl,rfl,fun _ _=>rfl⟩
   |map es clock=>exact .inr ⟨rfl,rfl⟩
   | _=>rfl
 ·obtain⟨_,_,_,_,_,hz,hn⟩:=hW
  refine⟨hok,_,_,([]++pa)++pv,⟨[]++pa,pv,trodAll_append (hargs _ (fun _ _=>rfl)) (hres _ _ _),hvars _ (fun _ _=>rfl),rfl,?_,?_⟩,?_⟩
  ·intro b off hp
   have hp':MemPlace.cell b off∈before:=by rw[hps];simpa using hp
   have e:W'.heap[b]? =W.heap[b]? :=hold b (hlt _ hp')
   have:=hz b off hp'
   unfold World.frozen? at this⊢
   dsimp only at this⊢
   rw[e];exact this
  ·intro ha
   have:=hn ha
   rw[hps] at this
   simpa using this
  ·intro p hp _
   rw[hps]
   simpa using hp
theorem Xy{P:Program}{C:kC}{pr:ah}(T:gU P C)(hcode:zQ C.fns=true)(mP:zS C C.fns=true)(hp:Good P true Solo C pr){f:FuncId}{fn:Func}{tb te t:TypeId}
  (anA:∀ a:List Int,(∀ b∈a,0<=b∧b<256)->D C pr f aaE a=some true)
  (hb:P.underlying tb=some (.slice te)) (he:P.underlying te=some (.int .u8)) (hc:P.cellsOf te=1) (ht:P.underlying t=some .bool) (hpar:fn.params= #[tb]) (hres:fn.resultTypes= #[t])
  {s:ChangeSpec} (hvars:s.vars=[]) (hfn:∀ (H:Type) (d:DataW H),s.fn H [d]={results:=[.lit (.bool true)],args:=[d]})
  {H:Type} (enc:TypeId×Value->H) (W:World) (base:Nat) (args:Array Value) (ds gs:List (DataW H)) (before:List MemPlace)
  (hval:∀ (j:Nat) t v,fn.params[j]? =some t->args[j]? =some v->Value.okWide P W .any base t v)
  (hW:DataW.Whole enc P fn.params.toList s.vars false W args.toList ds gs before) (aaD:rO (Qp W)):
  Calls P f args W fun e W'=>∃ v,e= .returned v∧s.post enc P fn false true false false W args v W':=by
 have hW0:=hW
 obtain⟨p,q,hA,hV,rfl,hfz,hnd⟩:=hW
 rw[hpar] at hA hval
 obtain⟨v0,vs0,d0,ds0,p0,q0,hargs,rfl,rfl,h0,r0⟩:=trodAll_cons hA
 obtain⟨rfl,rfl,rfl⟩:=trodAll_nil r0
 obtain rfl:args= #[v0]:=by cases args;simp_all
 have hV':=hV
 rw[hvars] at hV
 obtain⟨rfl,rfl⟩:=trodVars_none hV
 obtain⟨a1,len,cap,rfl⟩:=okWide_slice hb (hval 0 tb v0 rfl rfl)
 have h00:=h0
 obtain⟨fuel,hf⟩:=h0
 have hcs:Value.cells (.slice a1 len cap)= #[.slice a1 len cap]:=rfl
 have finish:∀ (rows:List Int),(∀ b∈rows,0<=b∧b<256)->TL (Qp W) [] u8s rows (.slice a1 len cap)->
   (∀ W':World,(∀ b,b<W.heap.size->W'.heap[b]? =W.heap[b]?)->∀ sp:Nat->Bool,(∀ p∈p0++[]++[],sp p.block=true)->DataW.Trod enc P W' 0 sp true tb (.slice a1 len cap) d0 p0)->
   Calls P f #[.slice a1 len cap] W fun e W'=>∃ v,e= .returned v∧s.post enc P fn false true false false W #[.slice a1 len cap] v W':=by
  intro rows hr hS ahD
  have hk:=anA rows hr
  have hc:=aaC (P:=P) T hcode mP hp (s:=aaE) (a:=rows) hk (vals:=[.slice a1 len cap]) (w:=W) rfl rfl aaD
   (by
    show dG (Qp W) [AV.ro u8s rows []] [.slice a1 len cap]
    unfold dG
    refine⟨_,[],rfl,?_,?_⟩
    ·unfold VR;exact hS
    ·unfold dG;rfl)
   (R:=fun e W'=>∃ v,e= .returned v∧s.post enc P fn false true false false W #[.slice a1 len cap] v W') ?_
  ·exact hc
  ·intro o E st vs v hok _ _ hfin hv hos hout
   have hvs:=aeV hfin
   subst hvs
   have hv:VR E (.bool true) v:=hv
   unfold VR at hv
   subst hv
   have hold:∀ b,b<W.heap.size->E.w.heap[b]? =W.heap[b]? :=fun b hb=>(hok.kept b hb).2.1
   refine⟨_,rfl,RV (pa:=p0++[]) (pv:=[]) hW0 ?_ ?_ ?_ rfl hos hout hold ?_⟩
   ·intro b sp hd
    rw[hres,List.append_nil,hfn]
    exact trodAll_cons_mk (shut_bool ht _) trodAll_mk0
   ·intro sp hsp
    rw[hpar,List.append_nil,hfn]
    exact trodAll_cons_mk (ahD E.w hold sp hsp) trodAll_mk0
   ·intro sp hsp
    rw[hvars,List.append_nil,hfn]
    rfl
   ·rw[show fn.resultTypes.size=1 by rw[hres];rfl]
    have:=ok_one (P:=P) (W':=E.w) (f:=fn) (v:= .bool true) hres rfl (okWide_bool_mk ht true)
    rw[show fn.resultTypes.size=1 by rw[hres];rfl] at this
    exact this
 rcases open_ints hb he hc hf with ⟨hcs,hx⟩|⟨a,len',cap',zs,hcs,_,hl,hm,hz,hx,hcell,hwz⟩
 ·simp[Value.cells] at hcs
  obtain⟨rfl,rfl,rfl⟩:=hcs
  simp only[Prod.mk.injEq] at hx
  obtain⟨rfl,rfl⟩:=hx
  refine finish [] (fun _ h=>by cases h) ⟨none,0,0,rfl,rfl,Nat.le_refl _,fun h=>absurd rfl h⟩ ?_
  intro W' _ sp _
  exact⟨1,by simp[DataW.trod,Value.cells,hb]⟩
 ·simp[Value.cells] at hcs
  obtain⟨rfl,rfl,rfl⟩:=hcs
  simp only[Prod.mk.injEq] at hx
  obtain⟨rfl,rfl⟩:=hx
  simp only[if_true] at hz
  have hplain:0<zs.length->a=⟨a.block,a.off,none⟩:=fun h=>by
   obtain⟨ab,ao,spot⟩:=a
   have hspot:spot=none:=by simpa [Addr.add] using World.cell?_spot (hcell 0 h)
   rw[hspot]
  have aaF:0<zs.length->a.block<W.heap.size:=fun h=>by
   have hc0:=hcell 0 h
   rcases Nat.lt_or_ge a.block W.heap.size with h|h
   ·exact h
   ·exfalso
    have e:(a.add 0)=a:=by simp[Addr.add]
    rw[e] at hc0
    unfold World.cell? at hc0
    rw[Array.getElem?_eq_none h] at hc0
    cases hc0
  have htl:(zs.take len).length=len:=by rw[List.length_take];omega
  refine finish (zs.take len) ?_ ⟨some a,len,cap,rfl,htl.symm,hl,fun hne=> ?_⟩ ?_
  ·intro b hb
   have:=hwz b (List.mem_of_mem_take hb)
   have:0<=b∧b<=255:=by simpa [Lit.wf,IntKind.min,IntKind.max,IntKind.signed,IntKind.bits] using this
   omega
  ·have hpos:0<len:=by
    rcases Nat.eq_zero_or_pos len with h|h
    ·subst h;exact absurd rfl hne
    ·exact h
   have ha:=hplain (by omega)
   have hbk:=aaF (by omega)
   generalize hab:a.block=ab at*
   generalize a.off=ao at*
   subst ha
   have hc0:=hcell 0 (by omega)
   have e0:(⟨ab,ao,none⟩:Addr).add 0=⟨ab,ao,none⟩:=by simp[Addr.add]
   rw[e0] at hc0
   unfold World.cell? at hc0
   dsimp only at hc0
   cases hh:W.heap[ab]? with
   |none=>rw[hh] at hc0;cases hc0
   |some x=>cases x with
    |cells c e fz=>
     refine⟨ab,ao,c,e,fz,rfl,.inl hbk,hh,WJ fun i hi=> ?_⟩
     rw[htl] at hi
     have hci:=hcell i (by omega)
     rw[Addr.add_lit] at hci
     unfold World.cell? at hci
     dsimp only at hci
     rw[hh] at hci
     have hci:c[ao+i]? =some (.int .u8 (zs.getD i 0)):=hci
     rw[List.getElem?_drop,Array.getElem?_toList,hci]
     congr 2
     simp[List.getD_eq_getElem?_getD,hi]
    | _=>rw[hh] at hc0;cases hc0
  ·intro W' hold sp hsp
   refine⟨2,?_⟩
   have hpos:0<zs.length->sp a.block=true:=fun h=>by
    refine hsp (.cell a.block a.off) ?_
    simp only[List.append_nil,MemPlace.row,List.mem_map,List.mem_range]
    exact⟨0,h,by simp⟩
   refine shut_ints (base:=0) 0 hb he hc (Nat.zero_le _) hl hm ?_ ?_ hwz
   ·rcases Nat.eq_zero_or_pos zs.length with h|h
    ·split<;>omega
    ·rw[hpos h,if_pos rfl];exact hz
   ·intro i hi
    have hci:=hcell i hi
    have hbk:=aaF (by omega)
    have e:(a.add i).block=a.block:=by unfold Addr.add;split<;>rfl
    unfold World.cell? at hci⊢
    rw[e] at hci⊢
    rw[hold _ hbk];exact hci
end Go.E
end
section
namespace Go.E
open Go.ChangeShapes Go.WideShapes Go.RowKit
end Go.E
end
section
namespace Go.E
open Go.ChangeShapes Go.WideShapes Go.RowKit
section
variable {H:Type} {enc:TypeId×Value->H} {P:Program} {W:World} {base:Nat}
end
end Go.E
end
