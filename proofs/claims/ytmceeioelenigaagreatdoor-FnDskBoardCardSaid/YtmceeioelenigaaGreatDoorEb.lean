/- What one operation does, and what stands for what. -/
import GoSem.Step
import Derived.Wp
import Derived.Conc.Own3
import Derived.Test.YtmceeioelenigaaGreatDoorEa
section
namespace Go.E
def acc{α:Type}(P:Program)(wr rd:Nat->Prop):Sem α->(α->World->Prop)->World->Prop
 | .pure a,Q,w=>Q a w
 | .load m a k,Q,w=>m= .plain∧rd a.block∧∃ v,w.cell? a=some v∧acc P wr rd (k v) Q w
 | .store m a v k,Q,w=>m= .plain∧wr a.block∧v.oneCell=true∧(∃ u,w.cell? a=some u)∧w.frozen? a=false∧acc P wr rd k Q (w.setCell a v)
 | .new o k,Q,w=>acc P wr rd (k w.heap.size) Q {w with heap:=w.heap.push o}
 | .shape r k,Q,w=>acc P wr rd (k (w.shape? r)) Q w
 | .freeze a n k,Q,w=>wr a.block∧acc P wr rd k Q (w.freeze a n)
 | .frozen a k,Q,w=>acc P wr rd (k (w.frozen? a)) Q w
 | .getObj r k,Q,w=>rd r∧∃ o,w.heap[r]? =some o∧(∀ c t f,o≠ .cells c t f)∧o.isChan=false∧acc P wr rd (k o) Q w
 | .setObj r o k,Q,w=>wr r∧(∃ o',w.heap[r]? =some o'∧(∀ c t f,o'≠ .cells c t f))∧o.isChan=false∧acc P wr rd k Q {w with heap:=w.heap.setIfInBounds r o}
 | .choose q k,Q,w=>if q.forced then acc P wr rd (k 0) Q w else acc P wr rd (k (q.cut (w.tape w.drawn q))) Q {w with drawn:=w.drawn+1}
 | .sys _ _,_,_=>False
 | .program k,Q,w=>acc P wr rd (k P) Q w
 | .mark m k,Q,w=>(m= .noRoom∨∃ f,m= .extern f)∧acc P wr rd k Q w
 | .halt _,_,_=>False
theorem ak{α β:Type}{P:Program}{wr rd:Nat->Prop}(s:Sem α)(f:α->Sem β)(Q:β->World->Prop)(w:World):
  acc P wr rd (s >>= f) Q w↔acc P wr rd s (fun a w'=>acc P wr rd (f a) Q w') w:=by
 show acc P wr rd (s.bind f) Q w↔_
 induction s generalizing w with
 |pure a=>rfl
 |load m a k ih=>simp only[Sem.bind,acc,ih]
 |store m a v k ih=>simp only[Sem.bind,acc,ih]
 |new o k ih=>simp only[Sem.bind,acc,ih]
 |shape r k ih=>simp only[Sem.bind,acc,ih]
 |freeze a n k ih=>simp only[Sem.bind,acc,ih]
 |frozen a k ih=>simp only[Sem.bind,acc,ih]
 |getObj r k ih=>simp only[Sem.bind,acc,ih]
 |setObj r o k ih=>simp only[Sem.bind,acc,ih]
 |choose q k ih=>simp only[Sem.bind,acc,ih]
 |sys c k ih=>simp only[Sem.bind,acc]
 |program k ih=>simp only[Sem.bind,acc,ih]
 |mark m k ih=>simp only[Sem.bind,acc,ih]
 |halt h=>simp only[Sem.bind,acc]
theorem xP{α:Type}{P:Program}{wr rd:Nat->Prop}{s:Sem α}{Q Q':α->World->Prop}{w:World}
  (h:acc P wr rd s Q w) (hq:∀ a w,Q a w->Q' a w):acc P wr rd s Q' w:=by
 induction s generalizing w with
 |pure a=>exact hq _ _ h
 |load m a k ih=>obtain⟨h1,h2,v,h3,h4⟩:=h;exact⟨h1,h2,v,h3,ih _ h4⟩
 |store m a v k ih=>obtain⟨h1,h2,h3,h4,h5,h6⟩:=h;exact⟨h1,h2,h3,h4,h5,ih h6⟩
 |new o k ih=>exact ih _ h
 |shape r k ih=>exact ih _ h
 |freeze a n k ih=>exact⟨h.1,ih h.2⟩
 |frozen a k ih=>exact ih _ h
 |getObj r k ih=>obtain⟨h1,o,h2,h3,h4,h5⟩:=h;exact⟨h1,o,h2,h3,h4,ih _ h5⟩
 |setObj r o k ih=>obtain⟨h1,h2,h3,h4⟩:=h;exact⟨h1,h2,h3,ih h4⟩
 |choose q k ih=>
  unfold acc at h⊢
  split at h
  ·rename_i hq';rw[if_pos hq'];exact ih _ h
  ·rename_i hq';rw[if_neg hq'];exact ih _ h
 |sys c k ih=>exact h.elim
 |program k ih=>exact ih _ h
 |mark m k ih=>exact⟨h.1,ih h.2⟩
 |halt h'=>exact h.elim
structure Keeps (wr:Nat->Prop) (w w':World):Prop where
 block:∀ b,b<w.heap.size->¬ wr b->w'.heap[b]? =w.heap[b]?
 size:w.heap.size<=w'.heap.size
 tape:w'.tape=w.tape
 os:w'.os=w.os
 output:w'.output=w.output
theorem Keeps.refl(wr:Nat->Prop)(w:World):Keeps wr w w:=⟨fun _ _ _=>rfl,Nat.le_refl _,rfl,rfl,rfl⟩
theorem Keeps.trans{wr:Nat->Prop}{w w' w'':World}(h:Keeps wr w w')(k:Keeps wr w' w''):Keeps wr w w'':=
 ⟨fun b hb hn=>(k.block b (Nat.lt_of_lt_of_le hb h.size) hn).trans (h.block b hb hn),Nat.le_trans h.size k.size,k.tape.trans h.tape,k.os.trans h.os,k.output.trans h.output⟩
theorem Keeps.weaken{wr wr':Nat->Prop}{w w':World}(h:Keeps wr w w')(hw:∀ b,b<w.heap.size->wr b->wr' b):Keeps wr' w w':=
 ⟨fun b hb hn=>h.block b hb fun hb'=>hn (hw b hb hb'),h.size,h.tape,h.os,h.output⟩
theorem KT{wr:Nat->Prop}(w:World)(a:Addr)(v:Value)(h:wr a.block):Keeps wr w (w.setCell a v):=by
 refine⟨fun b _ hn=> ?_,?_,rfl,rfl,rfl⟩
 ·have:a.block≠b:=fun e=>hn (e▸h)
  simp[World.setCell,Array.getElem?_modify,this]
 ·simp[World.setCell]
theorem NM{wr:Nat->Prop}(w:World)(a:Addr)(n:Nat)(h:wr a.block):Keeps wr w (w.freeze a n):=by
 unfold World.freeze
 split
 ·exact Keeps.refl _ _
 ·refine⟨fun b _ hn=> ?_,?_,rfl,rfl,rfl⟩
  ·have:a.block≠b:=fun e=>hn (e▸h)
   simp[Array.getElem?_modify,this]
  ·simp
theorem XA{wr:Nat->Prop}(w:World)(o:Obj):Keeps wr w {w with heap:=w.heap.push o}:=by
 refine⟨fun b hb _=> ?_,?_,rfl,rfl,rfl⟩
 ·simp only[Array.getElem?_push]
  have:b≠w.heap.size:=by omega
  simp[this]
 ·simp
theorem NP{wr:Nat->Prop}(w:World)(r:Nat)(o:Obj)(h:wr r):Keeps wr w {w with heap:=w.heap.setIfInBounds r o}:=by
 refine⟨fun b _ hn=> ?_,?_,rfl,rfl,rfl⟩
 ·have:r≠b:=fun e=>hn (e▸h)
  simp[Array.getElem?_setIfInBounds_ne this]
 ·simp
theorem NQ{α:Type}{P:Program}{wr rd:Nat->Prop}{s:Sem α}{Q:α->World->Prop}{w:World}
  (h:acc P wr rd s Q w):∃ a w',s.run P w= .ok a w'∧Q a w'∧Keeps wr w w':=by
 induction s generalizing w with
 |pure a=>exact⟨a,w,rfl,h,Keeps.refl _ _⟩
 |load m a k ih=>
  obtain⟨_,_,v,h3,h4⟩:=h
  obtain⟨x,w',hr,hq,hk⟩:=ih _ h4
  exact⟨x,w',by simp only[Sem.run,h3];exact hr,hq,hk⟩
 |store m a v k ih=>
  obtain⟨_,h2,h3,⟨u,h4⟩,h5,h6⟩:=h
  obtain⟨x,w',hr,hq,hk⟩:=ih h6
  refine⟨x,w',?_,hq,(KT w a v h2).trans hk⟩
  cases v<;>first|(simp[Value.oneCell] at h3;done)|(simp only[Sem.run,h4,h5];exact hr)
 |new o k ih=>
  obtain⟨x,w',hr,hq,hk⟩:=ih _ h
  exact⟨x,w',hr,hq,(XA w o).trans hk⟩
 |shape r k ih=>exact ih _ h
 |freeze a n k ih=>
  obtain⟨x,w',hr,hq,hk⟩:=ih h.2
  exact⟨x,w',hr,hq,(NM w a n h.1).trans hk⟩
 |frozen a k ih=>exact ih _ h
 |getObj r k ih=>
  obtain⟨_,o,h2,h3,_,h5⟩:=h
  obtain⟨x,w',hr,hq,hk⟩:=ih _ h5
  refine⟨x,w',?_,hq,hk⟩
  simp only[Sem.run,h2]
  cases o<;>first|exact hr|exact absurd rfl (h3 _ _ _)
 |setObj r o k ih=>
  obtain⟨h1,⟨o',h2,h3⟩,_,h4⟩:=h
  obtain⟨x,w',hr,hq,hk⟩:=ih h4
  refine⟨x,w',?_,hq,(NP w r o h1).trans hk⟩
  simp only[Sem.run,h2]
  cases o'<;>first|exact hr|exact absurd rfl (h3 _ _ _)
 |choose q k ih=>
  unfold acc at h
  split at h
  ·rename_i hq'
   obtain⟨x,w',hr,hq,hk⟩:=ih _ h
   exact⟨x,w',by simp only[Sem.run,hq',if_true];exact hr,hq,hk⟩
  ·rename_i hq'
   obtain⟨x,w',hr,hq,hk⟩:=ih _ h
   refine⟨x,w',by simp only[Sem.run];rw[if_neg hq'];exact hr,hq,?_⟩
   exact⟨fun b hb hn=>hk.block b hb hn,hk.size,hk.tape,hk.os,hk.output⟩
 |sys c k ih=>exact h.elim
 |program k ih=>exact ih _ h
 |mark m k ih=>exact ih h.2
 |halt h'=>exact h.elim
section
variable {α:Type} {P:Program} {wr rd:Nat->Prop} {w:World}
theorem bY(a:α)(Q:α->World->Prop):acc P wr rd (pure a:Sem α) Q w↔Q a w:=Iff.rfl
theorem aB{t:TypeId}{d:TypeDesc}(h:P.underlying t=some d)(Q:TypeDesc->World->Prop):acc P wr rd (underlying t) Q w↔Q d w:=by
 unfold underlying
 rw[ak]
 show acc P wr rd (match P.underlying t with | some d => pure d | none => stuck "no such type") Q w ↔ _
 rw[h];exact Iff.rfl
theorem kJ{t:TypeId}{i:TypeInfo}(h:P.info? t=some i)(Q:TypeInfo->World->Prop):acc P wr rd (typeInfo t) Q w↔Q i w:=by
 unfold typeInfo
 rw[ak]
 show acc P wr rd (match P.info? t with | some d => pure d | none => stuck "no such type") Q w ↔ _
 rw[h];exact Iff.rfl
theorem fM{t:TypeId}{i:TypeInfo}(h:P.info? t=some i)(Q:Nat->World->Prop):acc P wr rd (sizeOf t) Q w↔Q i.size w:=by
 unfold sizeOf
 rw[ak,kJ h];exact Iff.rfl
theorem iY{t:TypeId}{i:TypeInfo}{z:Value}(h:P.info? t=some i)(hz:i.zero=some z)(Q:Value->World->Prop):acc P wr rd (zeroValue t) Q w↔Q z w:=by
 unfold zeroValue
 rw[ak,kJ h,hz];exact Iff.rfl
theorem nG(e:TypeId)(cs:Array Value)(Q:Addr->World->Prop):acc P wr rd (newRow e cs) Q w↔Q ⟨w.heap.size,0,none⟩ {w with heap:=w.heap.push (.cells cs e)}:=by
 unfold newRow
 rw[ak];exact Iff.rfl
theorem QA{a:Addr}{v:Value}(hr:rd a.block)(hc:w.cell? a=some v)(Q:Value->World->Prop)(h:Q v w):acc P wr rd (load a) Q w:=⟨rfl,hr,v,hc,h⟩
theorem CW{a:Addr}(n:Nat):∀ (i:Nat) (acc0:Array Value) (vs:List Value) (Q:Array Value->World->Prop),vs.length=n->(n≠0->∀ j v,vs[j]? =some v->rd (a.add (i+j)).block∧w.cell? (a.add (i+j))=some v)->Q (acc0++vs.toArray) w->
  acc P wr rd (loadCellsFrom a i n acc0) Q w:=by
 induction n with
 |zero=>
  intro i acc0 vs Q hl _ hq
  have:vs=[]:=List.eq_nil_of_length_eq_zero hl
  subst this
  simpa [loadCellsFrom,bY] using hq
 |succ n ih=>
  intro i acc0 vs Q hl hc hq
  obtain⟨v,vs,rfl⟩:∃ v r,vs=v::r:=by cases vs with|nil=>simp at hl|cons v r=>exact⟨v,r,rfl⟩
  unfold loadCellsFrom
  rw[ak]
  obtain⟨h1,h2⟩:=hc (by omega) 0 v rfl
  refine QA h1 h2 _ ?_
  refine ih (i+1) (acc0.push v) vs Q (by simpa using hl) (fun _ j u hu=> ?_) (by simpa using hq)
  have:=hc (by omega) (j+1) u (by simpa using hu)
  rwa [show i+(j+1)=i+1+j by omega] at this
theorem uH{a:Addr}{n:Nat}{vs:List Value}{Q:Array Value->World->Prop}(hl:vs.length=n)(hc:n≠0->∀ j v,vs[j]? =some v->rd (a.add j).block∧w.cell? (a.add j)=some v)(hq:Q vs.toArray w):
  acc P wr rd (loadCells a n) Q w:=by
 unfold loadCells
 exact CW n 0 #[] vs Q hl (fun h j v hv=>by simpa using hc h j v hv) (by simpa using hq)
end
end Go.E
end
section
namespace Go.E
structure Pt where
 b:Option Nat
 cap:Nat
abbrev Pl:=Nat->Pt
def dV{α:Type}(n:Nat)(R:α->List Value->Prop):List α->List Value->Prop
 |[],_=>True
 |d::ds,l=>n<=l.length∧R d (l.take n)∧dV n R ds (l.drop n)
mutual
def CT.rp(w:World)(N:Nat->Prop):(t:CT)->t.D->Value->Prop
 | .int k,d,v=>v= .int k d
 | .bool,d,v=>v= .bool d
 | .str,d,v=>v= .string d
 | .sl ts,d,v=>∃ a len cap,v= .slice a len cap∧len=List.length d∧len<=cap∧(d≠[]->∃ b off c e f,a=some ⟨b,off,none⟩∧N b∧
   w.heap[b]? =some (.cells c e f)∧dV ts.n (aC.rp w N ts) d (c.toList.drop off))
def aC.rp(w:World)(N:Nat->Prop):(ts:aC)->ts.D->List Value->Prop
 | .one t,d,l=>∃ v,l=[v]∧CT.rp w N t d v
 | .cons t ts,d,l=>∃ v r,l=v::r∧CT.rp w N t d.1 v∧aC.rp w N ts d.2 r
end
theorem V6{w:World}{N:Nat->Prop}{ts:aC}{rows:List ts.D}{v:Value}:CT.rp w N (.sl ts) rows v↔
  ∃ a len cap,v= .slice a len cap∧len=rows.length∧len<=cap∧(rows≠[]->∃ b off c e f,a=some ⟨b,off,none⟩∧N b∧
   w.heap[b]? =some (.cells c e f)∧dV ts.n (aC.rp w N ts) rows (c.toList.drop off)):=Iff.rfl
theorem fJ{α:Type}{n:Nat}{R R':α->List Value->Prop}(h:∀ d l,R d l->R' d l):∀ (ds:List α) (l:List Value),dV n R ds l->dV n R' ds l
 |[],_,_=>trivial
 | _::ds,_,⟨a,b,c⟩=>⟨a,h _ _ b,fJ h ds _ c⟩
theorem jK{α:Type}{n:Nat}{R:α->List Value->Prop}:∀ (ds:List α) (l:List Value) (m:Nat),ds.length*n<=m->(dV n R ds (l.take m)↔dV n R ds l)
 |[],_,_,_=>Iff.rfl
 |d::ds,l,m,h=>by
  have h1:n<=m:=by simp only[List.length_cons,Nat.add_mul] at h;omega
  have h2:ds.length*n<=m-n:=by simp only[List.length_cons,Nat.add_mul] at h;omega
  have:=jK (R:=R) ds (l.drop n) (m-n) h2
  simp only[dV,List.length_take,List.take_take,List.drop_take,Nat.min_eq_left h1,this]
  constructor
  ·rintro⟨a,b,c⟩;exact⟨by omega,b,c⟩
  ·rintro⟨a,b,c⟩;exact⟨by omega,b,c⟩
theorem wu{α:Type}{n:Nat}{R:α->List Value->Prop}:∀ (ds:List α) (l:List Value),dV n R ds l->ds.length*n<=l.length
 |[],_,_=>by simp
 | _::ds,l,⟨a,_,c⟩=>by
  have:=wu ds _ c
  simp only[List.length_drop] at this
  simp only[List.length_cons,Nat.add_mul];omega
theorem pG{α:Type}{n:Nat}{R:α->List Value->Prop}:∀ (ds:List α) (l:List Value) (i:Nat) (d:α),dV n R ds l->ds[i]? =some d->R d ((l.drop (i*n)).take n)∧i*n+n<=l.length
 |[],_,_,_,_,h=>by simp at h
 |x::ds,l,0,d,⟨a,b,_⟩,h=>by
  obtain rfl:x=d:=by simpa using h
  simpa using ⟨b,a⟩
 |x::ds,l,i+1,d,⟨a,_,c⟩,h=>by
  have:=pG ds _ i d c (by simpa using h)
  rw[List.drop_drop,List.length_drop] at this
  rw[Nat.add_mul,Nat.one_mul,Nat.add_comm (i*n) n]
  exact⟨this.1,by omega⟩
theorem kT{α:Type}{n:Nat}{R:α->List Value->Prop}:∀ (ds es:List α) (l:List Value),dV n R (ds++es) l↔dV n R ds l∧dV n R es (l.drop (ds.length*n))
 |[],es,l=>by simp[dV]
 |d::ds,es,l=>by
  simp only[List.cons_append,dV,kT ds es,List.drop_drop,List.length_cons,Nat.add_mul,Nat.one_mul,and_assoc,Nat.add_comm]
theorem tN{α:Type}{n:Nat}{R:α->List Value->Prop}(ds:List α)(l:List Value)(i:Nat)(h:dV n R ds l)(hi:i<=ds.length):dV n R (ds.drop i) (l.drop (i*n)):=by
 rw[<- List.take_append_drop i ds,kT] at h
 have:(ds.take i).length=i:=by simp;omega
 rw[this] at h
 exact h.2
theorem ny{α:Type}{n:Nat}{R:α->List Value->Prop}(ds:List α)(l:List Value)(i:Nat)(h:dV n R ds l):dV n R (ds.take i) l:=by
 rw[<- List.take_append_drop i ds,kT] at h
 exact h.1
theorem Bh{α:Type}{n:Nat}{R:α->List Value->Prop}:∀ (ds:List α) (l:List Value) (i:Nat) (d:α) (x:List Value),dV n R ds l->i<ds.length->x.length=n->R d x->
  dV n R (ds.set i d) (l.take (i*n)++x++l.drop (i*n+n))
 |[],_,_,_,_,_,h,_,_=>by simp at h
 | _::ds,l,0,d,x,⟨_,_,c⟩,_,hx,hd=>by
  subst hx
  simp[dV,hd,c]
 |y::ds,l,i+1,d,x,⟨a,b,c⟩,hi,hx,hd=>by
  have ih:=Bh ds (l.drop n) i d x c (by simpa using hi) hx hd
  have hl:=wu _ _ c
  simp only[List.length_drop] at hl
  have hi':i<ds.length:=by simpa using hi
  have hle:i*n+n<=ds.length*n:=by
   have:=Nat.mul_le_mul_right n (Nat.succ_le_of_lt hi');simp only[Nat.succ_mul] at this;exact this
  simp only[List.set_cons_succ,dV,List.length_append,List.length_take,List.length_drop,Nat.add_mul,Nat.one_mul]
  generalize i*n=q at*
  generalize ds.length*n=q' at*
  refine⟨Nat.le_trans (Nat.le_of_eq hx.symm) (Nat.le_trans (Nat.le_add_left _ _) (Nat.le_add_right _ _)),?_,?_⟩
  ·rw[List.append_assoc,List.take_append_of_le_length (by simp;omega),List.take_take,Nat.min_eq_left (by omega)];exact b
  ·have e1:List.drop n (List.take (q+n) l++x++List.drop (q+n+n) l)=List.take q (l.drop n)++x++List.drop (q+n) (l.drop n):=by
    rw[List.append_assoc,List.drop_append_of_le_length (by simp;omega),List.drop_take,List.drop_drop,List.append_assoc,show q+n-n=q by omega,show n+(q+n)=q+n+n by omega]
   rw[e1];exact ih
def Fix(B B':Nat->Nat->Prop)(w w':World):Prop:=
 ∀ b e c t f,B b e->w.heap[b]? =some (.cells c t f)->B' b e∧∃ c' t' f',w'.heap[b]? =some (.cells c' t' f')∧c'.toList.take e=c.toList.take e
def uX(N N':Nat->Prop)(w w':World):Prop:=∀ b,N b->N' b∧w'.heap[b]? =w.heap[b]?
mutual
theorem CT.jI{w w':World}{N N':Nat->Prop}(h:uX N N' w w'):∀ (t:CT) (d:t.D) (v:Value),t.rp w N d v->t.rp w' N' d v
 | .int _,_,_,hv=>hv
 | .bool,_,_,hv=>hv
 | .str,_,_,hv=>hv
 | .sl ts,d,v,hv=>by
  unfold CT.rp at hv⊢
  obtain⟨a,len,cap,h1,h2,h2',h3⟩:=hv
  refine⟨a,len,cap,h1,h2,h2',fun hd=> ?_⟩
  obtain⟨b,off,c,e,f,ha,hb,hw,hr⟩:=h3 hd
  obtain⟨hb',hw'⟩:=h b hb
  exact⟨b,off,c,e,f,ha,hb',by rw[hw',hw],fJ (fun d l=>aC.jI h ts d l) d _ hr⟩
theorem aC.jI{w w':World}{N N':Nat->Prop}(h:uX N N' w w'):∀ (ts:aC) (d:ts.D) (l:List Value),ts.rp w N d l->ts.rp w' N' d l
 | .one t,d,l,hv=>by
  unfold aC.rp at hv⊢
  obtain⟨v,rfl,hv⟩:=hv
  exact⟨v,rfl,CT.jI h t d v hv⟩
 | .cons t ts,d,l,hv=>by
  unfold aC.rp at hv⊢
  obtain⟨v,r,rfl,hv,hr⟩:=hv
  exact⟨v,r,rfl,CT.jI h t d.1 v hv,aC.jI h ts d.2 r hr⟩
end
structure Env where
 w:World
 ρ:Pl
 N:Nat->Prop
 F:Nat->Prop
 O:bn
def Env.B(E:Env)(deps:List Nat)(b e:Nat):Prop:=
 E.N b∨∃ i∈deps,(i=foreign∧E.F b)∨∃ ts rows wr,look E.O i=some (.arr ts rows wr)∧(E.ρ i).b=some b∧e<=rows.length*ts.n
def TL(E:Env)(deps:List Nat)(ts:aC)(rows:List ts.D)(v:Value):Prop:=
 ∃ a len cap,v= .slice a len cap∧len=rows.length∧len<=cap∧(rows≠[]->∃ b off c e f,a=some ⟨b,off,none⟩∧E.B deps b (off+len*ts.n)∧
  E.w.heap[b]? =some (.cells c e f)∧dV ts.n (aC.rp E.w E.N ts) rows (c.toList.drop off))
theorem nC{E E':Env}{deps af4:List Nat}{ts:aC}{rows:List ts.D}{v:Value}(h:Fix (E.B deps) (E'.B af4) E.w E'.w)(hn:uX E.N E'.N E.w E'.w)(hv:TL E deps ts rows v):TL E' af4 ts rows v:=by
 obtain⟨a,len,cap,h1,h2,h2',h3⟩:=hv
 refine⟨a,len,cap,h1,h2,h2',fun hd=> ?_⟩
 obtain⟨b,off,c,e,f,ha,hb,hw,hr⟩:=h3 hd
 obtain⟨hb',c',t',f',hw',ht⟩:=h b _ c e f hb hw
 refine⟨b,off,c',t',f',ha,hb',hw',?_⟩
 have hr:=fJ (fun d l=>aC.jI hn ts d l) rows _ hr
 rw[<- jK rows _ (rows.length*ts.n) (Nat.le_refl _)] at hr⊢
 subst h2
 rw[List.take_drop] at hr⊢
 rw[ht]
 exact hr
theorem Hg{E:Env}{deps:List Nat}{ts:aC}{rows:List ts.D}{v:Value}(h:TL E deps ts rows v):v.oneCell=true:=by
 obtain⟨_,_,_,rfl,_⟩:=h;rfl
mutual
def VR(E:Env):AV->Value->Prop
 | .int k n,v=>v= .int k n
 | .bool b,v=>v= .bool b
 | .str s,v=>v= .string s
 | .aT,v=>v= .slice none 0 0
 | .ro ts rows deps,v=>TL E deps ts rows v
 | .own id,v=>∃ ts rows wr,look E.O id=some (.arr ts rows wr)∧v= .slice ((E.ρ id).b.map fun b=>⟨b,0,none⟩) rows.length (E.ρ id).cap
 | .kF,v=>v= .pointer none
 | .ptr id off,v=>∃ cs b,look E.O id=some (.box cs)∧(E.ρ id).b=some b∧v= .pointer (some ⟨b,off,none⟩)
 | .gX id i off,v=>∃ ts rows wr b,look E.O id=some (.arr ts rows wr)∧(E.ρ id).b=some b∧0<=i∧i<(rows.length:Int)∧v= .pointer (some ⟨b,i.toNat*ts.n+off,none⟩)
 | .iE ts rows deps i off,v=>∃ b o len cap,TL E deps ts rows (.slice (some ⟨b,o,none⟩) len cap)∧0<=i∧i<(rows.length:Int)∧v= .pointer (some ⟨b,o+i.toNat*ts.n+off,none⟩)
 | .jo,v=>v= .nilFunc
 | .func fn a b,v=>∃ x y:List Value,v= .func fn x.toArray y.toArray∧dG E a x∧dG E b y
 | .nZ,v=>v= .nilIface
 | .iface t u,v=>∃ u',v= .iface t u'∧VR E u u'
 | .agg cs,v=>∃ x:List Value,v= .agg x.toArray∧dG E cs x
 | .AY cs,v=>∃ x:List Value,v= .tuple x.toArray∧dG E cs x
 | .undef,v=>v=undef
 | .dead,v=>v.oneCell=true
 | .mp id,v=>∃ m b,look E.O id=some (.map m)∧(E.ρ id).b=some b∧v= .map (some b)
 | .raw u,v=>v=u∧u.oneCell=true
 | .sub id lo hi,v=>∃ ts rows wr a cap,look E.O id=some (.arr ts rows wr)∧0<=lo∧lo<=hi∧hi<=(rows.length:Int)∧v= .slice a (hi-lo).toNat cap∧(hi-lo).toNat<=cap∧(lo<hi->∃ b,(E.ρ id).b=some b∧a=some ⟨b,lo.toNat*ts.n,none⟩)
def dG(E:Env):List AV->List Value->Prop
 |[],l=>l=[]
 |x::xs,l=>∃ v r,l=v::r∧VR E x v∧dG E xs r
end
theorem lT{E:Env}:∀ {xs:List AV} {l:List Value},dG E xs l->l.length=xs.length
 |[],_,h=>by obtain rfl:_=[]:=h;rfl
 | _::xs,_,h=>by unfold dG at h;obtain⟨v,r,rfl,_,h⟩:=h;simp[lT h]
theorem NR{E:Env}:∀ {xs:List AV} {l:List Value} {i:Nat} {x:AV},dG E xs l->nth xs i=some x->∃ v,l[i]? =some v∧VR E x v
 |[],_,_,_,_,h=>by cases h
 | _::_,_,0,_,h,hx=>by
  unfold dG at h;obtain⟨v,r,rfl,h1,_⟩:=h
  cases hx;exact⟨v,rfl,h1⟩
 | _::xs,_,i+1,x,h,hx=>by
  unfold dG at h;obtain⟨v,r,rfl,_,h⟩:=h
  obtain⟨u,h1,h2⟩:=NR (i:=i) h hx
  exact⟨u,by simpa using h1,h2⟩
theorem pI{E:Env}:∀ {xs ys:List AV} {l m:List Value},dG E xs l->dG E ys m->dG E (xs++ys) (l++m)
 |[],_,_,_,h,h'=>by obtain rfl:_=[]:=h;exact h'
 | _::xs,ys,_,m,h,h'=>by
  unfold dG at h;obtain⟨v,r,rfl,h1,h2⟩:=h
  show dG E (_::(xs++ys)) _
  unfold dG;exact⟨v,r++m,rfl,h1,pI h2 h'⟩
theorem Em{E:Env}:∀ {n:Nat} {xs ys:List AV} {l:List Value},dG E xs l->takeN n xs=some ys->dG E ys (l.take n)∧n<=l.length
 |0,_,_,_,_,h=>by cases h;simp[dG]
 |n+1,[],_,_,_,h=>by cases h
 |n+1,x::xs,ys,_,h,ht=>by
  unfold dG at h;obtain⟨v,r,rfl,h1,h2⟩:=h
  simp only[takeN,Option.map_eq_some_iff] at ht
  obtain⟨z,hz,rfl⟩:=ht
  have:=Em h2 hz
  refine⟨?_,by simpa using this.2⟩
  show dG E (x::z) (v::r.take n)
  unfold dG;exact⟨v,_,rfl,h1,this.1⟩
theorem En{E:Env}:∀ {n:Nat} {xs:List AV} {l:List Value},dG E xs l->dG E (rQ n xs) (l.drop n)
 |0,_,_,h=>by simpa [rQ] using h
 |n+1,[],_,h=>by obtain rfl:_=[]:=h;simp[rQ,dG]
 |n+1,x::xs,_,h=>by
  unfold dG at h;obtain⟨v,r,rfl,_,h2⟩:=h
  simpa [rQ] using En h2
def free(c:Array Value)(f:Nat×Nat):Prop:=∀ off,off<c.size->¬ (f.1<=off∧off<f.2)
def lC:(t:CT)->t.D->Value->Prop
 | .int k,d,v=>v= .int k d
 | .bool,d,v=>v= .bool d
 | .str,d,v=>v= .string d
 | .sl _,_,_=>False
def TT(E:Env)(kt:CT):List (kt.D×AV)->List MapEntry->Prop
 |[],l=>l=[]
 |(k,x)::r,l=>∃ e l',l=e::l'∧lC kt k e.key∧pX x=true∧VR E x e.val∧TT E kt r l'
def aer(kt vt:CT):List (kt.D×vt.D)->List MapEntry->Prop
 |[],l=>l=[]
 |(k,x)::r,l=>∃ e l',l=e::l'∧lC kt k e.key∧lC vt x e.val∧aer kt vt r l'
def xQ(E:Env)(ent:List MapEntry):Ih->Prop
 | .lit kt es=>TT E kt es ent
 | .dat kt vt es=>aer kt vt es ent
def fV(E:Env)(i:Nat):AO->Prop
 | .map m=>∃ b ent clk,(E.ρ i).b=some b∧E.w.heap[b]? =some (.map ent clk)∧xQ E ent.toList m
 | .box cs=>∃ b c t f,(E.ρ i).b=some b∧E.w.heap[b]? =some (.cells c t f)∧free c f∧dG E cs c.toList
 | .arr ts rows _=>match (E.ρ i).b with
  |none=>rows=[]∧(E.ρ i).cap=0
  |some b=>∃ c t f,E.w.heap[b]? =some (.cells c t f)∧free c f∧rows.length<=(E.ρ i).cap∧(E.ρ i).cap*ts.n<=c.size∧dV ts.n (ts.rp E.w E.N) rows c.toList
 | .dead=>True
def live:AO->Bool
 | .dead=>false
 | _=>true
def Live(E:Env)(i:Nat):Prop:=∃ o,look E.O i=some o∧live o=true
structure Ctx where
 G:Nat->Prop
 h0:World
 N0:Nat->Prop
 bx:List (Nat×Nat)
 fn:FuncId
structure Ow where
 u:Nat->Prop
 s:Nat->Prop
def Ow.grow(o:Ow)(n m:Nat):Ow:=⟨fun b=>o.u b∨(n<=b∧b<m),fun b=>o.s b∨(n<=b∧b<m)⟩
structure OK (X:Ctx) (o:Ow) (E:Env) (aG:Nat):Prop where
 pos:0<aG
 num:∀ i a,look E.O i=some a->i<aG∧i≠foreign
 obj:∀ i a,look E.O i=some a->fV E i a
 inj:∀ i j b,Live E i->Live E j->(E.ρ i).b=some b->(E.ρ j).b=some b->i=j
 own:∀ i b,Live E i->(E.ρ i).b=some b->b<E.w.heap.size∧¬ E.N b∧¬ X.G b∧o.u b
 zx:∀ b,E.N b->b<E.w.heap.size∧o.s b∧(X.G b->X.N0 b)
 kept:∀ b,X.G b->b<X.h0.heap.size∧E.w.heap[b]? =X.h0.heap[b]? ∧o.s b
 size:X.h0.heap.size<=E.w.heap.size
 fg:∀ b,E.F b->X.G b
 us:∀ b,o.u b->o.s b
 bx:∀ q∈X.bx,VR E (.ptr q.1 0) (.pointer (some ⟨q.2,0,none⟩))
def fF:List Eff->AV->AV
 |[],x=>x
 |e::r,x=>fF r (e.av x)
def Step(E E':Env)(es:List Eff):Prop:=∀ x v,VR E x v->VR E' (fF es x) v
theorem Step.refl(E:Env):Step E E []:=fun _ _ h=>h
theorem KU(es fs:List Eff)(x:AV):fF (es++fs) x=fF fs (fF es x):=by
 induction es generalizing x with
 |nil=>rfl
 |cons e r ih=>exact ih _
theorem Step.trans{E E' E'':Env}{es fs:List Eff}(h:Step E E' es)(k:Step E' E'' fs):Step E E'' (es++fs):=
 fun x v hv=>by rw[KU];exact k _ _ (h _ _ hv)
def gK:List Eff->List AV->List AV
 |[],xs=>xs
 |e::r,xs=>gK r (e.oZ xs)
theorem Ip:∀ (es:List Eff) (cs:List AV),fF es (.agg cs)= .agg (gK es cs)
 |[],_=>rfl
 |e::r,cs=>Ip r (e.oZ cs)
theorem Iq:∀ (es:List Eff) (cs:List AV),fF es (.AY cs)= .AY (gK es cs)
 |[],_=>rfl
 |e::r,cs=>Iq r (e.oZ cs)
theorem CX:∀ (es:List Eff) (t:TypeId) (v:AV),fF es (.iface t v)= .iface t (fF es v)
 |[],_,_=>rfl
 |e::r,t,v=>CX r t (e.av v)
theorem Fv:∀ (es:List Eff) (fn:Fn) (a b:List AV),fF es (.func fn a b)= .func fn (gK es a) (gK es b)
 |[],_,_,_=>rfl
 |e::r,fn,a,b=>Fv r fn (e.oZ a) (e.oZ b)
theorem tV:∀ (es:List Eff),gK es []=[]
 |[]=>rfl
 | _::r=>tV r
theorem lU:∀ (es:List Eff) (x:AV) (xs:List AV),gK es (x::xs)=fF es x::gK es xs
 |[],_,_=>rfl
 |e::r,x,xs=>lU r (e.av x) (e.oZ xs)
theorem ig{x:AV}(h:∀ e:Eff,e.av x=x):∀ es,fF es x=x
 |[]=>rfl
 |e::r=>by show fF r (e.av x)=x;rw[h e];exact ig h r
structure Moves (E E':Env) (es:List Eff):Prop where
 ro:∀ (ts:aC) (rows:List ts.D) deps v,VR E (.ro ts rows deps) v->VR E' (fF es (.ro ts rows deps)) v
 own:∀ id v,VR E (.own id) v->VR E' (fF es (.own id)) v
 ptr:∀ id off v,VR E (.ptr id off) v->VR E' (.ptr id off) v
 gX:∀ id i off v,VR E (.gX id i off) v->VR E' (fF es (.gX id i off)) v
 iE:∀ (ts:aC) (rows:List ts.D) deps i off v,VR E (.iE ts rows deps i off) v->VR E' (fF es (.iE ts rows deps i off)) v
 mp:∀ id v,VR E (.mp id) v->VR E' (.mp id) v
 sub:∀ id lo hi v,VR E (.sub id lo hi) v->VR E' (fF es (.sub id lo hi)) v
mutual
theorem Moves.av{E E':Env}{es:List Eff}(h:Moves E E' es):∀ (x:AV) (v:Value),VR E x v->VR E' (fF es x) v
 | .int _ _,_,hv| .bool _,_,hv| .str _,_,hv| .aT,_,hv| .kF,_,hv| .jo,_,hv| .nZ,_,hv| .undef,_,hv| .dead,_,hv=>by
  rw[ig (fun e=>by cases e<;>rfl)];unfold VR at hv ⊢;exact hv
 | .ro ts rows deps,v,hv=>h.ro ts rows deps v hv
 | .own id,v,hv=>h.own id v hv
 | .ptr id off,v,hv=>by
  rw[ig (fun e=>by cases e<;>rfl)];exact h.ptr id off v hv
 | .gX id i off,v,hv=>h.gX id i off v hv
 | .sub id lo hi,v,hv=>h.sub id lo hi v hv
 | .mp id,v,hv=>by
  rw[ig (fun e=>by cases e<;>rfl)];exact h.mp id v hv
 | .raw u,v,hv=>by
  rw[ig (fun e=>by cases e<;>rfl)];unfold VR at hv ⊢;exact hv
 | .iE ts rows deps i off,v,hv=>h.iE ts rows deps i off v hv
 | .func fn a b,v,hv=>by
  unfold VR at hv;obtain⟨x,y,rfl,h1,h2⟩:=hv
  rw[Fv];unfold VR;exact⟨x,y,rfl,h.oZ a x h1,h.oZ b y h2⟩
 | .iface t u,v,hv=>by
  unfold VR at hv;obtain⟨u',rfl,h1⟩:=hv
  rw[CX];unfold VR;exact⟨u',rfl,h.av u u' h1⟩
 | .agg cs,v,hv=>by
  unfold VR at hv;obtain⟨x,rfl,h1⟩:=hv
  rw[Ip];unfold VR;exact⟨x,rfl,h.oZ cs x h1⟩
 | .AY cs,v,hv=>by
  unfold VR at hv;obtain⟨x,rfl,h1⟩:=hv
  rw[Iq];unfold VR;exact⟨x,rfl,h.oZ cs x h1⟩
theorem Moves.oZ{E E':Env}{es:List Eff}(h:Moves E E' es):∀ (xs:List AV) (l:List Value),dG E xs l->dG E' (gK es xs) l
 |[],_,hv=>by rw[tV];unfold dG at hv ⊢;exact hv
 |x::xs,l,hv=>by
  unfold dG at hv;obtain⟨v,r,rfl,h1,h2⟩:=hv
  rw[lU];unfold dG;exact⟨v,r,rfl,h.av x v h1,h.oZ xs r h2⟩
end
theorem TU{x:AV}(h:pX x=true)(e:Eff):e.av x=x:=by
 unfold pX at h
 split at h<;>first|rfl|(cases e<;>rfl)|cases h
theorem Ep{E E':Env}{es:List Eff}(h:Step E E' es){kt:CT}:∀ {r:List (kt.D×AV)} {l:List MapEntry},TT E kt r l->TT E' kt r l
 |[],_,hr=>hr
 |(k,x)::r,l,hr=>by
  obtain⟨e,l',rfl,h1,h2,h3,h4⟩:=hr
  have:=h _ _ h3
  rw[ig (TU h2)] at this
  exact⟨e,l',rfl,h1,h2,this,Ep h h4⟩
theorem TV{E E':Env}{es:List Eff}(h:Step E E' es){m:Ih}{l:List MapEntry}(hm:xQ E l m):xQ E' l m:=by
 cases m with
 |lit kt r=>exact Ep h hm
 |dat kt vt r=>exact hm
theorem Step.oZ{E E':Env}{es:List Eff}(h:Step E E' es):∀ {xs:List AV} {l:List Value},dG E xs l->dG E' (gK es xs) l
 |[],_,hv=>by rw[tV];unfold dG at hv ⊢;exact hv
 |x::xs,l,hv=>by
  unfold dG at hv;obtain⟨v,r,rfl,h1,h2⟩:=hv
  rw[lU];unfold dG;exact⟨v,r,rfl,h x v h1,h.oZ h2⟩
end Go.E
end
section
namespace Go.E
structure Keep (E E':Env) (S:Nat->Prop):Prop where
 n:∀ b,E.N b->E'.N b∧E'.w.heap[b]? =E.w.heap[b]?
 f:∀ b,E.F b->E'.F b∧E'.w.heap[b]? =E.w.heap[b]?
 arr:∀ i,¬ S i->∀ ts rows wr,look E.O i=some (.arr ts rows wr)->look E'.O i=some (.arr ts rows wr)∧E'.ρ i=E.ρ i∧∀ b,(E.ρ i).b=some b->E'.w.heap[b]? =E.w.heap[b]?
 box:∀ i cs,look E.O i=some (.box cs)->∃ cs',look E'.O i=some (.box cs')∧(E'.ρ i).b=(E.ρ i).b
 map:∀ i m,look E.O i=some (.map m)->∃ m',look E'.O i=some (.map m')∧(E'.ρ i).b=(E.ρ i).b
theorem Keep.fix{E E':Env}{S:Nat->Prop}(h:Keep E E' S){deps:List Nat}(hd:∀ i∈deps,¬ S i):Fix (E.B deps) (E'.B deps) E.w E'.w:=by
 intro b e c t f hb hc
 rcases hb with hb|⟨i,hi,hb|⟨ts,rows,wr,hl,hr,he⟩⟩
 ·have:=h.n b hb
  exact⟨.inl this.1,c,t,f,by rw[this.2,hc],rfl⟩
 ·have:=h.f b hb.2
  exact⟨.inr ⟨i,hi,.inl ⟨hb.1,this.1⟩⟩,c,t,f,by rw[this.2,hc],rfl⟩
 ·obtain⟨h1,h2,h3⟩:=h.arr i (hd i hi) ts rows wr hl
  exact⟨.inr ⟨i,hi,.inr ⟨ts,rows,wr,h1,by rw[h2];exact hr,he⟩⟩,c,t,f,by rw[h3 b hr,hc],rfl⟩
theorem Keep.Bj{E E':Env}{S:Nat->Prop}(h:Keep E E' S):uX E.N E'.N E.w E'.w:=h.n
theorem Keep.ro{E E':Env}{S:Nat->Prop}(h:Keep E E' S){ts:aC}{rows:List ts.D}{deps:List Nat}{v:Value}(hd:∀ i∈deps,¬ S i)(hv:VR E (.ro ts rows deps) v):VR E' (.ro ts rows deps) v:=by
 unfold VR at hv ⊢;exact nC (h.fix hd) h.Bj hv
theorem Keep.iE{E E':Env}{S:Nat->Prop}(h:Keep E E' S){ts:aC}{rows:List ts.D}{deps:List Nat}{i:Int}{off:Nat}{v:Value}(hd:∀ i∈deps,¬ S i)(hv:VR E (.iE ts rows deps i off) v):
  VR E' (.iE ts rows deps i off) v:=by
 unfold VR at hv⊢
 obtain⟨b,o,len,cap,h1,h2⟩:=hv
 exact⟨b,o,len,cap,nC (h.fix hd) h.Bj h1,h2⟩
theorem Keep.own{E E':Env}{S:Nat->Prop}(h:Keep E E' S){id:Nat}{v:Value}(hd:¬ S id)(hv:VR E (.own id) v):VR E' (.own id) v:=by
 unfold VR at hv⊢
 obtain⟨ts,rows,wr,h1,h2⟩:=hv
 obtain⟨k1,k2,_⟩:=h.arr id hd ts rows wr h1
 exact⟨ts,rows,wr,k1,by rw[k2];exact h2⟩
theorem Keep.ptr{E E':Env}{S:Nat->Prop}(h:Keep E E' S){id off:Nat}{v:Value}(hv:VR E (.ptr id off) v):VR E' (.ptr id off) v:=by
 unfold VR at hv⊢
 obtain⟨cs,b,h1,h2,h3⟩:=hv
 obtain⟨cs',k1,k2⟩:=h.box id cs h1
 exact⟨cs',b,k1,by rw[k2];exact h2,h3⟩
theorem Keep.mp{E E':Env}{S:Nat->Prop}(h:Keep E E' S){id:Nat}{v:Value}(hv:VR E (.mp id) v):VR E' (.mp id) v:=by
 unfold VR at hv⊢
 obtain⟨m,b,h1,h2,h3⟩:=hv
 obtain⟨m',k1,k2⟩:=h.map id m h1
 exact⟨m',b,k1,by rw[k2];exact h2,h3⟩
theorem Keep.gX{E E':Env}{S:Nat->Prop}(h:Keep E E' S){id:Nat}{i:Int}{off:Nat}{v:Value}(hd:¬ S id)(hv:VR E (.gX id i off) v):VR E' (.gX id i off) v:=by
 unfold VR at hv⊢
 obtain⟨ts,rows,wr,b,h1,h2,h3⟩:=hv
 obtain⟨k1,k2,_⟩:=h.arr id hd ts rows wr h1
 exact⟨ts,rows,wr,b,k1,by rw[k2];exact h2,h3⟩
theorem Keep.sub{E E':Env}{S:Nat->Prop}(h:Keep E E' S){id:Nat}{lo hi:Int}{v:Value}(hd:¬ S id)(hv:VR E (.sub id lo hi) v):VR E' (.sub id lo hi) v:=by
 unfold VR at hv⊢
 obtain⟨ts,rows,wr,a,cap,h1,h2,h3,h4,h5,h6,h7⟩:=hv
 obtain⟨k1,k2,_⟩:=h.arr id hd ts rows wr h1
 exact⟨ts,rows,wr,a,cap,k1,h2,h3,h4,h5,h6,by rw[k2];exact h7⟩
theorem Keep.step{E E':Env}(h:Keep E E' fun _=>False):Step E E' []:=
 Moves.av (es:=[]) {
  ro:=fun _ _ _ _ hv=>h.ro (fun _ _ x=>x) hv
  own:=fun _ _ hv=>h.own (fun x=>x) hv
  ptr:=fun _ _ _ hv=>h.ptr hv
  mp:=fun _ _ hv=>h.mp hv
  sub:=fun _ _ _ _ hv=>h.sub (fun x=>x) hv
  gX:=fun _ _ _ _ hv=>h.gX (fun x=>x) hv
  iE:=fun _ _ _ _ _ _ hv=>h.iE (fun _ _ x=>x) hv}
theorem eX{id:Nat}:∀ {l:List Nat},dN id l=true↔id∈l
 |[]=>by simp[dN]
 |j::r=>by
  unfold dN
  cases h:Nat.beq j id with
  |true=>have:=aeh h;simp[this]
  |false=>
   have:id≠j:=fun e=>by subst e;rw[Nat.beq_refl] at h;cases h
   simp[this,eX (l:=r)]
theorem qh{id i:Nat}:∀ {l:List Nat},i∈vX id l↔i∈l∧i≠id
 |[]=>by simp[vX]
 |j::r=>by
  unfold vX
  cases h:Nat.beq j id with
  |true=>
   have:=aeh h
   subst this
   simp only[cond_true,qh (l:=r),List.mem_cons]
   constructor
   ·rintro⟨a,b⟩;exact⟨.inr a,b⟩
   ·rintro⟨a|a,b⟩
    ·exact absurd a b
    ·exact⟨a,b⟩
  |false=>
   have hne:j≠id:=fun e=>by subst e;rw[Nat.beq_refl] at h;cases h
   simp only[cond_false,List.mem_cons,qh (l:=r)]
   constructor
   ·rintro (a|⟨a,b⟩)
    ·subst a;exact⟨.inl rfl,hne⟩
    ·exact⟨.inr a,b⟩
   ·rintro⟨a|a,b⟩
    ·exact .inl a
    ·exact .inr ⟨a,b⟩
theorem cZ{i j:Nat}(h:i≠j):Nat.beq i j=false:=by
 cases hb:Nat.beq i j with
 |false=>rfl
 |true=>exact absurd (aeh hb) h
theorem Ir{w:World}{N:Nat->Prop}{t:CT}{d:t.D}{v:Value}(h:t.rp w N d v):v.oneCell=true:=by
 cases t<;>unfold CT.rp at h
 ·rw[h];rfl
 ·rw[h];rfl
 ·rw[h];rfl
 ·obtain⟨_,_,_,rfl,_⟩:=h;rfl
theorem Keep.kill{E E':Env}{id:Nat}(h:Keep E E' fun i=>i=id)(hv:∀ deps,Fix (E.B deps) (E'.B deps) E.w E'.w):Step E E' [.kill id]:=
 Moves.av {
  ro:=fun ts rows deps v hr=>by
   show VR E' (.ro ts rows deps) v
   unfold VR at hr ⊢;exact nC (hv deps) h.Bj hr
  own:=fun j v hr=>by
   show VR E' (bif Nat.beq j id then .dead else .own j) v
   by_cases e:j=id
   ·subst e;rw[Nat.beq_refl]
    unfold VR at hr ⊢;obtain⟨_,_,_,_,rfl⟩:=hr;rfl
   ·rw[cZ e];exact h.own e hr
  ptr:=fun _ _ _ hr=>h.ptr hr
  mp:=fun _ _ hr=>h.mp hr
  sub:=fun j lo hi v hr=>by
   show VR E' (bif Nat.beq j id then .dead else .sub j lo hi) v
   by_cases e:j=id
   ·subst e;rw[Nat.beq_refl]
    unfold VR at hr ⊢;obtain⟨_,_,_,_,_,_,_,_,_,rfl,_⟩:=hr;rfl
   ·rw[cZ e];exact h.sub e hr
  gX:=fun j i off v hr=>by
   show VR E' (bif Nat.beq j id then .dead else .gX j i off) v
   by_cases e:j=id
   ·subst e;rw[Nat.beq_refl]
    unfold VR at hr ⊢;obtain⟨_,_,_,_,_,_,_,_,rfl⟩:=hr;rfl
   ·rw[cZ e];exact h.gX e hr
  iE:=fun ts rows deps i off v hr=>by
   show VR E' (.iE ts rows deps i off) v
   unfold VR at hr ⊢;obtain⟨b,o,len,cap,h1,h2⟩:=hr
   exact⟨b,o,len,cap,nC (hv deps) h.Bj h1,h2⟩}
theorem Keep.dO{E E':Env}{id:Nat}(h:Keep E E' fun i=>i=id)
  (ho:∀ ts rows wr,look E.O id=some (.arr ts rows wr)->E'.ρ id=E.ρ id∧∃ rows':List ts.D,rows'.length=rows.length∧∃ wr',look E'.O id=some (.arr ts rows' wr')):Step E E' [.dO id]:=
 Moves.av {
  ro:=fun ts rows deps v hr=>by
   show VR E' (bif dN id deps then .dead else .ro ts rows deps) v
   cases e:dN id deps with
   |true=>
    unfold VR at hr ⊢;exact Hg hr
   |false=>exact h.ro (fun i hi (x:i=id)=>by rw[x] at hi;rw[eX.2 hi] at e;cases e) hr
  own:=fun j v hr=>by
   show VR E' (.own j) v
   by_cases e:j=id
   ·subst e
    unfold VR at hr ⊢;obtain⟨ts,rows,wr,h1,h2⟩:=hr
    obtain⟨k1,rows',k2,wr',k3⟩:=ho ts rows wr h1
    exact⟨ts,rows',wr',k3,by rw[k1,k2];exact h2⟩
   ·exact h.own e hr
  ptr:=fun _ _ _ hr=>h.ptr hr
  mp:=fun _ _ hr=>h.mp hr
  sub:=fun j lo hi v hr=>by
   show VR E' (.sub j lo hi) v
   by_cases e:j=id
   ·subst e
    unfold VR at hr ⊢;obtain⟨ts,rows,wr,a,cap,h1,h2,h3,h4,h5,h6,h7⟩:=hr
    obtain⟨k1,rows',k2,wr',k3⟩:=ho ts rows wr h1
    exact⟨ts,rows',wr',a,cap,k3,h2,h3,by rw[k2];exact h4,h5,h6,by rw[k1];exact h7⟩
   ·exact h.sub e hr
  gX:=fun j i off v hr=>by
   show VR E' (.gX j i off) v
   by_cases e:j=id
   ·subst e
    unfold VR at hr ⊢;obtain⟨ts,rows,wr,b,h1,h2,h3,h4,h5⟩:=hr
    obtain⟨k1,rows',k2,wr',k3⟩:=ho ts rows wr h1
    exact⟨ts,rows',wr',b,k3,by rw[k1];exact h2,h3,by rw[k2];exact h4,h5⟩
   ·exact h.gX e hr
  iE:=fun ts rows deps i off v hr=>by
   show VR E' (bif dN id deps then .dead else .iE ts rows deps i off) v
   cases e:dN id deps with
   |true=>unfold VR at hr ⊢;obtain⟨_,_,_,_,_,_,_,rfl⟩:=hr;rfl
   |false=>exact h.iE (fun i hi (x:i=id)=>by rw[x] at hi;rw[eX.2 hi] at e;cases e) hr}
theorem Keep.gone{E E':Env}{id:Nat}(h:Keep E E' fun i=>i=id):Step E E' [.kill id,.dO id]:=
 Moves.av {
  ro:=fun ts rows deps v hr=>by
   show VR E' (bif dN id deps then .dead else .ro ts rows deps) v
   cases e:dN id deps with
   |true=>unfold VR at hr ⊢;exact Hg hr
   |false=>exact h.ro (fun i hi (x:i=id)=>by rw[x] at hi;rw[eX.2 hi] at e;cases e) hr
  own:=fun j v hr=>by
   show VR E' ((Eff.dO id).av (bif Nat.beq j id then .dead else .own j)) v
   by_cases e:j=id
   ·subst e;rw[Nat.beq_refl]
    show VR E' .dead v
    unfold VR at hr ⊢;obtain⟨_,_,_,_,rfl⟩:=hr;rfl
   ·rw[cZ e];exact h.own e hr
  ptr:=fun _ _ _ hr=>h.ptr hr
  mp:=fun _ _ hr=>h.mp hr
  sub:=fun j lo hi v hr=>by
   show VR E' ((Eff.dO id).av (bif Nat.beq j id then .dead else .sub j lo hi)) v
   by_cases e:j=id
   ·subst e;rw[Nat.beq_refl]
    show VR E' .dead v
    unfold VR at hr ⊢;obtain⟨_,_,_,_,_,_,_,_,_,rfl,_⟩:=hr;rfl
   ·rw[cZ e];exact h.sub e hr
  gX:=fun j i off v hr=>by
   show VR E' ((Eff.dO id).av (bif Nat.beq j id then .dead else .gX j i off)) v
   by_cases e:j=id
   ·subst e;rw[Nat.beq_refl]
    show VR E' .dead v
    unfold VR at hr ⊢;obtain⟨_,_,_,_,_,_,_,_,rfl⟩:=hr;rfl
   ·rw[cZ e];exact h.gX e hr
  iE:=fun ts rows deps i off v hr=>by
   show VR E' (bif dN id deps then .dead else .iE ts rows deps i off) v
   cases e:dN id deps with
   |true=>unfold VR at hr ⊢;obtain⟨_,_,_,_,_,_,_,rfl⟩:=hr;rfl
   |false=>exact h.iE (fun i hi (x:i=id)=>by rw[x] at hi;rw[eX.2 hi] at e;cases e) hr}
theorem Keep.shut{E E':Env}{id:Nat}{ts:aC}{rows:List ts.D}{wr:Bool}(h:Keep E E' fun i=>i=id)(hid:id≠foreign)(hl:look E.O id=some (.arr ts rows wr))(gW:fV E id (.arr ts rows wr))
  (hn:∀ b,(E.ρ id).b=some b->E'.N b∧E'.w.heap[b]? =E.w.heap[b]?):Step E E' [.shut id ts rows]:=by
 have Zr:∀ deps,Fix (E.B deps) (E'.B (vX id deps)) E.w E'.w:=by
  intro deps b e c t f hb hc
  rcases hb with hb|⟨i,hi,hb|⟨ts',rows',wr',hl',hr,he⟩⟩
  ·have:=h.n b hb
   exact⟨.inl this.1,c,t,f,by rw[this.2,hc],rfl⟩
  ·have:=h.f b hb.2
   exact⟨.inr ⟨i,qh.2 ⟨hi,fun x=>hid (by rw[<- x];exact hb.1)⟩,.inl ⟨hb.1,this.1⟩⟩,c,t,f,by rw[this.2,hc],rfl⟩
  ·by_cases x:i=id
   ·subst x
    obtain⟨k1,k2⟩:=hn b hr
    exact⟨.inl k1,c,t,f,by rw[k2,hc],rfl⟩
   ·obtain⟨h1,h2,h3⟩:=h.arr i x ts' rows' wr' hl'
    exact⟨.inr ⟨i,qh.2 ⟨hi,x⟩,.inr ⟨ts',rows',wr',h1,by rw[h2];exact hr,he⟩⟩,c,t,f,by rw[h3 b hr,hc],rfl⟩
 have whole:TL E' [] ts rows (.slice ((E.ρ id).b.map fun b=>⟨b,0,none⟩) rows.length (E.ρ id).cap):=by
  have hcap:rows.length<=(E.ρ id).cap:=by
   unfold fV at gW
   cases hb:(E.ρ id).b with
   |none=>rw[hb] at gW;rw[gW.1];exact Nat.zero_le _
   |some b=>rw[hb] at gW;obtain⟨c,t,f,_,_,k,_⟩:=gW;exact k
  refine⟨_,_,_,rfl,rfl,hcap,fun hd=> ?_⟩
  unfold fV at gW
  cases hb:(E.ρ id).b with
  |none=>rw[hb] at gW;exact absurd gW.1 hd
  |some b=>
   rw[hb] at gW
   obtain⟨c,t,f,h1,_,_,_,h5⟩:=gW
   obtain⟨k1,k2⟩:=hn b hb
   refine⟨b,0,c,t,f,rfl,.inl k1,by rw[k2,h1],?_⟩
   simpa using fJ (fun d l=>aC.jI h.Bj ts d l) rows _ h5
 exact Moves.av {
  ro:=fun ts' rows' deps v hr=>by
   show VR E' (.ro ts' rows' (vX id deps)) v
   unfold VR at hr ⊢;exact nC (Zr deps) h.Bj hr
  own:=fun j v hr=>by
   show VR E' (bif Nat.beq j id then .ro ts rows [] else .own j) v
   by_cases e:j=id
   ·subst e;rw[Nat.beq_refl]
    show VR E' (.ro ts rows []) v
    unfold VR at hr⊢
    obtain⟨ts',rows',wr',h1,rfl⟩:=hr
    rw[hl] at h1;cases h1
    exact whole
   ·rw[cZ e];exact h.own e hr
  ptr:=fun _ _ _ hr=>h.ptr hr
  mp:=fun _ _ hr=>h.mp hr
  sub:=fun j lo hi v hr=>by
   show VR E' (bif Nat.beq j id then .dead else .sub j lo hi) v
   by_cases e:j=id
   ·subst e;rw[Nat.beq_refl]
    unfold VR at hr ⊢;obtain⟨_,_,_,_,_,_,_,_,_,rfl,_⟩:=hr;rfl
   ·rw[cZ e];exact h.sub e hr
  gX:=fun j i off v hr=>by
   show VR E' (bif Nat.beq j id then .iE ts rows [] i off else .gX j i off) v
   by_cases e:j=id
   ·subst e;rw[Nat.beq_refl]
    show VR E' (.iE ts rows [] i off) v
    unfold VR at hr⊢
    obtain⟨ts',rows',wr',b,h1,h2,h3,h4,rfl⟩:=hr
    rw[hl] at h1;cases h1
    rw[h2] at whole
    exact⟨b,0,_,_,whole,h3,h4,by simp⟩
   ·rw[cZ e];exact h.gX e hr
  iE:=fun ts' rows' deps i off v hr=>by
   show VR E' (.iE ts' rows' (vX id deps) i off) v
   unfold VR at hr ⊢;obtain⟨b,o,len,cap,h1,h2⟩:=hr
   exact⟨b,o,len,cap,nC (Zr deps) h.Bj h1,h2⟩}
def jd(es:List Eff):AO->AO
 | .box cs=> .box (gK es cs)
 |a=>a
theorem pJ(es:List Eff)(a:AO):live (jd es a)=live a:=by cases a<;>rfl
theorem OK.next{X:Ctx}{o o':Ow}{E E':Env}{aG gq:Nat}{es:List Eff}(h:OK X o E aG)(hs:Step E E' es)(sp:Nat->Prop)
  (hg:∀ b,E.N b∨X.G b->E'.w.heap[b]? =E.w.heap[b]?) (hz:E.w.heap.size<=E'.w.heap.size) (hN:∀ b,E.N b->E'.N b) (hF:E'.F=E.F)
  (hu:∀ b,o.u b->o'.u b) (hsub:∀ b,o.s b->o'.s b) (hus:∀ b,o'.u b->o'.s b) (hn:aG<=gq)
  (hl:∀ i a',look E'.O i=some a'->¬ sp i->∃ a,look E.O i=some a∧a'=jd es a∧(live a=true->E'.ρ i=E.ρ i∧∀ b,(E.ρ i).b=some b->¬ E'.N b∧E'.w.heap[b]? =E.w.heap[b]?))
  (hsp:∀ i a',sp i->look E'.O i=some a'->i<gq∧i≠foreign∧fV E' i a')
  (hinj:∀ i b,sp i->Live E' i->(E'.ρ i).b=some b->b<E'.w.heap.size∧¬ E'.N b∧¬ X.G b∧o'.u b∧∀ j,Live E' j->(E'.ρ j).b=some b->j=i)
  (hNn:∀ b,E'.N b->b<E'.w.heap.size∧o'.s b∧(X.G b->X.N0 b)):OK X o' E' gq where
 pos:=Nat.lt_of_lt_of_le h.pos hn
 num i a hi:=by
  by_cases s:sp i
  ·have:=hsp i a s hi;exact⟨this.1,this.2.1⟩
  ·obtain⟨a0,h1,_⟩:=hl i a hi s
   have:=h.num i a0 h1
   exact⟨Nat.lt_of_lt_of_le this.1 hn,this.2⟩
 obj i a hi:=by
  by_cases s:sp i
  ·exact (hsp i a s hi).2.2
  ·obtain⟨a0,h1,rfl,h3⟩:=hl i a hi s
   have h4:=h.obj i a0 h1
   cases a0 with
   |dead=>trivial
   |map m=>
    obtain⟨k1,k2⟩:=h3 rfl
    obtain⟨b,ent,clk,e1,e2,e3⟩:=h4
    exact⟨b,ent,clk,by rw[k1];exact e1,by rw[(k2 b e1).2];exact e2,TV hs e3⟩
   |box cs=>
    obtain⟨k1,k2⟩:=h3 rfl
    obtain⟨b,c,t,f,e1,e2,e3,e4⟩:=h4
    exact⟨b,c,t,f,by rw[k1];exact e1,by rw[(k2 b e1).2];exact e2,e3,hs.oZ e4⟩
   |arr ts rows wr=>
    obtain⟨k1,k2⟩:=h3 rfl
    show fV E' i (.arr ts rows wr)
    unfold fV at h4⊢
    rw[k1]
    cases hb:(E.ρ i).b with
    |none=>rw[hb] at h4;exact h4
    |some b=>
     rw[hb] at h4
     obtain⟨c,t,f,e1,e2,e3,e4,e5⟩:=h4
     refine⟨c,t,f,by rw[(k2 b hb).2];exact e1,e2,e3,e4,?_⟩
     refine fJ (fun d l=>aC.jI ?_ ts d l) rows _ e5
     exact fun b hb=>⟨hN b hb,hg b (.inl hb)⟩
 inj i j b li lj hi hj:=by
  by_cases si:sp i
  ·exact ((hinj i b si li hi).2.2.2.2 j lj hj).symm
  ·by_cases sj:sp j
   ·exact (hinj j b sj lj hj).2.2.2.2 i li hi
   ·obtain⟨a,l1,l2⟩:=li
    obtain⟨a0,h1,rfl,h3⟩:=hl i a l1 si
    obtain⟨a',m1,m2⟩:=lj
    obtain⟨a1,g1,rfl,g3⟩:=hl j a' m1 sj
    rw[pJ] at l2 m2
    exact h.inj i j b ⟨a0,h1,l2⟩ ⟨a1,g1,m2⟩ (by rw[<- (h3 l2).1];exact hi) (by rw[<- (g3 m2).1];exact hj)
 own i b li hi:=by
  by_cases si:sp i
  ·have:=hinj i b si li hi;exact⟨this.1,this.2.1,this.2.2.1,this.2.2.2.1⟩
  ·obtain⟨a,l1,l2⟩:=li
   obtain⟨a0,h1,rfl,h3⟩:=hl i a l1 si
   rw[pJ] at l2
   obtain⟨k1,k2⟩:=h3 l2
   rw[k1] at hi
   obtain⟨e1,e2,e3,e4⟩:=h.own i b ⟨a0,h1,l2⟩ hi
   exact⟨Nat.lt_of_lt_of_le e1 hz,(k2 b hi).1,e3,hu b e4⟩
 zx:=hNn
 kept b hb:=by
  obtain⟨h1,h2,h3⟩:=h.kept b hb
  exact⟨h1,by rw[hg b (.inr hb),h2],hsub b h3⟩
 size:=Nat.le_trans h.size hz
 fg b hb:=h.fg b (by rw[<- hF];exact hb)
 us:=hus
 bx q hq:=by have:=hs _ _ (h.bx q hq);rwa [ig (fun e=>by cases e<;>rfl)] at this
end Go.E
end
section
namespace Go.E
theorem dA{α:Type}(i:Nat)(a:α)(O:List (Nat×α)):look ((i,a)::O) i=some a:=by unfold look;rw[Nat.beq_refl];rfl
theorem fU{α:Type}{i j:Nat}(a:α)(O:List (Nat×α))(h:i≠j):look ((i,a)::O) j=look O j:=by
 show (bif Nat.beq i j then some a else look O j)=_
 rw[cZ h];rfl
theorem uY(e:Eff):∀ (O:bn) (i:Nat),look (e.objs O) i=(look O i).map (jd [e])
 |[],_=>rfl
 |(j,.box cs)::r,i=>by
  show (bif Nat.beq j i then some (AO.box (e.oZ cs)) else look (e.objs r) i)=(bif Nat.beq j i then some (AO.box cs) else look r i).map _
  cases Nat.beq j i
  ·exact uY e r i
  ·rfl
 |(j,.arr ts rows wr)::r,i=>by
  show (bif Nat.beq j i then some (AO.arr ts rows wr) else look (e.objs r) i)=(bif Nat.beq j i then some (AO.arr ts rows wr) else look r i).map _
  cases Nat.beq j i
  ·exact uY e r i
  ·rfl
 |(j,.dead)::r,i=>by
  show (bif Nat.beq j i then some AO.dead else look (e.objs r) i)=(bif Nat.beq j i then some AO.dead else look r i).map _
  cases Nat.beq j i
  ·exact uY e r i
  ·rfl
 |(j,.map m)::r,i=>by
  show (bif Nat.beq j i then some (AO.map m) else look (e.objs r) i)=(bif Nat.beq j i then some (AO.map m) else look r i).map _
  cases Nat.beq j i
  ·exact uY e r i
  ·rfl
theorem qQ(es fs:List Eff)(a:AO):jd fs (jd es a)=jd (es++fs) a:=by
 cases a with
 |box cs=>
  show AO.box (gK fs (gK es cs))=AO.box (gK (es++fs) cs)
  congr 1
  induction es generalizing cs with
  |nil=>rfl
  |cons e r ih=>exact ih _
 | _=>rfl
theorem lV(a:AO):jd [] a=a:=by cases a<;>rfl
theorem Ai:∀ (es:List Eff) (O:bn) (i:Nat),look (rY es O) i=(look O i).map (jd es)
 |[],O,i=>by
  show look O i=_
  cases look O i with
  |none=>rfl
  |some a=>simp[lV]
 |e::r,O,i=>by
  show look (rY r (e.objs O)) i=_
  rw[Ai r,uY]
  cases look O i with
  |none=>rfl
  |some a=>simp only[Option.map_some,qQ];rfl
theorem iR{α:Type}:∀ (A B:List (Nat×α)) (i:Nat),look (A++B) i=match look A i with|some a=>some a|none=>look B i
 |[],_,_=>rfl
 |(j,a)::r,B,i=>by
  show (bif Nat.beq j i then some a else look (r++B) i)=_
  show _=match (bif Nat.beq j i then some a else look r i) with|some a=>some a|none=>look B i
  cases Nat.beq j i
  ·exact iR r B i
  ·rfl
theorem tX:∀ (es:List Eff) (i:Nat),look (sealed es) i=if aQ i es=true then some .dead else none
 |[],_=>rfl
 | .shut j ts rows::r,i=>by
  show (bif Nat.beq j i then some AO.dead else look (sealed r) i)=if (Nat.beq j i||aQ i r)=true then _ else _
  rw[tX r]
  cases Nat.beq j i<;>simp
 | .kill _::r,i=>tX r i
 | .dO _::r,i=>tX r i
def dw(es:List Eff)(O:bn):bn:=match es with|[]=>O|es=>sealed es++rY es O
theorem bT(es:List Eff)(O:bn)(i:Nat):look (dw es O) i=if aQ i es=true then some .dead else (look O i).map (jd es):=by
 cases es with
 |nil=>
  show look O i=if false=true then _ else _
  cases look O i with
  |none=>rfl
  |some a=>simp[lV]
 |cons e r=>
  show look (sealed (e::r)++rY (e::r) O) i=_
  rw[iR,tX,Ai]
  cases aQ i (e::r)<;>simp
theorem iH(i:Nat):∀ (es fs:List Eff),aQ i (es++fs)=(aQ i es||aQ i fs)
 |[],_=>rfl
 | .shut j _ _::r,fs=>by
  show (Nat.beq j i||aQ i (r++fs))=((Nat.beq j i||aQ i r)||aQ i fs)
  rw[iH i r fs,Bool.or_assoc]
 | .kill _::r,fs=>iH i r fs
 | .dO _::r,fs=>iH i r fs
theorem OK.mono{X:Ctx}{o o':Ow}{E:Env}{aG:Nat}(h:OK X o E aG)(hu:∀ b,o.u b->o'.u b)(hs:∀ b,o.s b->o'.s b)(hus:∀ b,o'.u b->o'.s b):OK X o' E aG:=
 {h with
  own:=fun i b l e=>let ⟨a,b,c,d⟩:=h.own i b l e;⟨a,b,c,hu _ d⟩
  zx:=fun b n=>let ⟨a,c,d⟩:=h.zx b n;⟨a,hs _ c,d⟩
  kept:=fun b g=>let ⟨a,c,d⟩:=h.kept b g;⟨a,c,hs _ d⟩
  us:=hus}
theorem OK.grow{X:Ctx}{o:Ow}{E:Env}{aG n m:Nat}(h:OK X o E aG):OK X (o.grow n m) E aG:=
 h.mono (fun _=> .inl) (fun _=> .inl) fun b hb=>hb.elim (fun x=> .inl (h.us b x)) .inr
theorem Keep.zy{E:Env}{O':bn}(h:∀ i,look O' i=look E.O i):Keep E {E with O:=O'} fun _=>False:=
 ⟨fun _ hb=>⟨hb,rfl⟩,fun _ hb=>⟨hb,rfl⟩,fun i _ ts rows wr hl=>⟨by show look O' i=_;rw[h i];exact hl,rfl,fun _ _=>rfl⟩,fun i cs hl=>⟨cs,by show look O' i=_;rw[h i];exact hl,rfl⟩,fun i m hl=>⟨m,by show look O' i=_;rw[h i];exact hl,rfl⟩⟩
theorem OK.zy{X:Ctx}{o:Ow}{E:Env}{aG:Nat}{O':bn}(h:OK X o E aG)(hl:∀ i,look O' i=look E.O i):OK X o {E with O:=O'} aG∧Step E {E with O:=O'} []:=by
 have hs:=(Keep.zy hl).step
 refine⟨h.next hs (fun _=>False) (fun _ _=>rfl) (Nat.le_refl _) (fun _ hb=>hb) rfl (fun _ hb=>hb) (fun _ hb=>hb) h.us (Nat.le_refl _) ?_ (fun _ _ x=>x.elim) (fun _ _ x=>x.elim) h.zx,hs⟩
 intro i a' hi _
 have hi:look O' i=some a':=hi
 rw[hl i] at hi
 exact⟨a',hi,(lV a').symm,fun l=>⟨rfl,fun b hb=>⟨(h.own i b ⟨a',hi,l⟩ hb).2.1,rfl⟩⟩⟩
theorem QB{X:Ctx}{o:Ow}{E:Env}{aG id:Nat}{ts:aC}{rows:List ts.D}{wr:Bool}(h:OK X o E aG)(hl:look E.O id=some (.arr ts rows wr)):
  let E':Env:={E with N:=fun b=>E.N b∨(E.ρ id).b=some b,O:=dw [.shut id ts rows] E.O}
  OK X o E' aG∧Step E E' [.shut id ts rows]:=by
 intro E'
 have lk:∀ i,look E'.O i=if i=id then some .dead else (look E.O i).map (jd [.shut id ts rows]):=by
  intro i
  show look (dw [.shut id ts rows] E.O) i=_
  rw[bT]
  show (if (Nat.beq id i||false)=true then _ else _)=_
  by_cases x:i=id
  ·subst x;simp
  ·rw[cZ (fun y=>x y.symm)];simp[x]
 have hk:Keep E E' fun i=>i=id:=by
  refine⟨fun _ hb=>⟨.inl hb,rfl⟩,fun _ hb=>⟨hb,rfl⟩,fun i hi ts' rows' wr' hl'=>⟨?_,rfl,fun _ _=>rfl⟩,fun i cs hl'=>⟨(Eff.shut id ts rows).oZ cs,?_,rfl⟩,fun i m hl'=>⟨m,?_,rfl⟩⟩
  ·rw[lk,if_neg hi,hl'];rfl
  ·have:i≠id:=fun x=>by rw[x,hl] at hl';cases hl'
   rw[lk,if_neg this,hl'];rfl
  ·have:i≠id:=fun x=>by rw[x,hl] at hl';cases hl'
   rw[lk,if_neg this,hl'];rfl
 have hid:=(h.num id _ hl).2
 have hs:Step E E' [.shut id ts rows]:=hk.shut hid hl (h.obj id _ hl) fun b hb=>⟨.inr hb,rfl⟩
 refine⟨h.next hs (fun i=>i=id) (fun _ _=>rfl) (Nat.le_refl _) (fun _ hb=> .inl hb) rfl (fun _ hb=>hb) (fun _ hb=>hb) h.us (Nat.le_refl _) ?_ ?_ ?_ ?_,hs⟩
 ·intro i a' hi hne
  rw[lk,if_neg hne] at hi
  obtain⟨a,ha,rfl⟩:=Option.map_eq_some_iff.1 hi
  refine⟨a,ha,rfl,fun l=>⟨rfl,fun b hb=>⟨?_,rfl⟩⟩⟩
  rintro (hn|hn)
  ·exact (h.own i b ⟨a,ha,l⟩ hb).2.1 hn
  ·exact hne (h.inj i id b ⟨a,ha,l⟩ ⟨_,hl,rfl⟩ hb hn)
 ·intro i a' hi hi'
  subst hi
  rw[lk,if_pos rfl] at hi'
  cases hi'
  exact⟨(h.num i _ hl).1,hid,trivial⟩
 ·intro i b hi ⟨a,ha,l⟩
  subst hi
  rw[lk,if_pos rfl] at ha
  cases ha;cases l
 ·rintro b (hb|hb)
  ·exact h.zx b hb
  ·have:=h.own id b ⟨_,hl,rfl⟩ hb
   exact⟨this.1,h.us b this.2.2.2,fun g=>absurd g this.2.2.1⟩
theorem LJ{X:Ctx}{o:Ow}{E:Env}{aG id:Nat}{ts:aC}{rows:List ts.D}(h:OK X o E aG)(hl:look E.O id=some .dead):
  let E':Env:={E with O:=dw [.shut id ts rows] E.O}
  OK X o E' aG∧Step E E' [.shut id ts rows]:=by
 intro E'
 have lk:∀ i,look E'.O i=if i=id then some .dead else (look E.O i).map (jd [.shut id ts rows]):=by
  intro i
  show look (dw [.shut id ts rows] E.O) i=_
  rw[bT]
  show (if (Nat.beq id i||false)=true then _ else _)=_
  by_cases x:i=id
  ·subst x;simp
  ·rw[cZ (fun y=>x y.symm)];simp[x]
 have hk:Keep E E' fun i=>i=id:=by
  refine⟨fun _ hb=>⟨hb,rfl⟩,fun _ hb=>⟨hb,rfl⟩,fun i hi ts' rows' wr' hl'=>⟨?_,rfl,fun _ _=>rfl⟩,fun i cs hl'=>⟨(Eff.shut id ts rows).oZ cs,?_,rfl⟩,fun i m hl'=>⟨m,?_,rfl⟩⟩
  ·rw[lk,if_neg hi,hl'];rfl
  ·have:i≠id:=fun x=>by rw[x,hl] at hl';cases hl'
   rw[lk,if_neg this,hl'];rfl
  ·have:i≠id:=fun x=>by rw[x,hl] at hl';cases hl'
   rw[lk,if_neg this,hl'];rfl
 have hid:=(h.num id _ hl).2
 have Zr:∀ deps,Fix (E.B deps) (E'.B (vX id deps)) E.w E'.w:=by
  intro deps b e c t f hb hc
  rcases hb with hb|⟨i,hi,hb|⟨ts',rows',wr',hl',hr,he⟩⟩
  ·exact⟨.inl hb,c,t,f,hc,rfl⟩
  ·exact⟨.inr ⟨i,qh.2 ⟨hi,fun x=>hid (by rw[<- x];exact hb.1)⟩,.inl hb⟩,c,t,f,hc,rfl⟩
  ·have x:i≠id:=fun x=>by rw[x,hl] at hl';cases hl'
   exact⟨.inr ⟨i,qh.2 ⟨hi,x⟩,.inr ⟨ts',rows',wr',(hk.arr i x ts' rows' wr' hl').1,hr,he⟩⟩,c,t,f,hc,rfl⟩
 have hs:Step E E' [.shut id ts rows]:=Moves.av {
  ro:=fun ts' rows' deps v hr=>by
   show VR E' (.ro ts' rows' (vX id deps)) v
   unfold VR at hr ⊢;exact nC (Zr deps) hk.Bj hr
  own:=fun j v hr=>by
   show VR E' (bif Nat.beq j id then .ro ts rows [] else .own j) v
   by_cases e:j=id
   ·subst e
    unfold VR at hr;obtain⟨ts',rows',wr',h1,_⟩:=hr
    rw[hl] at h1;cases h1
   ·rw[cZ e];exact hk.own e hr
  ptr:=fun _ _ _ hr=>hk.ptr hr
  mp:=fun _ _ hr=>hk.mp hr
  sub:=fun j lo hi v hr=>by
   show VR E' (bif Nat.beq j id then .dead else .sub j lo hi) v
   by_cases e:j=id
   ·subst e
    unfold VR at hr;obtain⟨ts',rows',wr',_,_,h1,_⟩:=hr
    rw[hl] at h1;cases h1
   ·rw[cZ e];exact hk.sub e hr
  gX:=fun j i off v hr=>by
   show VR E' (bif Nat.beq j id then .iE ts rows [] i off else .gX j i off) v
   by_cases e:j=id
   ·subst e
    unfold VR at hr;obtain⟨ts',rows',wr',b,h1,_⟩:=hr
    rw[hl] at h1;cases h1
   ·rw[cZ e];exact hk.gX e hr
  iE:=fun ts' rows' deps i off v hr=>by
   show VR E' (.iE ts' rows' (vX id deps) i off) v
   unfold VR at hr ⊢;obtain⟨b,o,len,cap,h1,h2⟩:=hr
   exact⟨b,o,len,cap,nC (Zr deps) hk.Bj h1,h2⟩}
 refine⟨h.next hs (fun i=>i=id) (fun _ _=>rfl) (Nat.le_refl _) (fun _ hb=>hb) rfl (fun _ hb=>hb) (fun _ hb=>hb) h.us (Nat.le_refl _) ?_ ?_ ?_ h.zx,hs⟩
 ·intro i a' hi hne
  rw[lk,if_neg hne] at hi
  obtain⟨a,ha,rfl⟩:=Option.map_eq_some_iff.1 hi
  exact⟨a,ha,rfl,fun l=>⟨rfl,fun b hb=>⟨(h.own i b ⟨a,ha,l⟩ hb).2.1,rfl⟩⟩⟩
 ·intro i a' hi hi'
  subst hi
  rw[lk,if_pos rfl] at hi'
  cases hi'
  exact⟨(h.num i _ hl).1,hid,trivial⟩
 ·intro i b hi ⟨a,ha,l⟩
  subst hi
  rw[lk,if_pos rfl] at ha
  cases ha;cases l
inductive qj (O:bn):List Eff->Prop
 |nil:qj O []
 |cons {id:Nat} {ts:aC} {rows:List ts.D} {wr:Bool} {r:List Eff}:look O id=some (.arr ts rows wr)->qj O r->qj O (.shut id ts rows::r)
theorem qj.append{O:bn}{es fs:List Eff}(h:qj O es)(h':qj O fs):qj O (es++fs):=by
 induction h with
 |nil=>exact h'
 |cons a _ ih=>exact .cons a ih
theorem mX{O:bn}:∀ {ids:List Nat} {es:List Eff},kY O ids=some es->qj O es∧∀ i∈ids,aQ i es=true
 |[],es,h=>by cases h;exact⟨.nil,fun _ x=>by cases x⟩
 |id::r,es,h=>by
  unfold kY at h
  cases hl:look O id with
  |none=>rw[hl] at h;simp at h
  |some a=>cases a with
   |box _=>rw[hl] at h;simp at h
   |dead=>rw[hl] at h;simp at h
   |map m=>rw[hl] at h;simp at h
   |arr ts rows wr=>
    cases hr:kY O r with
    |none=>rw[hl,hr] at h;simp at h
    |some l=>
     rw[hl,hr] at h;cases h
     obtain⟨h1,h2⟩:=mX hr
     refine⟨.cons hl h1,fun i hi=> ?_⟩
     show (Nat.beq id i||aQ i l)=true
     rcases List.mem_cons.1 hi with rfl|hi
     ·simp
     ·simp[h2 i hi]
def AV.sls:AV->List Nat
 | .own id=>[id]
 | .ro _ _ deps=>deps
 | _=>[]
theorem wz{O:bn}{x:AV}{es:List Eff}(h:Ed O x=some es):qj O es∧∀ i∈x.sls,aQ i es=true:=by
 cases x with
 |own id=>exact mX h
 |ro ts rows deps=>exact mX h
 | _=>cases h;exact⟨.nil,fun _ hx=>by cases hx⟩
theorem pR{O:bn}:∀ {xs:List AV} {es:List Eff},og O xs=some es->qj O es∧∀ x∈xs,∀ i∈x.sls,aQ i es=true
 |[],es,h=>by cases h;exact⟨.nil,fun _ x=>by cases x⟩
 |x::xs,es,h=>by
  unfold og at h
  cases h1:Ed O x with
  |none=>rw[h1] at h;simp at h
  |some a=>
   cases h2:og O xs with
   |none=>rw[h1,h2] at h;simp at h
   |some b=>
    rw[h1,h2] at h;cases h
    obtain⟨k1,k2⟩:=wz h1
    obtain⟨k3,k4⟩:=pR h2
    refine⟨k1.append k3,fun y hy i hi=> ?_⟩
    rw[iH]
    rcases List.mem_cons.1 hy with rfl|hy
    ·rw[k2 i hi];rfl
    ·rw[k4 y hy i hi];simp
theorem uZ{X:Ctx}{o:Ow}:∀ {es:List Eff} {E:Env} {aG:Nat} {O:bn},qj O es->OK X o E aG->(∀ id ts rows wr,look O id=some (.arr ts rows wr)->look E.O id=some (.arr ts rows wr)∨look E.O id=some .dead)->
  ∃ E':Env,E'.w=E.w∧E'.ρ=E.ρ∧E'.F=E.F∧(∀ i,look E'.O i=look (dw es E.O) i)∧OK X o E' aG∧Step E E' es∧(∀ b,E.N b->E'.N b)∧
   (∀ i ts rows wr b,aQ i es=true->look E.O i=some (.arr ts rows wr)->(E.ρ i).b=some b->E'.N b)
 |[],E,aG,O,_,h,_=>⟨E,rfl,rfl,rfl,fun _=>rfl,h,Step.refl E,fun _ hb=>hb,fun _ _ _ _ _ hx=>by cases hx⟩
 | _::r,E,aG,O,.cons (id:=id) (ts:=ts) (rows:=rows) (wr:=wr) hid hr,h,hO=>by
  have comb:∀ E1:Env,E1.w=E.w->E1.ρ=E.ρ->E1.F=E.F->E1.O=dw [.shut id ts rows] E.O->OK X o E1 aG->Step E E1 [.shut id ts rows]->(∀ b,E.N b->E1.N b)->
    (∀ ts rows wr b,look E.O id=some (.arr ts rows wr)->(E.ρ id).b=some b->E1.N b)->∃ E':Env,E'.w=E.w∧E'.ρ=E.ρ∧E'.F=E.F∧(∀ i,look E'.O i=look (dw (.shut id ts rows::r) E.O) i)∧OK X o E' aG∧
    Step E E' (.shut id ts rows::r)∧(∀ b,E.N b->E'.N b)∧(∀ i ts' rows' wr b,aQ i (.shut id ts rows::r)=true->look E.O i=some (.arr ts' rows' wr)->(E.ρ i).b=some b->E'.N b):=by
   intro E1 e1 e2 e3 e4 h1 s1 n1 m1
   have lk:∀ i,look E1.O i=if i=id then some .dead else (look E.O i).map (jd [.shut id ts rows]):=by
    intro i
    rw[e4,bT]
    show (if (Nat.beq id i||false)=true then _ else _)=_
    by_cases x:i=id
    ·subst x;simp
    ·rw[cZ (fun y=>x y.symm)];simp[x]
   have hO1:∀ i ts rows wr,look O i=some (.arr ts rows wr)->look E1.O i=some (.arr ts rows wr)∨look E1.O i=some .dead:=by
    intro i ts' rows' wr' hi
    rw[lk]
    by_cases x:i=id
    ·rw[if_pos x];exact .inr rfl
    ·rw[if_neg x]
     rcases hO i ts' rows' wr' hi with g|g
     ·left;rw[g];rfl
     ·right;rw[g];rfl
   obtain⟨E',k1,k2,k3,k4,k5,k6,k7,k8⟩:=uZ hr h1 hO1
   refine⟨E',k1.trans e1,k2.trans e2,k3.trans e3,fun i=> ?_,k5,s1.trans k6,fun b hb=>k7 b (n1 b hb),?_⟩
   ·rw[k4,bT,bT,lk]
    show _=if (Nat.beq id i||aQ i r)=true then _ else _
    by_cases x:i=id
    ·subst x
     simp only[if_true,Nat.beq_refl,Bool.true_or]
     split<;>rfl
    ·rw[if_neg x,cZ (fun y=>x y.symm),Bool.false_or]
     split
     ·rfl
     ·cases look E.O i with
      |none=>rfl
      |some a=>simp only[Option.map_some,qQ];rfl
   ·intro i ts' rows' wr' b hx hi hb
    by_cases x:i=id
    ·subst x;exact k7 b (m1 ts' rows' wr' b hi hb)
    ·have hx:(Nat.beq id i||aQ i r)=true:=hx
     rw[cZ (fun y=>x y.symm),Bool.false_or] at hx
     exact k8 i ts' rows' wr' b hx (by rw[lk,if_neg x,hi];rfl) (by rw[e2];exact hb)
  rcases hO id ts rows wr hid with hl|hl
  ·obtain⟨a,b⟩:=QB h hl
   exact comb {E with N:=fun b=>E.N b∨(E.ρ id).b=some b,O:=dw [.shut id ts rows] E.O} rfl rfl rfl rfl a b (fun _ hb=> .inl hb) fun _ _ _ b _ hb=> .inr hb
  ·obtain⟨a,b⟩:=LJ (ts:=ts) (rows:=rows) h hl
   exact comb {E with O:=dw [.shut id ts rows] E.O} rfl rfl rfl rfl a b (fun _ hb=>hb) fun _ _ _ _ hx _=>by rw[hl] at hx;cases hx
end Go.E
end
section
namespace Go.E
def upd(ρ:Pl)(i:Nat)(p:Pt):Pl:=fun j=>if j=i then p else ρ j
theorem kK(ρ:Pl)(i:Nat)(p:Pt):upd ρ i p i=p:=by simp[upd]
theorem upd_ne{ρ:Pl}{i j:Nat}{p:Pt}(h:j≠i):upd ρ i p j=ρ j:=by simp[upd,h]
theorem OK.fresh{X:Ctx}{o:Ow}{E:Env}{aG:Nat}(h:OK X o E aG):look E.O aG=none:=by
 cases hl:look E.O aG with
 |none=>rfl
 |some a=>exact absurd (h.num aG a hl).1 (Nat.lt_irrefl _)
theorem OK.ltN{X:Ctx}{o:Ow}{E:Env}{aG b:Nat}(h:OK X o E aG)(hb:E.N b∨X.G b):b<E.w.heap.size:=
 hb.elim (fun x=>(h.zx b x).1) fun x=>Nat.lt_of_lt_of_le (h.kept b x).1 h.size
theorem wB{X:Ctx}{o:Ow}{E:Env}{aG id gq:Nat}(h:OK X o E aG)(hf:look E.O id=none)(h0:id≠foreign)(hlt:id<gq)(hle:aG<=gq){w':World}{ob:Obj}(hw:w'.heap=E.w.heap.push ob)(a:AO)(cap:Nat):
  let E':Env:={E with w:=w',ρ:=upd E.ρ id ⟨some E.w.heap.size,cap⟩,O:=(id,a)::E.O}
  Keep E E' (fun _=>False)∧Step E E' []∧(fV E' id a->OK X (o.grow E.w.heap.size w'.heap.size) E' gq):=by
 intro E'
 have hz:w'.heap.size=E.w.heap.size+1:=by rw[hw];simp
 have same:∀ b,b<E.w.heap.size->w'.heap[b]? =E.w.heap[b]? :=by
  intro b hb
  rw[hw,Array.getElem?_push]
  simp[Nat.ne_of_lt hb]
 have lk:∀ i,i≠id->look E'.O i=look E.O i:=fun i hi=>fU _ _ (fun x=>hi x.symm)
 have ne:∀ i a',look E.O i=some a'->i≠id:=fun i a' hi x=>by rw[x,hf] at hi;cases hi
 have hk:Keep E E' fun _=>False:=by
  refine⟨fun b hb=>⟨hb,same b (h.zx b hb).1⟩,fun b hb=>⟨hb,same b (h.ltN (.inr (h.fg b hb)))⟩,fun i _ ts rows wr hl=> ?_,fun i cs hl=> ?_,fun i m hl=> ?_⟩
  ·have:=ne i _ hl
   exact⟨by rw[lk i this];exact hl,upd_ne this,fun b hb=>same b (h.own i b ⟨_,hl,rfl⟩ hb).1⟩
  ·have:=ne i _ hl
   exact⟨cs,by rw[lk i this];exact hl,by show (upd _ _ _ i).b=_;rw[upd_ne this]⟩
  ·have:=ne i _ hl
   exact⟨m,by rw[lk i this];exact hl,by show (upd _ _ _ i).b=_;rw[upd_ne this]⟩
 refine⟨hk,hk.step,fun ho=> ?_⟩
 refine h.next hk.step (fun i=>i=id) (fun b hb=>same b (h.ltN hb)) (by show _<=w'.heap.size;omega) (fun _ hb=>hb) rfl (fun _=> .inl) (fun _=> .inl) (fun b hb=>hb.elim (fun x=> .inl (h.us b x)) .inr) hle ?_ ?_ ?_ ?_
 ·intro i a' hi hne
  rw[lk i hne] at hi
  exact⟨a',hi,(lV a').symm,fun l=>⟨upd_ne hne,fun b hb=>⟨(h.own i b ⟨a',hi,l⟩ hb).2.1,same b (h.own i b ⟨a',hi,l⟩ hb).1⟩⟩⟩
 ·intro i a' hi hi'
  subst hi
  rw[show look E'.O i=some a from dA _ _ _] at hi'
  cases hi'
  exact⟨hlt,h0,ho⟩
 ·intro i b hi _ hb
  subst hi
  rw[show E'.ρ i=_ from kK _ _ _] at hb
  cases hb
  refine⟨by show _<w'.heap.size;omega,fun x=>Nat.lt_irrefl _ (h.zx _ x).1,fun x=>Nat.lt_irrefl _ (h.ltN (.inr x)),.inr ⟨Nat.le_refl _,by omega⟩,?_⟩
  rintro j ⟨a',hj,l⟩ hj'
  by_cases x:j=i
  ·exact x
  ·rw[lk j x] at hj
   rw[show E'.ρ j=_ from upd_ne x] at hj'
   exact absurd (h.own j _ ⟨a',hj,l⟩ hj').1 (Nat.lt_irrefl _)
 ·intro b hb
  have:=h.zx b hb
  exact⟨by show _<w'.heap.size;omega,.inl this.2.1,this.2.2⟩
theorem aeu{X:Ctx}{o:Ow}{E:Env}{aG:Nat}(h:OK X o E aG){w':World}{ob:Obj}(hw:w'.heap=E.w.heap.push ob)(a:AO)(cap:Nat):
  let E':Env:={E with w:=w',ρ:=upd E.ρ aG ⟨some E.w.heap.size,cap⟩,O:=(aG,a)::E.O}
  Keep E E' (fun _=>False)∧Step E E' []∧(fV E' aG a->OK X (o.grow E.w.heap.size w'.heap.size) E' (aG+1)):=
 wB h h.fresh (Nat.ne_of_gt h.pos) (Nat.lt_succ_self _) (Nat.le_succ _) hw a cap
theorem V7{X:Ctx}{o:Ow}{E:Env}{aG:Nat}(h:OK X o E aG)(ts:aC)(wr:Bool):
  let E':Env:={E with ρ:=upd E.ρ aG ⟨none,0⟩,O:=(aG,.arr ts [] wr)::E.O}
  Step E E' []∧OK X o E' (aG+1):=by
 intro E'
 have lk:∀ i,i≠aG->look E'.O i=look E.O i:=fun i hi=>fU _ _ (fun x=>hi x.symm)
 have ne:∀ i a',look E.O i=some a'->i≠aG:=fun i a' hi x=>by rw[x,h.fresh] at hi;cases hi
 have hk:Keep E E' fun _=>False:=by
  refine⟨fun b hb=>⟨hb,rfl⟩,fun b hb=>⟨hb,rfl⟩,fun i _ ts rows wr hl=> ?_,fun i cs hl=> ?_,fun i m hl=> ?_⟩
  ·have:=ne i _ hl
   exact⟨by rw[lk i this];exact hl,upd_ne this,fun b hb=>rfl⟩
  ·have:=ne i _ hl
   exact⟨cs,by rw[lk i this];exact hl,by show (upd _ _ _ i).b=_;rw[upd_ne this]⟩
  ·have:=ne i _ hl
   exact⟨m,by rw[lk i this];exact hl,by show (upd _ _ _ i).b=_;rw[upd_ne this]⟩
 refine⟨hk.step,?_⟩
 refine h.next hk.step (fun i=>i=aG) (fun b hb=>rfl) (Nat.le_refl _) (fun _ hb=>hb) rfl (fun _ hb=>hb) (fun _ hb=>hb) h.us (Nat.le_succ _) ?_ ?_ ?_ h.zx
 ·intro i a' hi hne
  rw[lk i hne] at hi
  exact⟨a',hi,(lV a').symm,fun l=>⟨upd_ne hne,fun b hb=>⟨(h.own i b ⟨a',hi,l⟩ hb).2.1,rfl⟩⟩⟩
 ·intro i a' hi hi'
  subst hi
  rw[show look E'.O i=some (.arr ts [] wr) from dA _ _ _] at hi'
  cases hi'
  refine⟨Nat.lt_succ_self _,Nat.ne_of_gt h.pos,?_⟩
  unfold fV
  rw[show E'.ρ i=_ from kK _ _ _]
  exact⟨rfl,rfl⟩
 ·intro i b hi _ hb
  subst hi
  rw[show E'.ρ i=_ from kK _ _ _] at hb
  cases hb
theorem lW{es:List Eff}{id:Nat}{a':AO}{O:bn}(hse:∀ i,aQ i es=false)(hea:jd es a'=a'):(look (dw es ((id,a')::O)) id=some a')∧∀ i,i≠id->look (dw es ((id,a')::O)) i=(look O i).map (jd es):=by
 constructor
 ·rw[bT,hse,dA];simp[hea]
 ·intro i hi
  rw[bT,hse,fU _ _ (fun x=>hi x.symm)];simp
def AO.kind:AO->Nat
 | .box _=>1| .arr _ _ _=>2| .map _=>3| .dead=>0
theorem zA{X:Ctx}{o:Ow}{E:Env}{aG id b:Nat}{a:AO}(h:OK X o E aG)(hl:look E.O id=some a)(la:live a=true)(hb:(E.ρ id).b=some b){w':World}(hz:w'.heap.size=E.w.heap.size)
  (hw:∀ b',b'≠b->w'.heap[b']? =E.w.heap[b']?) (a':AO) (la':live a'=true) (es:List Eff) (hse:∀ i,aQ i es=false) (hea:jd es a'=a'):
  let E':Env:={E with w:=w',O:=dw es ((id,a')::E.O)}
  (a'.kind=a.kind->Keep E E' (fun i=>i=id))∧(Step E E' es->fV E' id a'->OK X o E' aG):=by
 intro E'
 have hown:=h.own id b ⟨a,hl,la⟩ hb
 have XB:look E'.O id=some a':=(lW hse hea).1
 have lk:∀ i,i≠id->look E'.O i=(look E.O i).map (jd es):=(lW hse hea).2
 have nb:∀ i a'' b',i≠id->look E.O i=some a''->live a''=true->(E.ρ i).b=some b'->b'≠b:=fun i a'' b' hi hl' l' hb' x=>by
  subst x;exact hi (h.inj i id b' ⟨a'',hl',l'⟩ ⟨a,hl,la⟩ hb' hb)
 have ng:∀ b',E.N b'∨X.G b'->b'≠b:=fun b' hn x=>by subst x;exact hn.elim hown.2.1 hown.2.2.1
 constructor
 ·intro hbox
  refine⟨fun b' hb'=>⟨hb',hw b' (ng b' (.inl hb'))⟩,fun b' hb'=>⟨hb',hw b' (ng b' (.inr (h.fg b' hb')))⟩,fun i hi ts rows wr hl'=> ?_,fun i cs hl'=> ?_,fun i m hl'=> ?_⟩
  ·exact⟨by rw[lk i hi,hl'];rfl,rfl,fun b' hb'=>hw b' (nb i _ b' hi hl' rfl hb')⟩
  ·by_cases x:i=id
   ·subst x
    rw[hl] at hl';cases hl'
    cases a' with
    |box cs'=>exact⟨cs',XB,rfl⟩
    | _=>cases hbox
   ·exact⟨gK es cs,by rw[lk i x,hl'];rfl,rfl⟩
  ·by_cases x:i=id
   ·subst x
    rw[hl] at hl';cases hl'
    cases a' with
    |map m'=>exact⟨m',XB,rfl⟩
    | _=>cases hbox
   ·exact⟨m,by rw[lk i x,hl'];rfl,rfl⟩
 ·intro hs ho
  refine h.next hs (fun i=>i=id) (fun b' hb'=>hw b' (ng b' hb')) (by show _<=w'.heap.size;omega) (fun _ hb=>hb) rfl (fun _ hb=>hb) (fun _ hb=>hb) h.us (Nat.le_refl _) ?_ ?_ ?_ ?_
  ·intro i x hi hne
   rw[lk i hne] at hi
   obtain⟨x,hx,rfl⟩:=Option.map_eq_some_iff.1 hi
   exact⟨x,hx,rfl,fun l=>⟨rfl,fun b' hb'=>⟨(h.own i b' ⟨x,hx,l⟩ hb').2.1,hw b' (nb i x b' hne hx l hb')⟩⟩⟩
  ·intro i x hi hi'
   subst hi
   rw[XB] at hi'
   cases hi'
   have:=h.num i a hl
   exact⟨this.1,this.2,ho⟩
  ·intro i b' hi _ hb'
   subst hi
   have hb':(E.ρ i).b=some b':=hb'
   rw[hb] at hb';cases hb'
   refine⟨by show _<w'.heap.size;rw[hz];exact hown.1,hown.2.1,hown.2.2.1,hown.2.2.2,?_⟩
   rintro j ⟨x,hj,l⟩ hj'
   by_cases y:j=i
   ·exact y
   ·rw[lk j y] at hj
    obtain⟨x,hx,rfl⟩:=Option.map_eq_some_iff.1 hj
    rw[pJ] at l
    exact absurd rfl (nb j x b y hx l hj')
  ·intro b' hb'
   have:=h.zx b' hb'
   exact⟨by show _<w'.heap.size;rw[hz];exact this.1,this.2⟩
theorem Zt{X:Ctx}{o:Ow}{E:Env}{aG id:Nat}{ts:aC}{rows:List ts.D}{wr:Bool}(h:OK X o E aG)(hl:look E.O id=some (.arr ts rows wr)){w':World}{c:Array Value}{t:TypeId}{f:Nat×Nat}
  (hw:w'.heap=E.w.heap.push (.cells c t f)) (rows':List ts.D) (cap:Nat):
  let E':Env:={E with w:=w',N:=fun b=>E.N b∨(E.ρ id).b=some b,ρ:=upd E.ρ id ⟨some E.w.heap.size,cap⟩,O:=dw [.kill id] ((id,.arr ts rows' true)::E.O)}
  Step E E' [.kill id]∧(fV E' id (.arr ts rows' true)->OK X (o.grow E.w.heap.size w'.heap.size) E' aG):=by
 intro E'
 have hz:w'.heap.size=E.w.heap.size+1:=by rw[hw];simp
 have same:∀ b,b<E.w.heap.size->w'.heap[b]? =E.w.heap[b]? :=by
  intro b hb
  rw[hw,Array.getElem?_push]
  simp[Nat.ne_of_lt hb]
 have Zu:=lW (es:=[.kill id]) (id:=id) (a':= .arr ts rows' true) (O:=E.O) (fun _=>rfl) rfl
 have XB:look E'.O id=some (.arr ts rows' true):=Zu.1
 have lk:∀ i,i≠id->look E'.O i=(look E.O i).map (jd [.kill id]):=Zu.2
 have hk:Keep E E' fun i=>i=id:=by
  refine⟨fun b hb=>⟨.inl hb,same b (h.zx b hb).1⟩,fun b hb=>⟨hb,same b (h.ltN (.inr (h.fg b hb)))⟩,fun i hi ts' pK wr' hl'=> ?_,fun i cs hl'=> ?_,fun i m hl'=> ?_⟩
  ·exact⟨by rw[lk i hi,hl'];rfl,upd_ne hi,fun b hb=>same b (h.own i b ⟨_,hl',rfl⟩ hb).1⟩
  ·have x:i≠id:=fun x=>by rw[x,hl] at hl';cases hl'
   exact⟨gK [.kill id] cs,by rw[lk i x,hl'];rfl,by show (upd _ _ _ i).b=_;rw[upd_ne x]⟩
  ·have x:i≠id:=fun x=>by rw[x,hl] at hl';cases hl'
   exact⟨m,by rw[lk i x,hl'];rfl,by show (upd _ _ _ i).b=_;rw[upd_ne x]⟩
 have hs:Step E E' [.kill id]:=hk.kill fun deps b e c t f hb hc=>by
  rcases hb with hb|⟨i,hi,hb|⟨ts',pK,wr',hl',hr,he⟩⟩
  ·exact⟨.inl (.inl hb),c,t,f,by rw[same b (h.zx b hb).1,hc],rfl⟩
  ·exact⟨.inr ⟨i,hi,.inl hb⟩,c,t,f,by rw[same b (h.ltN (.inr (h.fg b hb.2))),hc],rfl⟩
  ·have hlt:=(h.own i b ⟨_,hl',rfl⟩ hr).1
   by_cases x:i=id
   ·subst x
    exact⟨.inl (.inr hr),c,t,f,by rw[same b hlt,hc],rfl⟩
   ·exact⟨.inr ⟨i,hi,.inr ⟨ts',pK,wr',(hk.arr i x ts' pK wr' hl').1,by rw[show E'.ρ i=_ from upd_ne x];exact hr,he⟩⟩,c,t,f,by rw[same b hlt,hc],rfl⟩
 refine⟨hs,fun ho=> ?_⟩
 refine h.next hs (fun i=>i=id) (fun b hb=>same b (h.ltN hb)) (by show _<=w'.heap.size;omega) (fun _ hb=> .inl hb) rfl (fun _=> .inl) (fun _=> .inl) (fun b hb=>hb.elim (fun x=> .inl (h.us b x)) .inr) (Nat.le_refl _) ?_ ?_ ?_ ?_
 ·intro i x hi hne
  rw[lk i hne] at hi
  obtain⟨x,hx,rfl⟩:=Option.map_eq_some_iff.1 hi
  refine⟨x,hx,rfl,fun l=>⟨upd_ne hne,fun b' hb'=>⟨?_,same b' (h.own i b' ⟨x,hx,l⟩ hb').1⟩⟩⟩
  rintro (hn|hn)
  ·exact (h.own i b' ⟨x,hx,l⟩ hb').2.1 hn
  ·exact hne (h.inj i id b' ⟨x,hx,l⟩ ⟨_,hl,rfl⟩ hb' hn)
 ·intro i x hi hi'
  subst hi
  rw[XB] at hi'
  cases hi'
  have:=h.num i _ hl
  exact⟨this.1,this.2,ho⟩
 ·intro i b' hi _ hb'
  subst hi
  rw[show E'.ρ i=_ from kK _ _ _] at hb'
  cases hb'
  refine⟨by show _<w'.heap.size;omega,?_,fun x=>Nat.lt_irrefl _ (h.ltN (.inr x)),.inr ⟨Nat.le_refl _,by omega⟩,?_⟩
  ·rintro (hn|hn)
   ·exact Nat.lt_irrefl _ (h.zx _ hn).1
   ·exact Nat.lt_irrefl _ (h.own i _ ⟨_,hl,rfl⟩ hn).1
  ·rintro j ⟨x,hj,l⟩ hj'
   by_cases y:j=i
   ·exact y
   ·rw[lk j y] at hj
    obtain⟨x,hx,rfl⟩:=Option.map_eq_some_iff.1 hj
    rw[pJ] at l
    rw[show E'.ρ j=_ from upd_ne y] at hj'
    exact absurd (h.own j _ ⟨x,hx,l⟩ hj').1 (Nat.lt_irrefl _)
 ·rintro b (hb|hb)
  ·have:=h.zx b hb
   exact⟨by show _<w'.heap.size;omega,.inl this.2.1,this.2.2⟩
  ·have:=h.own id b ⟨_,hl,rfl⟩ hb
   exact⟨by show _<w'.heap.size;omega,.inl (h.us b this.2.2.2),fun g=>absurd g this.2.2.1⟩
theorem ahb{X:Ctx}{o:Ow}{E:Env}{aG id b:Nat}{ts:aC}{rows rows':List ts.D}{wr:Bool}(h:OK X o E aG)(hl:look E.O id=some (.arr ts rows wr))(hb:(E.ρ id).b=some b){w':World}{c c':Array Value}{t:TypeId}{f:Nat×Nat}
  (hc:E.w.heap[b]? =some (.cells c t f)) (hc':w'.heap[b]? =some (.cells c' t f)) (hw:∀ b',b'≠b->w'.heap[b']? =E.w.heap[b']?) (hlen:rows.length<=rows'.length) (heq:c'.toList.take (rows.length*ts.n)=c.toList.take (rows.length*ts.n))
  (wr':Bool) (deps:List Nat):Fix (E.B deps) (Env.B {E with w:=w',O:=dw [.kill id] ((id,.arr ts rows' wr')::E.O)} deps) E.w w':=by
 have hown:=h.own id b ⟨_,hl,rfl⟩ hb
 intro b1 e c1 t1 f1 hb1 hc1
 have lk:=lW (es:=[.kill id]) (id:=id) (a':= .arr ts rows' wr') (O:=E.O) (fun _=>rfl) rfl
 rcases hb1 with hn|⟨i,hi,hn|⟨ts',pK,ahc,hl',hr,he⟩⟩
 ·have:b1≠b:=fun x=>by subst x;exact hown.2.1 hn
  exact⟨.inl hn,c1,t1,f1,by rw[hw b1 this,hc1],rfl⟩
 ·have:b1≠b:=fun x=>by subst x;exact hown.2.2.1 (h.fg b1 hn.2)
  exact⟨.inr ⟨i,hi,.inl hn⟩,c1,t1,f1,by rw[hw b1 this,hc1],rfl⟩
 ·by_cases x:i=id
  ·subst x
   rw[hl] at hl';cases hl'
   rw[hb] at hr;cases hr
   rw[hc] at hc1;cases hc1
   refine⟨.inr ⟨i,hi,.inr ⟨ts,rows',wr',lk.1,hb,Nat.le_trans he (Nat.mul_le_mul_right _ hlen)⟩⟩,c',t,f,hc',?_⟩
   have:=congrArg (List.take e) heq
   rwa [List.take_take,List.take_take,Nat.min_eq_left he] at this
  ·have hne:b1≠b:=fun y=>by subst y;exact x (h.inj i id b1 ⟨_,hl',rfl⟩ ⟨_,hl,rfl⟩ hr hb)
   exact⟨.inr ⟨i,hi,.inr ⟨ts',pK,ahc,by rw[show look _ i=_ from lk.2 i x,hl'];rfl,hr,he⟩⟩,c1,t1,f1,by rw[hw b1 hne,hc1],rfl⟩
end Go.E
end
section
namespace Go.E
def TI.fits(C:kC)(ti:TI):TypeDesc->Prop
 | .pointer e=>ti.kd=1∧ti.agg=false∧ti.elem=e
 | .interface _=>ti.kd=2∧ti.agg=false
 | .func .. =>ti.kd=3∧ti.agg=false
 | .slice e=>ti.kd=4∧ti.agg=false∧ti.elem=e∧(∀ ts,ti.row=some (.one (.sl ts))->∃ te,look C.ty e=some te∧te.row=some ts)
 | .array n e=>ti.kd=5∧ti.agg=true∧ti.len=n∧ti.elem=e
 | .struct fs=>ti.kd=6∧ti.agg=true∧∀ f o ft,qL ti f=some (o,ft)->∃ fl,fs[f]? =some fl∧fl.offset=o∧fl.type=ft
 | .map k v=>ti.kd=7∧ti.agg=false∧ti.elem=k∧ti.len=v
 | .string=>ti.kd=9∧ti.agg=false
 | .bool=>ti.kd=10∧ti.agg=false
 | .int k=>ti.kd=11∧ti.agg=false∧∀ r,ti.row=some r->r= .one (.int k)
 | .named .. =>False
 | _=>ti.kd=0∧ti.agg=false
def scalar(P:Program)(t:TypeId)(c:CT):Bool:=(match P.underlying t,c with
 |some (.int _),.int _=>true
 |some .bool,.bool=>true
 |some .string,.str=>true
 | _,_=>false)&&(match P.info? t with
 |some i=>Nat.beq i.size 1
 |none=>false)
def Iu(P:Program):List Field->Nat->List CT->Bool
 |[],_,[]=>true
 | f :: r,off,c :: cs => !(f.name == "_") && Nat.beq f.offset off && scalar P f.type c && Iu P r (off + 1) cs
 | _,_,_=>false
def rF(P:Program)(e:TypeId):List CT->Bool
 |[]=>true
 |c::r=>scalar P e c&&rF P e r
def Zv(P:Program)(t:TypeId)(cs:List CT):Bool:= !P.eqGuardType P.depth t&&match P.underlying t with
 |some (.struct fs)=> !P.stoodInHeld t&&Iu P fs.toList 0 cs
 |some (.array n e)=>Nat.beq cs.length n&&rF P e cs
 | _=>false
def Iw(P:Program)(t:TypeId)(m:String)(g:FuncId):Bool:=match P.info? t with
 |some i=>match i.methods.find? (·.name==m) with
  |some r=>r.path.toList.isEmpty&&match r.func with
   |some (f,pr)=>Nat.beq f g&&match P.underlying t with
    |some (.pointer _)=>pr
    |some _=> !pr
    |none=>false
   |none=>false
  |none=>false
 |none=>false
structure gU (P:Program) (C:kC):Prop where
 info:∀ t ti,look C.ty t=some ti->∃ i:TypeInfo,P.info? t=some i∧i.size=ti.size∧i.bytes=ti.bytes∧
  (ti.zero.length=ti.size->∃ z:Value,i.zero=some z∧ofValues z.cells.toList=some ti.zero)∧
  (∀ ts,ti.row=some ts->ti.size=ts.n∧0<ti.bytes∧ti.bytes<=65536∧∃ z:Value,i.zero=some z∧∀ w N,ts.rp w N ts.zero z.cells.toList)
 under:∀ t ti,look C.ty t=some ti->∃ d,P.underlying t=some d∧ti.fits C d
 flt:∀ t ti fs,look C.ty t=some ti->P.underlying t=some (.struct fs)->∀ fl∈fs,∃ i,P.info? fl.type=some i
 szs:∀ t i,P.info? t=some i->∀ ti,look C.ty t=some ti->i.size=ti.size
 ahd:∀ t ti,look C.ty t=some ti->ti.fields≠[]->ti.kd=6
 fns : ∀ f fn,look C.fns f = some fn -> P.funcs[f]? = some fn ∧ (fn.name == "runtime.NumGoroutine") = false
 mixed:P.follows .mixedOrders=true
 arr:∀ t ti te ts,look C.ty t=some ti->ti.kd=5->look C.ty ti.elem=some te->te.row=some ts->ti.size=ti.len*ts.n->∃ (i:TypeInfo) (z:Value),P.info? t=some i∧i.zero=some z∧z.cells.size=ti.size∧∀ w N,dV ts.n (ts.rp w N) (List.replicate ti.len ts.zero) z.cells.toList
 cmp:∀ t ti,look C.ty t=some ti->ti.cmp≠[]->Zv P t ti.cmp=true
 meth:∀ t m g,meth C t m=some g->Iw P t m g=true
 zsh:∀ t ti i z,look C.ty t=some ti->P.info? t=some i->i.zero=some z->ti.agg=false->∀ cs,z≠ .agg cs
theorem TI.nD{C:kC}{ti:TI}{d:TypeDesc}(h:ti.fits C d)(k:ti.kd≠0):(ti.kd=1∧d= .pointer ti.elem)∨(ti.kd=2∧∃ m,d= .interface m)∨(ti.kd=3∧∃ a b c,d= .func a b c)∨(ti.kd=4∧d= .slice ti.elem)∨
  (ti.kd=5∧d= .array ti.len ti.elem)∨(ti.kd=6∧∃ fs,d= .struct fs)∨(ti.kd=9∧d= .string)∨(ti.kd=10∧d= .bool)∨(ti.kd=11∧∃ k,d= .int k)∨(ti.kd=7∧d= .map ti.elem ti.len):=by
 cases d<;>simp only[TI.fits] at h
 case pointer e=>obtain⟨a,_,rfl⟩:=h;exact .inl ⟨a,rfl⟩
 case interface m=>exact .inr (.inl ⟨h.1,m,rfl⟩)
 case func a b c=>exact .inr (.inr (.inl ⟨h.1,a,b,c,rfl⟩))
 case slice e=>obtain⟨a,_,rfl,_⟩:=h;exact .inr (.inr (.inr (.inl ⟨a,rfl⟩)))
 case array n e=>obtain⟨a,_,rfl,rfl⟩:=h;exact .inr (.inr (.inr (.inr (.inl ⟨a,rfl⟩))))
 case struct fs=>exact .inr (.inr (.inr (.inr (.inr (.inl ⟨h.1,fs,rfl⟩)))))
 case string=>exact .inr (.inr (.inr (.inr (.inr (.inr (.inl ⟨h.1,rfl⟩))))))
 case bool=>exact .inr (.inr (.inr (.inr (.inr (.inr (.inr (.inl ⟨h.1,rfl⟩)))))))
 case int k=>exact .inr (.inr (.inr (.inr (.inr (.inr (.inr (.inr (.inl ⟨h.1,k,rfl⟩))))))))
 case map k v=>obtain⟨a,_,rfl,rfl⟩:=h;exact .inr (.inr (.inr (.inr (.inr (.inr (.inr (.inr (.inr ⟨a,rfl⟩))))))))
 all_goals exact absurd h.1 k
section
variable {P:Program} {C:kC}
theorem gU.kdU(T:gU P C){t k:Nat}(h:Nat.beq (qK C t) k=true)(hk:k≠0):∃ ti d,look C.ty t=some ti∧ti.kd=k∧P.underlying t=some d∧ti.fits C d:=by
 unfold qK at h
 cases hl:look C.ty t with
 |none=>rw[hl] at h;exact absurd (aeh h).symm hk
 |some ti=>
  rw[hl] at h
  obtain⟨d,h1,h2⟩:=T.under t ti hl
  exact⟨ti,d,rfl,aeh h,h1,h2⟩
theorem gU.D7(T:gU P C){t:Nat}{ts:aC}(h:D7 C t=some ts):∃ ti te,look C.ty t=some ti∧P.underlying t=some (.slice ti.elem)∧look C.ty ti.elem=some te∧te.row=some ts∧ti.kd=4:=by
 unfold Go.E.D7 at h
 cases hl:look C.ty t with
 |none=>rw[hl] at h;cases h
 |some ti=>
  rw[hl] at h
  cases hk:Nat.beq ti.kd 4 with
  |false=>simp[hk] at h
  |true=>
   simp only[hk,cond_true] at h
   have hk:=aeh hk
   obtain⟨d,h1,h2⟩:=T.under t ti hl
   have hd:d= .slice ti.elem:=by
    have:=TI.nD h2 (by rw[hk];decide)
    rw[hk] at this
    simpa using this
   subst hd
   have hrow:ti.row=some (.one (.sl ts)):=by
    split at h
    ·rename_i ts' hr;rw[hr];cases h;rfl
    ·cases h
   obtain⟨te,k1,k2⟩:=h2.2.2.2 ts hrow
   exact⟨ti,te,rfl,h1,k1,k2,hk⟩
theorem gU.Zw(T:gU P C){t:Nat}(h:AZ C t=true):P.underlying t=some .string:=by
 unfold AZ at h
 cases hl:look C.ty t with
 |none=>rw[hl] at h;cases h
 |some ti=>
  rw[hl] at h
  have hk:=aeh h
  obtain⟨d,h1,h2⟩:=T.under t ti hl
  have:=TI.nD h2 (by rw[hk];decide)
  rw[hk] at this
  rw[h1]
  simpa using this
end
theorem gU.field{P:Program}{C:kC}(T:gU P C){t f off ft:Nat}{ti:TI}(hl:look C.ty t=some ti)(hf:qL ti f=some (off,ft)):∃ fs fl,P.underlying t=some (.struct fs)∧fs[f]? =some fl∧fl.offset=off∧fl.type=ft:=by
 have h0:ti.fields≠[]:=fun e=>by
  unfold qL at hf;rw[e] at hf;cases hf
 have hk:=T.ahd t ti hl h0
 obtain⟨d,h1,h2⟩:=T.under t ti hl
 have:=TI.nD h2 (by rw[hk];decide)
 rw[hk] at this
 obtain⟨fs,rfl⟩:∃ fs,d= .struct fs:=by simpa using this
 obtain⟨fl,h3⟩:=h2.2.2 f off ft hf
 exact⟨fs,fl,h1,h3⟩
theorem Fz{E:Env}{v:Value}{x:AV}(h:uQ v=some x):VR E x v:=by
 unfold uQ at h
 split at h<;>first|(cases h;unfold VR;rfl)|(cases h;unfold VR;exact⟨rfl,rfl⟩)|cases h
theorem nN{E:Env}:∀ {l:List Value} {xs:List AV},ofValues l=some xs->dG E xs l
 |[],xs,h=>by cases h;unfold dG;rfl
 |v::r,xs,h=>by
  unfold ofValues at h
  cases h1:uQ v with
  |none=>rw[h1] at h;simp at h
  |some x=>
   cases h2:ofValues r with
   |none=>rw[h1,h2] at h;simp at h
   |some ys=>rw[h1,h2] at h;cases h;unfold dG;exact⟨v,r,rfl,Fz h1,nN h2⟩
theorem TW{E:Env}{v:Value}{x:AV}(h:ofValue v=some x):VR E x v:=by
 unfold ofValue at h
 split at h
 ·rename_i cs
  obtain⟨xs,h1,rfl⟩:=Option.map_eq_some_iff.1 h
  unfold VR
  exact⟨cs.toList,by simp,nN h1⟩
 ·exact Fz h
def rO(E:Env):Prop:=∀ g q,look globs g=some q->VR E (.iE q.ts q.rows [] 0 0) (.pointer (some ⟨g,0,none⟩))
theorem Zx(ts:aC)(rows:List ts.D)(i:Int)(off:Nat)(e:Eff):e.av (.iE ts rows [] i off)= .iE ts rows [] i off:=by cases e<;>rfl
theorem rO.step{E E':Env}{es:List Eff}(h:rO E)(hs:Step E E' es):rO E':=fun g q hg=>by
 have:=hs _ _ (h g q hg)
 rwa [ig (Zx _ _ _ _)] at this
def kD(E:Env)(tm:List (Nat×AV))(tmps:Array Value):Prop:=(∀ t x,look tm t=some x->VR E x (tmps.getD t undef))∧rO E
section
variable {E:Env} {tm:List (Nat×AV)} {a:Act}
theorem dR(h:kD E tm a.tmps){x:Operand}{v:AV}(hv:ev tm x=some v):VR E v (a.eval x):=by
 cases x with
 |tmp t=>exact h.1 t v hv
 |const u=>exact TW hv
 |global g=>
  have hv:(match look globs g with
   |some q=>some (AV.iE q.ts q.rows [] 0 0)
   |none=>none)=some v:=hv
  split at hv
  ·rename_i q hq;cases hv;exact h.2 g q hq
  ·cases hv
 |func f=>
  cases hv
  unfold VR
  exact⟨[],[],rfl,by unfold dG;rfl,by unfold dG;rfl⟩
theorem Bl(h:kD E tm a.tmps):∀ {xs:List Operand} {vs:List AV},evs tm xs=some vs->dG E vs (xs.map a.eval)
 |[],vs,hv=>by cases hv;unfold dG;rfl
 |x::r,vs,hv=>by
  unfold evs at hv
  cases h1:ev tm x with
  |none=>rw[h1] at hv;simp at hv
  |some y=>
   cases h2:evs tm r with
   |none=>rw[h1,h2] at hv;simp at hv
   |some ys=>rw[h1,h2] at hv;cases hv;unfold dG;exact⟨_,_,rfl,dR h h1,Bl h h2⟩
end
variable {E:Env} {tm:List (Nat×AV)} {a:Act}
def wC(o:Ow)(w:World):Nat->Prop:=fun b=>o.u b∨w.heap.size<=b
def vU(o:Ow)(w:World):Nat->Prop:=fun b=>o.s b∨w.heap.size<=b
def Qn(X:Ctx)(o:Ow)(E:Env)(eY:Nat)(O1:bn)(es:List Eff)(v:AV)(nx:Next)(w':World):Prop:=
 ∃ E':Env,E'.w=w'∧E'.F=E.F∧E'.O=dw es O1∧OK X (o.grow E.w.heap.size w'.heap.size) E' eY∧Step E E' es∧(nx= .skip∧v= .undef∨∃ u,nx= .value u∧VR E' v u)
theorem Qn.val{X:Ctx}{o:Ow}{aG:Nat}{v:AV}{u:Value}(h:OK X o E aG)(hv:VR E v u):Qn X o E aG E.O [] v (.value u) E.w:=
 ⟨E,rfl,rfl,rfl,h.grow,Step.refl E,.inr ⟨u,rfl,hv⟩⟩
variable {R:Type} {C:kC} {Rc:ah} {P:Program} {X:Ctx} {o:Ow} {aG:Nat}
def Does(P:Program)(X:Ctx)(o:Ow)(E:Env)(ρ:Operand->Value)(op:Oper)(K:KK R)(r:R):Prop:=
 ∃ v O1 eY es,K v O1 eY es=some r∧acc P (wC o E.w) (vU o E.w) (execOp ρ op) (Qn X o E eY O1 es v) E.w
theorem Does.val{ρ:Operand->Value}{op:Oper}{K:KK R}{r:R}{v:AV}{u:Value}(h:OK X o E aG)(hr:K v E.O aG []=some r)(hv:VR E v u)
  (hx:∀ Q:Next->World->Prop,Q (.value u) E.w->acc P (wC o E.w) (vU o E.w) (execOp ρ op) Q E.w):Does P X o E ρ op K r:=
 ⟨v,E.O,aG,[],hr,hx _ (Qn.val h hv)⟩
theorem aP{R:Type}{p:Prop}[Decidable p]{x:Option R}{r:R}(h:chk p x=some r):p∧x=some r:=by
 unfold chk at h
 split at h
 ·exact⟨‹_›,h⟩
 ·cases h
theorem aX{R:Type}{c:Bool}{x:Option R}{r:R}(h:(bif c then x else none)=some r):c=true∧x=some r:=by
 cases c
 ·cases h
 ·exact⟨rfl,h⟩
theorem gG{R:Type}{c:Bool}{x:Option R}{r:R}(h:(bif c then none else x)=some r):c=false∧x=some r:=by
 cases c
 ·exact⟨rfl,h⟩
 ·cases h
theorem jL{wr rd:Nat->Prop}{s:Sem Value}{Q:Next->World->Prop}{w:World}:acc P wr rd (do pure (Next.value (<- s))) Q w↔acc P wr rd s (fun a w=>Q (.value a) w) w:=by
 rw[ak];exact Iff.rfl
theorem af5{wr rd:Nat->Prop}{s:Sem Unit}{Q:Next->World->Prop}{w:World}:acc P wr rd (do s;pure Next.skip) Q w↔acc P wr rd s (fun _ w=>Q .skip w) w:=by
 rw[ak];exact Iff.rfl
section ops
variable {op:Oper} {K:KK R} {r:R}
theorem V8{x:Operand}(h:OK X o E aG)(ht:kD E tm a.tmps)(hop:op.op= .move x∨op.op= .assign x)(hr:fP C Rc tm E.O aG op K=some r):Does P X o E a.eval op K r:=by
 have hr:(match ev tm x with|some v=>K v E.O aG []|none=>none)=some r:=by
  unfold fP at hr;rcases hop with e|e<;>(rw[e] at hr;exact hr)
 cases hx:ev tm x with
 |none=>rw[hx] at hr;cases hr
 |some v=>
  rw[hx] at hr
  refine Does.val h hr (dR ht hx) fun Q hq=> ?_
  unfold execOp
  rcases hop with e|e<;>(rw[e];exact hq)
theorem aev{c x y:Operand}(h:OK X o E aG)(ht:kD E tm a.tmps)(hop:op.op= .pick c x y)(hr:fP C Rc tm E.O aG op K=some r):Does P X o E a.eval op K r:=by
 unfold fP at hr
 rw[hop] at hr
 dsimp only at hr
 split at hr
 ·rename_i t u v h1 h2 h3
  have e1:=dR ht h1
  unfold VR at e1
  have e2:VR E (if t then u else v) (if t then a.eval x else a.eval y):=by
   cases t
   ·exact dR ht h3
   ·exact dR ht h2
  have hr:K (if t then u else v) E.O aG []=some r:=by cases t<;>exact hr
  refine Does.val h hr e2 fun Q hq=> ?_
  unfold execOp
  rw[hop]
  dsimp only
  rw[ak,e1]
  exact hq
 ·cases hr
theorem QC{fn:Fn}{x y:Array Operand}(h:OK X o E aG)(ht:kD E tm a.tmps)(hop:op.op= .makeFunc fn x y)(hr:fP C Rc tm E.O aG op K=some r):Does P X o E a.eval op K r:=by
 unfold fP at hr
 rw[hop] at hr
 dsimp only at hr
 split at hr
 ·rename_i u v h1 h2
  refine Does.val (u:= .func fn (x.map a.eval) (y.map a.eval)) h hr ?_ fun Q hq=> ?_
  ·unfold VR
   refine⟨x.toList.map a.eval,y.toList.map a.eval,?_,Bl ht h1,Bl ht h2⟩
   congr 1<;>apply Array.ext'<;>simp
  ·unfold execOp
   rw[hop]
   exact hq
 ·cases hr
theorem Et{t:TypeId}{x:Operand}(T:gU P C)(h:OK X o E aG)(ht:kD E tm a.tmps)(hop:op.op= .makeInterface t x)(hr:fP C Rc tm E.O aG op K=some r):Does P X o E a.eval op K r:=by
 unfold fP at hr
 rw[hop] at hr
 dsimp only at hr
 split at hr
 ·rename_i v h1
  obtain⟨hk,hr⟩:=gG hr
  simp only[Bool.or_eq_false_iff] at hk
  obtain⟨hk0,hk2⟩:=hk
  refine Does.val (u:= .iface t (a.eval x)) h hr ?_ fun Q hq=> ?_
  ·unfold VR;exact⟨_,rfl,dR ht h1⟩
  ·unfold execOp
   rw[hop]
   dsimp only
   rw[jL]
   unfold Instr.makeInterface
   rw[ak]
   unfold qK at hk0 hk2
   cases hl:look C.ty t with
   |none=>rw[hl] at hk0;cases hk0
   |some ti=>
    rw[hl] at hk0 hk2
    dsimp only at hk0 hk2
    obtain⟨d,h1,h2⟩:=T.under t ti hl
    rw[aB h1]
    cases d<;>first|exact hq|(obtain⟨e,_⟩:=h2;rw[e] at hk2;cases hk2)
 ·cases hr
theorem QD{x:Operand}(h:OK X o E aG)(ht:kD E tm a.tmps)(hop:op.op= .nilCheck x)(hr:fP C Rc tm E.O aG op K=some r):Does P X o E a.eval op K r:=by
 unfold fP at hr
 rw[hop] at hr
 dsimp only at hr
 split at hr
 all_goals try (cases hr;done)
 all_goals
  rename_i h1
  have e1:=dR ht h1
  refine Does.val h hr e1 fun Q hq=> ?_
  unfold execOp
  rw[hop]
  dsimp only
 ·unfold VR at e1;obtain⟨_,_,_,_,e⟩:=e1;rw[e] at hq ⊢;exact hq
 ·unfold VR at e1;obtain⟨_,_,_,_,_,_,_,_,e⟩:=e1;rw[e] at hq ⊢;exact hq
 ·unfold VR at e1;obtain⟨_,_,_,_,_,_,_,e⟩:=e1;rw[e] at hq ⊢;exact hq
 ·unfold VR at e1;obtain⟨p,q,e,_,_⟩:=e1;rw[e] at hq ⊢;exact hq
theorem TY{x:Operand}{i:Nat}(h:OK X o E aG)(ht:kD E tm a.tmps)(hop:op.op= .extract x i)(hr:fP C Rc tm E.O aG op K=some r):Does P X o E a.eval op K r:=by
 unfold fP at hr
 rw[hop] at hr
 dsimp only at hr
 split at hr
 ·rename_i vs h1
  split at hr
  ·rename_i v h2
   have e1:=dR ht h1
   unfold VR at e1
   obtain⟨l,e,e2⟩:=e1
   obtain⟨u,h3,h4⟩:=NR e2 h2
   refine Does.val h hr h4 fun Q hq=> ?_
   unfold execOp
   rw[hop]
   dsimp only
   rw[jL,e]
   unfold Instr.extract
   simp only[List.getElem?_toArray,h3]
   exact hq
  ·cases hr
 ·cases hr
end ops
end Go.E
end
section
namespace Go.E
variable {P:Program} {E:Env} {wr rd:Nat->Prop} {w:World}
def cellOf:CT->Value->Value->Bool->Prop
 | .int _,x,y,r=>∃ k a b,x= .int k a∧y= .int k b∧r=(a==b)
 | .bool,x,y,r=>∃ a b,x= .bool a∧y= .bool b∧r=(a==b)
 | .str,x,y,r=>∃ a b,x= .string a∧y= .string b∧r=(a==b)
 | .sl _,_,_,_=>False
def cellsOf:List CT->List Value->List Value->Bool->Prop
 |[],xs,ys,r=>xs=[]∧ys=[]∧r=true
 |c::cs,xs,ys,r=>∃ x xs' y ys' r1 r2,xs=x::xs'∧ys=y::ys'∧cellOf c x y r1∧cellsOf cs xs' ys' r2∧r=(r1&&r2)
theorem Zy{k0 k k':IntKind}{a b:Int}{ts:List CT}{xs ys:List AV}{r:Bool}(h:Cm (.int k0::ts) (.int k a::xs) (.int k' b::ys)=some r):k=k'∧∃ r',Cm ts xs ys=some r'∧r=((a==b)&&r'):=by
 have h:(bif xJ k k' then match Cm ts xs ys with
  |some r=>some ((a==b)&&r)
  |none=>none
  else none)=some r:=h
 obtain⟨hk,h⟩:=aX h
 refine⟨vW hk,?_⟩
 split at h
 ·rename_i r' h';cases h;exact⟨r',h',rfl⟩
 ·cases h
theorem XC{a b:Bool}{ts:List CT}{xs ys:List AV}{r:Bool}(h:Cm (.bool::ts) (.bool a::xs) (.bool b::ys)=some r):∃ r',Cm ts xs ys=some r'∧r=((a==b)&&r'):=by
 have h:(match Cm ts xs ys with
  |some r=>some ((a==b)&&r)
  |none=>none)=some r:=h
 split at h
 ·rename_i r' h';cases h;exact⟨r',h',rfl⟩
 ·cases h
theorem Zz{a b:ByteArray}{ts:List CT}{xs ys:List AV}{r:Bool}(h:Cm (.str::ts) (.str a::xs) (.str b::ys)=some r):∃ r',Cm ts xs ys=some r'∧r=((a==b)&&r'):=by
 have h:(match Cm ts xs ys with
  |some r=>some ((a==b)&&r)
  |none=>none)=some r:=h
 split at h
 ·rename_i r' h';cases h;exact⟨r',h',rfl⟩
 ·cases h
theorem Ua:∀ {ts:List CT} {xs ys:List AV} {r:Bool} {l m:List Value},Cm ts xs ys=some r->dG E xs l->dG E ys m->cellsOf ts l m r:=by
 intro ts
 induction ts with
 |nil=>
  intro xs ys r l m h hl hm
  cases xs with
  |cons x xs=>cases ys<;>cases h
  |nil=>cases ys with
   |cons y ys=>cases h
   |nil=>cases h;unfold dG at hl hm;exact⟨hl,hm,rfl⟩
 |cons t ts ih=>
  intro xs ys r l m h hl hm
  cases xs with
  |nil=>cases t<;>cases h
  |cons x xs=>cases ys with
   |nil=>cases t<;>cases x<;>cases h
   |cons y ys=>
    unfold dG at hl hm
    obtain⟨v,l',rfl,hv,hl⟩:=hl
    obtain⟨u,m',rfl,hu,hm⟩:=hm
    cases t with
    |int k0=>
     cases x with
     |int k a=>cases y with
      |int k' b=>
       obtain⟨rfl,r',h',rfl⟩:=Zy h
       unfold VR at hv hu
       exact⟨_,_,_,_,_,_,rfl,rfl,⟨_,_,_,hv,hu,rfl⟩,ih h' hl hm,rfl⟩
      | _=>cases h
     | _=>cases y<;>cases h
    |bool=>
     cases x with
     |bool a=>cases y with
      |bool b=>
       obtain⟨r',h',rfl⟩:=XC h
       unfold VR at hv hu
       exact⟨_,_,_,_,_,_,rfl,rfl,⟨_,_,hv,hu,rfl⟩,ih h' hl hm,rfl⟩
      | _=>cases h
     | _=>cases y<;>cases h
    |str=>
     cases x with
     |str a=>cases y with
      |str b=>
       obtain⟨r',h',rfl⟩:=Zz h
       unfold VR at hv hu
       exact⟨_,_,_,_,_,_,rfl,rfl,⟨_,_,hv,hu,rfl⟩,ih h' hl hm,rfl⟩
      | _=>cases h
     | _=>cases y<;>cases h
    |sl q=>cases x<;>cases y<;>cases h
theorem tY{t:TypeId}{c:CT}(h:scalar P t c=true){xs:Array Value}{i:Nat}{x:Value}(hx:xs[i]? =some x){Q:Value->World->Prop}(hq:Q x w):acc P wr rd (Go.part t xs i) Q w:=by
 unfold scalar at h
 rw[Bool.and_eq_true] at h
 have h1:=h.1
 unfold Go.part
 rw[ak]
 unfold isAgg
 split at h1
 ·rename_i k k' hu
  rw[ak,aB hu]
  dsimp only
  rw[bY]
  simp only[Bool.false_eq_true,if_false,hx]
  exact hq
 ·rename_i hu
  rw[ak,aB hu]
  dsimp only
  rw[bY]
  simp only[Bool.false_eq_true,if_false,hx]
  exact hq
 ·rename_i hu
  rw[ak,aB hu]
  dsimp only
  rw[bY]
  simp only[Bool.false_eq_true,if_false,hx]
  exact hq
 ·cases h1
theorem QE{t:TypeId}{c:CT}(h:scalar P t c=true){Q:Nat->World->Prop}(hq:Q 1 w):acc P wr rd (sizeOf t) Q w:=by
 unfold scalar at h
 rw[Bool.and_eq_true] at h
 have h2:=h.2
 split at h2
 ·rename_i i hi
  rw[fM hi,aeh h2];exact hq
 ·cases h2
theorem LK{t:TypeId}{c:CT}(h:scalar P t c=true){x y:Value}{r:Bool}(hc:cellOf c x y r){d:Nat}{Q:Bool->World->Prop}(hq:Q r w):acc P wr rd (Op.equalIn (d+1) t x y) Q w:=by
 unfold scalar at h
 rw[Bool.and_eq_true] at h
 have h1:=h.1
 unfold Op.equalIn
 split at h1
 ·rename_i k k' hu
  obtain⟨q,a,b,rfl,rfl,rfl⟩:=hc
  rw[ak,aB hu]
  dsimp only
  rw[if_pos rfl]
  exact hq
 ·rename_i hu
  obtain⟨a,b,rfl,rfl,rfl⟩:=hc
  rw[ak,aB hu]
  exact hq
 ·rename_i hu
  obtain⟨a,b,rfl,rfl,rfl⟩:=hc
  rw[ak,aB hu]
  exact hq
 ·cases h1
theorem Ub{t:TypeId}{fs:Array Field}{cs:List CT}(hu:P.underlying t=some (.struct fs))(hs:P.stoodInHeld t=false)(h:Iu P fs.toList 0 cs=true){xs ys:List Value}{r:Bool}(hc:cellsOf cs xs ys r){d:Nat}{Q:Bool->World->Prop}(hq:Q r w):
  acc P wr rd (Op.equalIn (d+2) t (.agg xs.toArray) (.agg ys.toArray)) Q w:=by
 unfold Op.equalIn
 rw[ak,aB hu]
 dsimp only
 rw[ak]
 show acc P wr rd (if P.stoodInHeld t=true then _ else _) _ _
 rw[hs]
 simp only[Bool.false_eq_true,if_false]
 rw[ak, <- Array.forIn_toList]
 have key:∀ (fl:List Field) (off:Nat) (cs:List CT) (p q:List Value) (r:Bool),Iu P fl off cs=true->cellsOf cs p q r->(∀ i,p[i]? =xs[off+i]?)->(∀ i,q[i]? =ys[off+i]?)->
   ∀ (Q:Bool->World->Prop),Q r w->acc P wr rd (forIn fl ((none,()):Option Bool×Unit) fun f r=>do
    if f.name ≠ "_" then
     let a <- Go.part f.type xs.toArray f.offset
     let b <- Go.part f.type ys.toArray f.offset
     let c <- Op.equalIn (d+1) f.type a b
     if (!c)=true then pure (ForInStep.done (some false,())) else pure (ForInStep.yield (none,()))
    else pure (ForInStep.yield (none,()))) (fun a w=>acc P wr rd (match a.fst with|none=>pure true|some a=>pure a) Q w) w:=by
  intro fl
  induction fl with
  |nil=>
   intro off cs p q r h1 h2 _ _ Q hq
   cases cs with
   |nil=>
    obtain⟨_,_,rfl⟩:=h2
    rw[List.forIn_nil,bY];exact hq
   |cons c cs=>cases h1
  |cons f fl ih=>
   intro off cs p q r h1 h2 hp hq' Q hq
   cases cs with
   |nil=>cases h1
   |cons c cs=>
    simp only[Iu,Bool.and_eq_true] at h1
    obtain⟨⟨⟨n1,n2⟩,n3⟩,n4⟩:=h1
    have n2:=aeh n2
    have n1 : f.name ≠ "_" := by intro e; rw [e] at n1; simp at n1
    obtain⟨x,p',y,q',r1,r2,rfl,rfl,hc1,hc2,rfl⟩:=h2
    have hx:xs.toArray[f.offset]? =some x:=by have:=hp 0;rw[n2];simpa using this.symm
    have hy:ys.toArray[f.offset]? =some y:=by have:=hq' 0;rw[n2];simpa using this.symm
    rw[List.forIn_cons,ak]
    rw[if_pos n1,ak]
    refine tY n3 hx ?_
    rw[ak]
    refine tY n3 hy ?_
    rw[ak]
    refine LK n3 hc1 ?_
    cases r1 with
    |false=>
     simp only[Bool.not_false,if_true]
     rw[bY]
     dsimp only
     rw[bY]
     exact hq
    |true=>
     simp only[Bool.not_true,Bool.false_eq_true,if_false]
     rw[bY]
     dsimp only
     refine ih (off+1) cs p' q' r2 n4 hc2 (fun i=> ?_) (fun i=> ?_) Q (by simpa using hq)
     ·have:=hp (i+1)
      rw[show off+(i+1)=off+1+i by omega] at this
      simpa using this
     ·have:=hq' (i+1)
      rw[show off+(i+1)=off+1+i by omega] at this
      simpa using this
 refine xP (key fs.toList 0 cs xs ys r h hc (fun i=>by simp) (fun i=>by simp) Q hq) fun a w' hw=> ?_
 obtain⟨a1,_⟩:=a
 cases a1<;>exact hw
theorem XD{t e:TypeId}{n:Nat}{cs:List CT}(hu:P.underlying t=some (.array n e))(hn:cs.length=n)(h:rF P e cs=true){xs ys:List Value}{r:Bool}(hc:cellsOf cs xs ys r)(h0:cs≠[]){d:Nat}{Q:Bool->World->Prop}(hq:Q r w):
  acc P wr rd (Op.equalIn (d+2) t (.agg xs.toArray) (.agg ys.toArray)) Q w:=by
 obtain⟨c0,cs0,rfl⟩:∃ c r,cs=c::r:=by cases cs with|nil=>exact absurd rfl h0|cons c r=>exact⟨c,r,rfl⟩
 have hsc:scalar P e c0=true:=by
  simp only[rF,Bool.and_eq_true] at h;exact h.1
 unfold Op.equalIn
 rw[ak,aB hu]
 dsimp only
 rw[ak]
 refine QE hsc ?_
 simp only[Std.Legacy.Range.forIn_eq_forIn_range',Std.Legacy.Range.size,Nat.sub_zero,Nat.add_one_sub_one,Nat.div_one]
 rw[ak]
 have key:∀ (cs:List CT) (off:Nat) (p q:List Value) (r:Bool),rF P e cs=true->cellsOf cs p q r->(∀ i,p[i]? =xs[off+i]?)->(∀ i,q[i]? =ys[off+i]?)->
   ∀ (Q:Bool->World->Prop),Q r w->acc P wr rd (forIn (List.range' off cs.length) ((none,()):Option Bool×Unit) fun i r=>do
     let a <- Go.part e xs.toArray (i*1)
     let b <- Go.part e ys.toArray (i*1)
     let c <- Op.equalIn (d+1) e a b
     if (!c)=true then pure (ForInStep.done (some false,())) else pure (ForInStep.yield (none,()))) (fun a w=>acc P wr rd (match a.fst with|none=>pure true|some a=>pure a) Q w) w:=by
  intro cs
  induction cs with
  |nil=>
   intro off p q r h1 h2 _ _ Q hq
   obtain⟨_,_,rfl⟩:=h2
   rw[List.length_nil,List.range'_zero,List.forIn_nil,bY];exact hq
  |cons c cs ih=>
   intro off p q r h1 h2 hp hq' Q hq
   simp only[rF,Bool.and_eq_true] at h1
   obtain⟨n3,n4⟩:=h1
   obtain⟨x,p',y,q',r1,r2,rfl,rfl,hc1,hc2,rfl⟩:=h2
   have hx:xs.toArray[off*1]? =some x:=by have:=hp 0;simpa using this.symm
   have hy:ys.toArray[off*1]? =some y:=by have:=hq' 0;simpa using this.symm
   rw[List.length_cons,List.range'_succ,List.forIn_cons,ak]
   rw[ak]
   refine tY n3 hx ?_
   rw[ak]
   refine tY n3 hy ?_
   rw[ak]
   refine LK n3 hc1 ?_
   cases r1 with
   |false=>
    simp only[Bool.not_false,if_true]
    rw[bY]
    dsimp only
    rw[bY]
    exact hq
   |true=>
    simp only[Bool.not_true,Bool.false_eq_true,if_false]
    rw[bY]
    dsimp only
    refine ih (off+1) p' q' r2 n4 hc2 (fun i=> ?_) (fun i=> ?_) Q (by simpa using hq)
    ·have:=hp (i+1)
     rw[show off+(i+1)=off+1+i by omega] at this
     simpa using this
    ·have:=hq' (i+1)
     rw[show off+(i+1)=off+1+i by omega] at this
     simpa using this
 subst hn
 refine xP (key (c0::cs0) 0 xs ys r h hc (fun i=>by simp) (fun i=>by simp) Q hq) fun a w' hw=> ?_
 obtain⟨a1,_⟩:=a
 cases a1<;>exact hw
theorem cmp_eq{t:TypeId}{cs:List CT}(h:Zv P t cs=true)(h0:cs≠[]){xs ys:List Value}{r:Bool}(hc:cellsOf cs xs ys r):
  P.eqGuardType P.depth t=false∧∀ {Q:Bool->World->Prop},Q r w->acc P wr rd (Op.equalIn (9999+1) t (.agg xs.toArray) (.agg ys.toArray)) Q w:=by
 unfold Zv at h
 rw[Bool.and_eq_true] at h
 obtain⟨g,h⟩:=h
 refine⟨by simpa using g,fun {Q} hq=> ?_⟩
 split at h
 ·rename_i fs hu
  rw[Bool.and_eq_true] at h
  exact Ub hu (by simpa using h.1) h.2 hc hq
 ·rename_i n e hu
  rw[Bool.and_eq_true] at h
  exact XD hu (aeh h.1) h.2 hc h0 hq
 ·cases h
end Go.E
end
