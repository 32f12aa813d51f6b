/- What the data are on which functions are reckoned. -/
import GoSem.Step
section
theorem abJ{α:Type _}{β:Type _}{a:α}{f:α→Option β}:(some a).bind f=f a:=rfl
theorem aee{α:Type _}{a:α}{l:List α}:a∈a::l:=List.mem_cons_self
theorem adh{α:Type _}{a:α}{s t:List α}:a∈s++t↔a∈s∨a∈t:=List.mem_append
theorem aef{α:Type _}(y:α){a:α}{l:List α}(h:a∈l):a∈y::l:=List.mem_cons_of_mem y h
theorem aeh{n m:Nat}(h:Nat.beq n m=true):n=m:=Nat.eq_of_beq_eq_true h
theorem aeg(n:Nat):((n:Int)).toNat=n:=Int.toNat_natCast n
theorem ath{n m:Nat}(h:Nat.beq n m=false):n≠m:=Nat.ne_of_beq_eq_false h
end
section
namespace Go.E
mutual
inductive CT where
 |int (k:IntKind)|bool|str|sl (ts:aC)
inductive aC where
 |one (t:CT)|cons (t:CT) (ts:aC)
end
mutual
def CT.D:CT->Type
 | .int _=>Int| .bool=>Bool| .str=>ByteArray| .sl ts=>List ts.D
def aC.D:aC->Type
 | .one t=>t.D| .cons t ts=>t.D×ts.D
end
def aC.n:aC->Nat
 | .one _=>1| .cons _ ts=>ts.n+1
def xJ:IntKind->IntKind->Bool
 | .i8,.i8| .i16,.i16| .i32,.i32| .i64,.i64| .u8,.u8| .u16,.u16| .u32,.u32| .u64,.u64=>true
 | _,_=>false
mutual
def CT.beq:CT->CT->Bool
 | .int k,.int k'=>xJ k k'
 | .bool,.bool=>true
 | .str,.str=>true
 | .sl a,.sl b=>a.beq b
 | _,_=>false
def aC.beq:aC->aC->Bool
 | .one a,.one b=>a.beq b
 | .cons a x,.cons b y=>a.beq b&&x.beq y
 | _,_=>false
end
theorem vW{a b:IntKind}(h:xJ a b=true):a=b:=by cases a<;>cases b<;>first|rfl|cases h
mutual
theorem CT.beq_eq:∀ {a b:CT},a.beq b=true->a=b
 | .int k,.int k',h=>by rw[vW (a:=k) (b:=k') (by simpa [CT.beq] using h)]
 | .bool,.bool,_=>rfl
 | .str,.str,_=>rfl
 | .sl a,.sl b,h=>by rw[aC.beq_eq (a:=a) (b:=b) (by simpa [CT.beq] using h)]
 | .int _,.bool,h| .int _,.str,h| .int _,.sl _,h| .bool,.int _,h| .bool,.str,h| .bool,.sl _,h
 | .str,.int _,h| .str,.bool,h| .str,.sl _,h| .sl _,.int _,h| .sl _,.bool,h| .sl _,.str,h=>by simp[CT.beq] at h
theorem aC.beq_eq:∀ {a b:aC},a.beq b=true->a=b
 | .one a,.one b,h=>by rw[CT.beq_eq (a:=a) (b:=b) (by simpa [aC.beq] using h)]
 | .cons a x,.cons b y,h=>by
  have h:a.beq b=true∧x.beq y=true:=by simpa [aC.beq] using h
  rw[CT.beq_eq h.1,aC.beq_eq h.2]
 | .one _,.cons _ _,h| .cons _ _,.one _,h=>by simp[aC.beq] at h
end
def lu(a b:aC)(rows:List a.D):Option (List b.D):=
 if h:a.beq b=true then some (aC.beq_eq h▸rows) else none
inductive AV where
 |int (k:IntKind) (n:Int)|bool (b:Bool)|str (s:ByteArray)
 |aT|ro (ts:aC) (rows:List ts.D) (deps:List Nat)|own (id:Nat)
 |kF|ptr (id off:Nat)|gX (id:Nat) (i:Int) (off:Nat)|iE (ts:aC) (rows:List ts.D) (deps:List Nat) (i:Int) (off:Nat)
 |jo|func (fn:Fn) (first captured:List AV)
 |nZ|iface (t:TypeId) (v:AV)
 |agg (cs:List AV)|AY (vs:List AV)
 |undef|dead
 |mp (id:Nat)
 |raw (v:Value)
 |sub (id:Nat) (lo hi:Int)
inductive Ih where
 |lit (kt:CT) (es:List (kt.D×AV))
 |dat (kt vt:CT) (es:List (kt.D×vt.D))
inductive AO where
 |box (cs:List AV)
 |arr (ts:aC) (rows:List ts.D) (wr:Bool)
 |dead
 |map (m:Ih)
abbrev bn:=List (Nat×AO)
def look{α:Type}:List (Nat×α)->Nat->Option α
 |[],_=>none
 |(j,x)::r,i=>bif Nat.beq j i then some x else look r i
def nth{α:Type}:List α->Nat->Option α
 |[],_=>none
 |x::_,0=>some x
 | _::r,i+1=>nth r i
mutual
def CT.av:(t:CT)->t.D->AV
 | .int k,d=> .int k d
 | .bool,d=> .bool d
 | .str,d=> .str d
 | .sl ts,d=> .ro ts d []
end
def aC.oZ:(ts:aC)->ts.D->List AV
 | .one t,d=>[t.av d]
 | .cons t ts,d=>t.av d.1::ts.oZ d.2
def CT.jq(O:bn):(t:CT)->AV->Option t.D
 | .int k,.int k' n=>bif xJ k k' then some n else none
 | .bool,.bool b=>some b
 | .str,.str s=>some s
 | .sl _,.aT=>some []
 | .sl ts,.ro ts' rows _=>lu ts' ts rows
 | .sl ts,.own id=>match look O id with
  |some (.arr ts' rows _)=>lu ts' ts rows
  | _=>none
 | _,_=>none
def aC.iL(O:bn):(ts:aC)->List AV->Option ts.D
 | .one t,[x]=>t.jq O x
 | .cons t ts,x::xs=>match t.jq O x,ts.iL O xs with
  |some d,some e=>some (d,e)
  | _,_=>none
 | _,_=>none
def CT.zero:(t:CT)->t.D
 | .int _=>(0:Int)
 | .bool=>false
 | .str=>ByteArray.empty
 | .sl _=>[]
def aC.zero:(ts:aC)->ts.D
 | .one t=>t.zero
 | .cons t ts=>(t.zero,ts.zero)
def aC.put(O:bn):(ts:aC)->ts.D->Nat->AV->Option ts.D
 | .one t,_,0,x=>t.jq O x
 | .cons t _,d,0,x=>(t.jq O x).map fun e=>(e,d.2)
 | .cons _ ts,d,i+1,x=>(ts.put O d.2 i x).map fun e=>(d.1,e)
 | _,_,_,_=>none
def aC.puts(O:bn)(ts:aC):ts.D->Nat->List AV->Option ts.D
 |d,_,[]=>some d
 |d,i,x::xs=>match ts.put O d i x with
  |some e=>puts O ts e (i+1) xs
  |none=>none
inductive Eff where
 |kill (id:Nat)
 |shut (id:Nat) (ts:aC) (rows:List ts.D)
 |dO (id:Nat)
def dN(id:Nat):List Nat->Bool
 |[]=>false
 |j::r=>bif Nat.beq j id then true else dN id r
def vX(id:Nat):List Nat->List Nat
 |[]=>[]
 |j::r=>bif Nat.beq j id then vX id r else j::vX id r
def Eff.own(e:Eff)(j:Nat):AV:=match e with
 | .kill id=>bif Nat.beq j id then .dead else .own j
 | .shut id ts rows=>bif Nat.beq j id then .ro ts rows [] else .own j
 | .dO _=> .own j
def Eff.ro(e:Eff)(ts:aC)(rows:List ts.D)(deps:List Nat):AV:=match e with
 | .shut id _ _=> .ro ts rows (vX id deps)
 | .dO id=>bif dN id deps then .dead else .ro ts rows deps
 | .kill _=> .ro ts rows deps
def Eff.iE(e:Eff)(ts:aC)(rows:List ts.D)(deps:List Nat)(i:Int)(off:Nat):AV:=match e with
 | .shut id _ _=> .iE ts rows (vX id deps) i off
 | .dO id=>bif dN id deps then .dead else .iE ts rows deps i off
 | .kill _=> .iE ts rows deps i off
def Eff.gX(e:Eff)(j:Nat)(i:Int)(off:Nat):AV:=match e with
 | .kill id=>bif Nat.beq j id then .dead else .gX j i off
 | .shut id ts rows=>bif Nat.beq j id then .iE ts rows [] i off else .gX j i off
 | .dO _=> .gX j i off
def Eff.sub(e:Eff)(j:Nat)(lo hi:Int):AV:=match e with
 | .kill id=>bif Nat.beq j id then .dead else .sub j lo hi
 | .shut id _ _=>bif Nat.beq j id then .dead else .sub j lo hi
 | .dO _=> .sub j lo hi
mutual
def Eff.av(e:Eff):AV->AV
 | .agg cs=> .agg (e.oZ cs)
 | .AY cs=> .AY (e.oZ cs)
 | .func fn a b=> .func fn (e.oZ a) (e.oZ b)
 | .iface t v=> .iface t (e.av v)
 | .own j=>e.own j
 | .ro ts rows deps=>e.ro ts rows deps
 | .iE ts rows deps i off=>e.iE ts rows deps i off
 | .gX j i off=>e.gX j i off
 | .sub j lo hi=>e.sub j lo hi
 | .int k n=> .int k n
 | .bool b=> .bool b
 | .str s=> .str s
 | .aT=> .aT
 | .kF=> .kF
 | .ptr i o=> .ptr i o
 | .jo=> .jo
 | .nZ=> .nZ
 | .undef=> .undef
 | .dead=> .dead
 | .mp i=> .mp i
 | .raw v=> .raw v
def Eff.oZ(e:Eff):List AV->List AV
 |[]=>[]
 |v::r=>e.av v::e.oZ r
end
def Eff.tm(e:Eff):List (Nat×AV)->List (Nat×AV)
 |[]=>[]
 |(i,v)::r=>(i,e.av v)::e.tm r
def Eff.objs(e:Eff):bn->bn
 |[]=>[]
 |(i,.box cs)::r=>(i,.box (e.oZ cs))::e.objs r
 |x::r=>x::e.objs r
structure TI where
 size:Nat
 agg:Bool:=false
 bytes:Nat
 fields:List (Nat×Nat):=[]
 elem:Nat:=0
 len:Nat:=0
 zero:List AV:=[]
 row:Option aC:=none
 kd:Nat:=0
 cmp:List CT:=[]
inductive Md where
 |ro|leak|mv
inductive Sh where
 |one (t:CT)|agg (ts:aC)|rP|st (ts:aC)
def Sh.D:Sh->Type
 | .one t=>t.D| .agg ts=>ts.D| .rP=>Unit| .st ts=>ts.D
structure PT where
 sh:Sh
 md:List Md:=[]
def He:List PT->Type
 |[]=>Unit
 |[p]=>p.sh.D
 |p::q::r=>p.sh.D×He (q::r)
structure dX where
 ps:List PT
 rs:List PT
 lk:Bool:=false
abbrev dX.A(s:dX):Type:=He s.ps
abbrev dX.B(s:dX):Type:=He s.rs
inductive It where
 |code (c:Code)|inBlock (id:Nat)|inLoop (body:Code)|ops (all:List Oper) (rest:List Oper)
 |drawn (pins:Option (List Nat)) (all:List Oper) (rest:List (Nat×List Nat)) (watch:List (Nat×List Nat×List Nat×List Nat)) (base:Nat)
 |wait (pins:List Nat) (all:List Oper) (i:Nat) (rest:List (Nat×List Nat))
structure Fr where
 fn:FuncId
 tm:List (Nat×AV)
 td:List It
structure St where
 cur:Fr
 callers:List Fr
 objs:bn
 aG:Nat
 bx:List Nat
inductive Loc where
 |slot (d i:Nat)|cell (l:Loc) (c:Nat)
structure dB where
 raw:Bool:=false
 keep:List (List Nat)
 ros:List (Loc×aC×Bool):=[]
 Eb:List (Loc×Option aC):=[]
structure Cut where
 fn:Nat
 reg:Nat
 path:Option (List (Nat×Nat))
 tmpl:dB
 fns:List (Loc×Nat):=[]
structure aek where
 fn:Nat
 reg:Nat
 nV:List (List (Nat×List Nat))
 pins:Option (List Nat):=none
structure kC where
 ty:List (Nat×TI)
 fns:List (Nat×Func)
 sig:List (Nat×dX)
 cuts:List Cut
 nV:List aek
 subs:List Nat:=[]
 Qq:List (Nat×List (String×FuncId)):=[]
 Zi:List Nat:=[]
abbrev ah:=FuncId->(s:dX)->s.A->Option s.B
end Go.E
end
section
namespace Go.E
structure Glob where
 ts:aC
 rows:List ts.D
def pow10:List Int:=[1,10,100,1000,10000,100000,1000000,10000000,100000000,1000000000,10000000000,100000000000,1000000000000,10000000000000,100000000000000,1000000000000000,10000000000000000,100000000000000000,1000000000000000000,10000000000000000000]
def globs:List (Nat×Glob):=[(4,⟨.one (.int .u64),pow10⟩)]
end Go.E
end
section
namespace Go.E
def uQ:Value->Option AV
 | .int k n=>some (.int k n)
 | .bool b=>some (.bool b)
 | .string s=>some (.str s)
 | .pointer none=>some .kF
 | .slice none 0 0=>some .aT
 | .nilFunc=>some .jo
 | .map none=>some (.raw (.map none))
 | .nilIface=>some .nZ
 | _=>none
def ofValues:List Value->Option (List AV)
 |[]=>some []
 |v::r=>match uQ v,ofValues r with
  |some x,some xs=>some (x::xs)
  | _,_=>none
def ofValue:Value->Option AV
 | .agg cs=>(ofValues cs.toList).map .agg
 |v=>uQ v
def ev(tm:List (Nat×AV)):Operand->Option AV
 | .tmp t=>look tm t
 | .const v=>ofValue v
 | .func f=>some (.func (.func f) [] [])
 | .global g=>match look globs g with
  |some q=>some (.iE q.ts q.rows [] 0 0)
  |none=>none
def evs(tm:List (Nat×AV)):List Operand->Option (List AV)
 |[]=>some []
 |x::r=>match ev tm x,evs tm r with
  |some v,some vs=>some (v::vs)
  | _,_=>none
def KR(tm:List (Nat×AV)):List (Nat×Operand)->Option (List (Nat×AV))
 |[]=>some []
 |(i,x)::r=>match ev tm x,KR tm r with
  |some v,some vs=>some ((i,v)::vs)
  | _,_=>none
def AV.cells:AV->List AV
 | .agg cs=>cs
 |v=>[v]
def takeN{α:Type}:Nat->List α->Option (List α)
 |0,_=>some []
 |n+1,x::r=>(takeN n r).map (x:: ·)
 | _+1,[]=>none
def rQ{α:Type}:Nat->List α->List α
 |0,l=>l
 | _+1,[]=>[]
 |n+1,_::r=>rQ n r
def part(agg:Bool)(n off:Nat)(cs:List AV):Option AV:=
 match takeN n (rQ off cs) with
 |some l=>bif agg then some (.agg l) else match l with
  |[x]=>some x
  | _=>none
 |none=>none
def setCells:List AV->Nat->List AV->Option (List AV)
 |cs,0,[]=>some cs
 | _::cs,0,v::vs=>(setCells cs 0 vs).map (v:: ·)
 |c::cs,n+1,vs=>(setCells cs n vs).map (c:: ·)
 |[],_,_=>none
def aW(s:ByteArray)(i:Int):Int:=match s[i.toNat]? with|some b=>(b.toNat:Int)|none=>0
def tK(s:ByteArray):List Int:=s.data.toList.map fun b=>(b.toNat:Int)
def bU(l:List Int):ByteArray:=⟨(l.map fun n=>UInt8.ofNat n.toNat).toArray⟩
def zl{α:Type}:List α->Nat->α->List α
 |[],_,_=>[]
 | _::r,0,y=>y::r
 |x::r,i+1,y=>x::zl r i y
def sel{α:Type}(b:Bool)(x y:α):α:=match b with
 |true=>x
 |false=>y
def chk{R:Type}(p:Prop)[Decidable p](x:Option R):Option R:=if p then x else none
section
variable {R:Type} (C:kC) (Rc:ah)
abbrev KK(R:Type):=AV->bn->Nat->List Eff->Option R
def nodup:List Nat->Bool
 |[]=>true
 |x::r=> !dN x r&&nodup r
structure Rows where
 ts:aC
 rows:List ts.D
 deps:List Nat
def rowsOf(O:bn):AV->Option Rows
 | .ro ts rows deps=>some ⟨ts,rows,deps⟩
 | .own id=>match look O id with
  |some (.arr ts rows _)=>some ⟨ts,rows,[id]⟩
  | _=>none
 | .sub id lo hi=>match look O id with
  |some (.arr ts rows _)=>some ⟨ts,(rows.take hi.toNat).drop lo.toNat,[id]⟩
  | _=>none
 | _=>none
def kY(O:bn):List Nat->Option (List Eff)
 |[]=>some []
 |id::r=>match look O id,kY O r with
  |some (.arr ts rows _),some l=>some (.shut id ts rows::l)
  | _,_=>none
def Ed(O:bn):AV->Option (List Eff)
 | .own id=>kY O [id]
 | .ro _ _ deps=>kY O deps
 | _=>some []
def og(O:bn):List AV->Option (List Eff)
 |[]=>some []
 |v::r=>match Ed O v,og O r with
  |some a,some b=>some (a++b)
  | _,_=>none
def nM(place:Nat->Option (Nat×Nat)):List AV->List (Nat×AV)->Option (List AV)
 |cs,[]=>some cs
 |cs,(i,v)::r=>match place i with
  |some (off,n)=>match setCells cs off v.cells with
   |some cs'=>bif Nat.beq v.cells.length n then nM place cs' r else none
   |none=>none
  |none=>none
def oh(O:bn)(ts:aC):List ts.D->List (Nat×AV)->Option (List ts.D)
 |rs,[]=>some rs
 |rs,(i,v)::r=>match ts.iL O v.cells with
  |some d=>bif Nat.blt i rs.length then oh O ts (zl rs i d) r else none
  |none=>none
def Cm:List CT->List AV->List AV->Option Bool
 |[],[],[]=>some true
 | .int _::ts,.int k a::xs,.int k' b::ys=>bif xJ k k' then match Cm ts xs ys with
  |some r=>some ((a==b)&&r)
  |none=>none
  else none
 | .bool::ts,.bool a::xs,.bool b::ys=>match Cm ts xs ys with
  |some r=>some ((a==b)&&r)
  |none=>none
 | .str::ts,.str a::xs,.str b::ys=>match Cm ts xs ys with
  |some r=>some ((a==b)&&r)
  |none=>none
 | _,_,_=>none
def aeq(kd:Nat)(cmp:List CT)(lit:Bool)(O:bn)(x y:AV)(K:Bool->Option R):Option R:=
 match x,y with
 | .agg xs,.agg ys=>match cmp with
  |[]=>none
  |ts=>match Cm ts xs ys with
   |some b=>K b
   |none=>none
 | .bool a,.bool b=>bif Nat.beq kd 10 then K (a==b) else none
 | .kF,.kF=>bif Nat.beq kd 1 then K true else none
 | .kF,.ptr _ _| .ptr _ _,.kF=>bif Nat.beq kd 1 then K false else none
 | .nZ,.nZ=>bif Nat.beq kd 2&&lit then K true else none
 | .nZ,.iface _ _| .iface _ _,.nZ=>bif Nat.beq kd 2 then K false else none
 | .raw (.map none),.raw (.map none)=>bif Nat.beq kd 7 then K true else none
 | .mp _,.raw (.map none)=>bif Nat.beq kd 7 then K false else none
 | .jo,.jo=>bif Nat.beq kd 3 then K true else none
 | .jo,.func _ _ _| .func _ _ _,.jo=>bif Nat.beq kd 3 then K false else none
 | .aT,.aT=>bif Nat.beq kd 4 then K true else none
 | .own id,.aT=>match look O id with
  |some (.arr _ rows _)=>bif Nat.beq kd 4 then chk (0<rows.length) (K false) else none
  | _=>none
 | .ro _ rows _,.aT=>bif Nat.beq kd 4 then chk (0<rows.length) (K false) else none
 | _,_=>none
def Ii(op:BinOp)(k:IntKind)(x y:Int)(K:AV->Option R):Option R:=
 match op with
 | .add=>K (.int k (k.wrap (x+y)))
 | .sub=>K (.int k (k.wrap (x-y)))
 | .mul=>K (.int k (k.wrap (x*y)))
 | .quo=>chk (¬ y=0) (K (.int k (k.wrap (x.tdiv y))))
 | .rem=>chk (¬ y=0) (K (.int k (x.tmod y)))
 | .and=>K (.int k (k.wrap (BitVec.ofInt k.bits x&&&BitVec.ofInt k.bits y).toNat))
 | .or=>K (.int k (k.wrap (BitVec.ofInt k.bits x|||BitVec.ofInt k.bits y).toNat))
 | .xor=>K (.int k (k.wrap (BitVec.ofInt k.bits x^^^BitVec.ofInt k.bits y).toNat))
 | .andNot=>K (.int k (k.wrap (BitVec.ofInt k.bits x&&& ~~~ BitVec.ofInt k.bits y).toNat))
 | .eql=>K (.bool (x==y))
 | .neq=>K (.bool (x !=y))
 | .lss=>K (.bool (decide (x<y)))
 | .leq=>K (.bool (decide (x<=y)))
 | .gtr=>K (.bool (decide (x>y)))
 | .geq=>K (.bool (decide (x≥y)))
 | _=>none
def rU(left:Bool)(k:IntKind)(x y:Int)(K:AV->Option R):Option R:=
 chk (0<=y) (bif left then K (.int k (k.wrap (x*2^min y.toNat k.bits))) else K (.int k (x.fdiv (2^min y.toNat k.bits))))
def NC(op:BinOp)(x y:ByteArray)(K:AV->Option R):Option R:=
 match op with
 | .add=>chk (x.size+y.size<=9223372036854775807) (K (.str (x++y)))
 | .eql=>K (.bool (x.toList==y.toList))
 | .neq=>K (.bool (!(x.toList==y.toList)))
 | .lss=>K (.bool (Op.bytesLess x.toList y.toList))
 | .leq=>K (.bool (Op.bytesLess x.toList y.toList||x.toList==y.toList))
 | .gtr=>K (.bool (!(Op.bytesLess x.toList y.toList||x.toList==y.toList)))
 | .geq=>K (.bool (!Op.bytesLess x.toList y.toList))
 | _=>none
def CB(kd:Nat)(cmp:List CT)(lit:Bool)(O:bn)(op:BinOp)(x y:AV)(K:AV->Option R):Option R:=
 match op,x,y with
 | .shl,.int k a,.int _ b=>rU true k a b K
 | .shr,.int k a,.int _ b=>rU false k a b K
 |op,.int k a,.int k' b=>bif xJ k k' then Ii op k a b K else none
 |op,.str a,.str b=>NC op a b K
 | .eql,x,y=>aeq kd cmp lit O x y fun t=>K (.bool t)
 | .neq,x,y=>aeq kd cmp lit O x y fun t=>K (.bool (!t))
 | _,_,_=>none
def kG{α:Type}(rows:List α)(lo hi:Option AV)(K:List α->Option R):Option R:=
 match lo,hi with
 |none,none=>K rows
 |some (.int _ l),none=>chk (0<=l) (chk (l<=(rows.length:Int)) (K (rows.drop l.toNat)))
 |none,some (.int _ h)=>chk (0<=h) (chk (h<=(rows.length:Int)) (K (rows.take h.toNat)))
 |some (.int _ l),some (.int _ h)=>chk (0<=l) (chk (l<=h) (chk (h<=(rows.length:Int)) (K ((rows.take h.toNat).drop l.toNat))))
 | _,_=>none
def jA(len:Nat)(lo hi:Option AV)(K:Int->Int->Option R):Option R:=
 match lo,hi with
 |none,none=>K 0 len
 |some (.int _ l),none=>chk (0<=l) (chk (l<=(len:Int)) (K l len))
 |none,some (.int _ h)=>chk (0<=h) (chk (h<=(len:Int)) (K 0 h))
 |some (.int _ l),some (.int _ h)=>chk (0<=l) (chk (l<=h) (chk (h<=(len:Int)) (K l h)))
 | _,_=>none
def rV(s:ByteArray)(lo hi:Option AV)(K:ByteArray->Option R):Option R:=
 match lo,hi with
 |none,none=>K (s.extract 0 s.size)
 |some (.int _ l),none=>chk (0<=l) (chk (l<=(s.size:Int)) (K (s.extract l.toNat s.size)))
 |none,some (.int _ h)=>chk (0<=h) (chk (h<=(s.size:Int)) (K (s.extract 0 h.toNat)))
 |some (.int _ l),some (.int _ h)=>chk (0<=l) (chk (l<=h) (chk (h<=(s.size:Int)) (K (s.extract l.toNat h.toNat))))
 | _,_=>none
def D7(t:Nat):Option aC:=match look C.ty t with
 |some ti=>bif Nat.beq ti.kd 4 then match ti.row with
  |some (.one (.sl ts))=>some ts
  | _=>none else none
 |none=>none
def AZ(t:Nat):Bool:=match look C.ty t with
 |some ti=>Nat.beq ti.kd 9
 |none=>false
def qK(t:Nat):Nat:=match look C.ty t with
 |some ti=>ti.kd
 |none=>0
def Qr(t:Nat):List CT:=match look C.ty t with
 |some ti=>ti.cmp
 |none=>[]
def uS(t:Nat):Option (aC×Nat):=match look C.ty t with
 |some ti=>bif Nat.beq ti.kd 5 then match look C.ty ti.elem with
  |some te=>match te.row with
   |some ts=>bif Nat.beq ti.size (ti.len*ts.n) then some (ts,ti.len) else none
   |none=>none
  |none=>none
  else none
 |none=>none
def GH(ts:aC)(rows:List ts.D):Nat->Nat->List AV
 |0,_=>[]
 |n+1,j=>ts.oZ (rows.getD j ts.zero)++GH ts rows n (j+1)
def mW(O:bn)(ts:aC):Nat->List AV->Option (List ts.D)
 |0,[]=>some []
 |0,_::_=>none
 |n+1,cs=>match takeN ts.n cs with
  |some l=>match ts.iL O l,mW O ts n (rQ ts.n cs) with
   |some d,some ds=>some (d::ds)
   | _,_=>none
  |none=>none
def zn{α:Type}:List α->Nat->List α->List α
 |l,_,[]=>l
 |l,i,x::r=>zn (zl l i x) (i+1) r
def ael:Int->Int->Int
 | .ofNat 0,m=>m
 |j,m=>j+m
def Qs{α:Type}:List (String×α)->String->Option α
 |[],_=>none
 |(n,x)::r,m=>bif n==m then some x else Qs r m
def meth(t:Nat)(m:String):Option FuncId:=match look C.Qq t with
 |some l=>Qs l m
 |none=>none
def keq:(kt:CT)->kt.D->kt.D->Bool
 | .int _,a,b=>(show Int from a)==b
 | .bool,a,b=>(show Bool from a)==b
 | .str,a,b=>(show ByteArray from a)==b
 | .sl _,_,_=>false
def pX:AV->Bool
 | .int _ _| .bool _| .str _| .aT| .kF| .jo| .nZ| .func _ [] []| .iface _ (.agg [])| .ptr _ _=>true
 | _=>false
def TM:AV->Bool
 | .ptr _ _=>false
 | _=>true
def ND{α:Type}:List (α×AV)->Bool
 |[]=>true
 |(_,x)::r=>TM x&&ND r
def Zj:Ih->Bool
 | .lit _ es=>ND es
 | .dat _ _ _=>true
def A8(ti:TI):Option CT:=bif Nat.beq ti.kd 9 then some .str else bif Nat.beq ti.kd 10 then some .bool else bif Nat.beq ti.kd 11 then match ti.row with
  |some (.one (.int k))=>some (.int k)
  | _=>none
 else none
def CG(t:Nat):Option (CT×Nat×Option CT):=match look C.ty t with
 |some ti=>bif Nat.beq ti.kd 7 then match look C.ty ti.elem,look C.ty ti.len with
  |some tk,some tv=>match A8 tk with
   |some kt=>some (kt,ti.len,A8 tv)
   |none=>none
  | _,_=>none
  else none
 |none=>none
def LD(t:Nat):Option AV:=match look C.ty t with
 |some ti=>bif ti.agg then none else match ti.zero with
  |[z]=>bif Nat.beq ti.size 1 then some z else none
  | _=>none
 |none=>none
def NG{α β:Type}(q:α->α->Bool)(k:α):List (α×β)->Option β
 |[]=>none
 |(j,v)::r=>bif q k j then some v else NG q k r
def Ee{α β:Type}(q:α->α->Bool)(k:α)(v:β):List (α×β)->List (α×β)
 |[]=>[(k,v)]
 |(j,u)::r=>bif q k j then (k,v)::r else (j,u)::Ee q k v r
def TN{α β:Type}(q:α->α->Bool)(k:α):List (α×β)->List (α×β)
 |[]=>[]
 |(j,u)::r=>bif q k j then r else (j,u)::TN q k r
def Ef(kt:CT)(k:kt.D)(z:AV)(K:AV->Bool->Option R):List (kt.D×AV)->Option R
 |[]=>K z false
 |(j,v)::r=>sel (keq kt k j) (K v true) (Ef kt k z K r)
def Ba(kt:CT)(k:kt.D)(v:AV)(K:List (kt.D×AV)->Option R):List (kt.D×AV)->List (kt.D×AV)->Option R
 |acc,[]=>K (acc++[(k,v)])
 |acc,(j,u)::r=>sel (keq kt k j) (K (acc++(k,v)::r)) (Ba kt k v K (acc++[(j,u)]) r)
def Ij(ok:Bool)(v:AV)(b:Bool):AV:=bif ok then .AY [v,.bool b] else v
def isLit:Operand->Bool
 | .const _=>true
 | _=>false
def plain:AV->Bool
 | .undef| .AY _| .agg _=>false
 | _=>true
def Eh:List AV->Bool
 |[]=>true
 |v::r=>plain v&&Eh r
def aQ(id:Nat):List Eff->Bool
 |[]=>false
 | .shut j _ _::r=>Nat.beq j id||aQ id r
 | _::r=>aQ id r
def xg(tm:List (Nat×AV)):Option Operand->Option (Option AV)
 |none=>some none
 |some x=>(ev tm x).map some
def qL(ti:TI)(f:Nat):Option (Nat×Nat):=nth ti.fields f
def xK(ft:Nat):Bool:=match look C.ty ft with
 |some tf=>Nat.blt 0 tf.size
 |none=>false
def qM(row:aC)(elem:Nat)(O:bn)(aG:Nat)(x y:AV)(K:KK R):Option R:=
 match look C.ty elem with
 |some te=>match te.row with
  |some ts=>
   bif !row.beq ts then none else
   let ys:Option (List ts.D):=match y with
    | .aT=>some []
    | .str s=>lu (.one (.int .u8)) ts (tK s)
    |y=>match rowsOf O y with
     |some r=>lu r.ts ts r.rows
     |none=>none
   match ys with
   |some ys=>match x with
    | .aT=>chk (ys.length*te.bytes<=140737488355328) (K (.own aG) ((aG,.arr ts ys true)::O) (aG+1) [])
    | .own id=>match look O id with
     |some (.arr ts' rows true)=>match lu ts' ts rows with
      |some rows=>chk ((rows.length+ys.length)*te.bytes<=140737488355328) (K (.own id) ((id,.arr ts (rows++ys) true)::O) aG [.kill id])
      |none=>none
     | _=>none
    | _=>none
   |none=>none
  |none=>none
 |none=>none
structure Got (s:List PT) where
 data:He s
 iP:List Eff
 moved:List Nat
 used:List Nat
 boxes:List Nat
def rW(m:Md)(O:bn)(x:AV):Option (List Eff×List Nat×List Nat):=
 match m with
 | .ro=>match x with
  | .own id=>some ([],[],[id])
  | .ro _ _ deps=>some ([],[],deps)
  | _=>some ([],[],[])
 | .leak=>(Ed O x).map fun e=>(e,[],match x with| .own id=>[id]| .ro _ _ deps=>deps| _=>[])
 | .mv=>match x with
  | .own id=>some ([.kill id,.dO id],[id],[])
  | .aT=>some ([],[],[])
  | _=>none
def jH:CT->Bool
 | .sl _=>true
 | _=>false
def aC.list:aC->List CT
 | .one t=>[t]
 | .cons t ts=>t::ts.list
def iG(O:bn):List CT->List Md->List AV->Option (List Eff×List Nat×List Nat)
 |[],_,[]=>some ([],[],[])
 |t::ts,ms,x::xs=>
  bif jH t then match ms with
   |m::ms=>match rW m O x,iG O ts ms xs with
    |some (a,b,c),some (a',b',c')=>some (a++a',b++b',c++c')
    | _,_=>none
   |[]=>none
  else iG O ts ms xs
 | _,_,_=>none
def getArg(O:bn)(p:PT)(x:AV):Option (p.sh.D×List Eff×List Nat×List Nat×List Nat):=
 match p with
 |⟨.one t,ms⟩=>match t.jq O x,iG O [t] ms [x] with
  |some d,some (a,b,c)=>some (d,a,b,c,[])
  | _,_=>none
 |⟨.agg ts,ms⟩=>match x with
  | .agg cs=>match ts.iL O cs,iG O ts.list ms cs with
   |some d,some (a,b,c)=>some (d,a,b,c,[])
   | _,_=>none
  | _=>none
 |⟨.rP,_⟩=>match x with
  | .agg []=>some ((),[],[],[],[])
  | _=>none
 |⟨.st ts,ms⟩=>match x with
  | .ptr id 0=>match look O id with
   |some (.box cs)=>match ts.iL O cs,iG O ts.list ms cs with
    |some d,some (a,b,c)=>some (d,a,b,c,[id])
    | _,_=>none
   | _=>none
  | _=>none
def getArgs(O:bn):(ps:List PT)->List AV->Option (He ps×List Eff×List Nat×List Nat×List Nat)
 |[],[]=>some ((),[],[],[],[])
 |[p],[x]=>getArg O p x
 |p::q::r,x::y::xs=>match getArg O p x,getArgs O (q::r) (y::xs) with
  |some (d,a,b,c,e),some (d',a',b',c',e')=>some ((d,d'),a++a',b++b',c++c',e++e')
  | _,_=>none
 | _,_=>none
def apart(a b:List Nat):Bool:=match a with
 |[]=>true
 |x::r=> !dN x b&&apart r b
def dI(m:Md)(t:CT)(d:t.D)(aG:Nat):AV×bn×Nat:=
 match t,m with
 | .sl ts,.mv=>(.own aG,[(aG,.arr ts d true)],aG+1)
 |t,_=>(t.av d,[],aG)
def putCells:(ts:aC)->List Md->ts.D->Nat->List AV×bn×Nat
 | .one t,ms,d,aG=>let (v,o,n):=dI (match ms with|m::_=>m|[]=> .ro) t d aG;([v],o,n)
 | .cons t ts,ms,d,aG=>
  bif jH t then
   let (v,o,n):=dI (match ms with|m::_=>m|[]=> .ro) t d.1 aG
   let (vs,o',n'):=putCells ts (match ms with| _::r=>r|[]=>[]) d.2 n
   (v::vs,o'++o,n')
  else
   let (vs,o',n'):=putCells ts ms d.2 aG
   (t.av d.1::vs,o',n')
def fQ:PT->Bool
 |⟨.st _,_⟩=>true
 | _=>false
def mM{α:Type}:List α->List α
 |[]=>[]
 | _::r=>r
def eU(boxes:List Nat)(p:PT)(d:p.sh.D)(aG:Nat):List AV×bn×Nat:=
 match p,d with
 |⟨.one t,ms⟩,d=>let (v,o,n):=dI (match ms with|m::_=>m|[]=> .ro) t d aG;([v],o,n)
 |⟨.agg ts,ms⟩,d=>let (vs,o,n):=putCells ts ms d aG;([.agg vs],o,n)
 |⟨.rP,_⟩,_=>([.agg []],[],aG)
 |⟨.st ts,ms⟩,d=>
  let (vs,o,n):=putCells ts ms d aG
  match boxes with
  |b::_=>([],(b,.box vs)::o,n)
  |[]=>([],o,n)
def cO(boxes:List Nat):(ps:List PT)->He ps->Nat->List AV×bn×Nat
 |[],_,aG=>([],[],aG)
 |[p],d,aG=>eU boxes p d aG
 |p::q::r,d,aG=>
  let (vs,o,n):=eU boxes p d.1 aG
  let (vs',o',n'):=cO (bif fQ p then mM boxes else boxes) (q::r) d.2 n
  (vs++vs',o'++o,n')
def jr:List AV->AV
 |[v]=>v
 |vs=> .AY vs
def iQ:List Nat->bn
 |[]=>[]
 |id::r=>(id,.dead)::iQ r
def jl:List AV->List AV->Option R->Option R
 |[],[],x=>x
 | .int k a::r,.int k' b::r',x=>bif xJ k k' then chk (a=b) (jl r r' x) else none
 | .bool a::r,.bool b::r',x=>chk (a=b) (jl r r' x)
 | .str a::r,.str b::r',x=>chk (a=b) (jl r r' x)
 | _,_,_=>none
def kQ(bs:List Nat)(O:bn):bn->Option R->Option R
 |[],x=>x
 |(b,.box cs)::r,x=>match look O b with
  |some (.box cs')=>bif dN b bs then jl cs cs' (kQ bs O r x) else none
  | _=>none
 | _,_=>none
def qH(f:FuncId)(s:dX)(O:bn)(aG:Nat)(args:List AV)(K:KK R):Option R:=
 match getArgs O s.ps args with
 |some (d,iP,moved,used,boxes)=>
  bif nodup (moved++boxes)&&apart moved used then
   (Rc f s d).bind fun r=>
    let (vs,o,n):=cO boxes s.rs r aG
    bif s.lk then (bif iP.isEmpty&&moved.isEmpty then kQ boxes O o (K (jr vs) O n []) else none)
    else K (jr vs) (o++(iQ moved++O)) n iP
  else none
 |none=>none
def callee(tm:List (Nat×AV)):Op->Option (FuncId×List AV)
 | .call ⟨.value f,args,_⟩=>match ev tm f,evs tm args.toList with
  |some (.func (.func g) a b),some vs=>some (g,a++(vs++b))
  | _,_=>none
 | .call ⟨.invoke x m,args,_⟩=>match ev tm x,evs tm args.toList with
  |some (.iface t v),some vs=>match meth C t m with
   |some g=>some (g,v::vs)
   |none=>none
  | _,_=>none
 | _=>none
def fP(tm:List (Nat×AV))(O:bn)(aG:Nat)(o:Oper)(K:KK R):Option R:=
 match o.op with
 | .move x| .assign x=>match ev tm x with
  |some v=>K v O aG []
  |none=>none
 | .pick c a b=>match ev tm c,ev tm a,ev tm b with
  |some (.bool t),some x,some y=>sel t (K x O aG []) (K y O aG [])
  | _,_,_=>none
 | .alloc t=>match uS C t with
  |some (ts,n)=>bif Nat.blt 0 n then K (.gX aG 0 0) ((aG,.arr ts (List.replicate n ts.zero) true)::O) (aG+1) [] else none
  |none=>match look C.ty t with
   |some ti=>bif !Nat.beq ti.zero.length ti.size then none else K (.ptr aG 0) ((aG,.box ti.zero)::O) (aG+1) []
   |none=>none
 | .box _ x=>match ev tm x with
  |some v=>K (.ptr aG 0) ((aG,.box v.cells)::O) (aG+1) []
  |none=>none
 | .build t ps=>match look C.ty t,KR tm ps.toList with
  |some ti,some vs=>match nM (fun i=>match qL ti i with
    |some (o,ft)=>match look C.ty ft with
     |some tf=>some (o,tf.size)
     |none=>none
    |none=>none) ti.zero vs with
   |some cs=>bif Nat.beq ti.zero.length ti.size&&Nat.beq ti.kd 6 then K (.agg cs) O aG [] else none
   |none=>bif Nat.beq ti.zero.length ti.size&&Nat.beq ti.kd 5 then match look C.ty ti.elem with
    |some te=>match nM (fun i=>some (i*te.size,te.size)) ti.zero vs with
     |some cs=>K (.agg cs) O aG []
     |none=>none
    |none=>none
    else none
  | _,_=>none
 | .buildSlice t n ps=>match look C.ty t,KR tm ps.toList with
  |some ti,some vs=>match look C.ty ti.elem with
   |some te=>match te.row with
    |some ts=>match oh O ts (List.replicate n ts.zero) vs,og O ((vs.map (·.2.cells)).flatten),D7 C t with
     |some rows,some iP,some ts'=>bif !ts'.beq ts||Nat.blt 16777216 (n*te.size) then none else K (.own aG) ((aG,.arr ts rows true)::O) (aG+1) iP
     | _,_,_=>none
    |none=>none
   |none=>none
  | _,_=>none
 | .load t x=>match look C.ty t,ev tm x with
  |some ti,some (.ptr id off)=>match look O id with
   |some (.box cs)=>match part ti.agg ti.size off cs with
    |some v=>K v O aG []
    |none=>none
   | _=>none
  |some ti,some (.gX id i off)=>match look O id with
   |some (.arr ts rows _)=>match uS C t with
    |some (ts',n)=>bif Nat.beq ts'.n ts.n&&Nat.beq off 0 then chk (i.toNat+n<=rows.length) (K (.agg (GH ts rows n i.toNat)) O aG []) else none
    |none=>match part ti.agg ti.size off (ts.oZ (rows.getD i.toNat ts.zero)) with
     |some v=>K v O aG []
     |none=>none
   | _=>none
  |some ti,some (.iE ts rows _ i off)=>match uS C t with
   |some (ts',n)=>bif Nat.beq ts'.n ts.n&&Nat.beq off 0 then chk (i.toNat+n<=rows.length) (K (.agg (GH ts rows n i.toNat)) O aG []) else none
   |none=>match part ti.agg ti.size off (ts.oZ (rows.getD i.toNat ts.zero)) with
    |some v=>K v O aG []
    |none=>none
  | _,_=>none
 | .store t a x=>match look C.ty t,ev tm a,ev tm x with
  |some ti,some (.ptr id off),some v=>match look O id with
   |some (.box cs)=>bif !(Nat.beq v.cells.length ti.size&&Eh v.cells) then none else match setCells cs off v.cells with
    |some cs'=>K .undef ((id,.box cs')::O) aG []
    |none=>none
   | _=>none
  |some ti,some (.gX id i off),some v=>match look O id with
   |some (.arr ts rows true)=>bif !(Nat.beq v.cells.length ti.size&&Eh v.cells&&Nat.blt 0 ti.size) then none else match uS C t with
    |some (ts',n)=>match mW O ts n v.cells,og O v.cells with
     |some rs,some iP=>bif aQ id iP|| !(Nat.beq ts'.n ts.n&&Nat.beq off 0) then none else chk (i.toNat+n<=rows.length) (K .undef ((id,.arr ts (zn rows i.toNat rs) true)::O) aG (iP++[.dO id]))
     | _,_=>none
    |none=>match ts.puts O (rows.getD i.toNat ts.zero) off v.cells,og O v.cells with
     |some row,some iP=>bif aQ id iP then none else K .undef ((id,.arr ts (rows.set i.toNat row) true)::O) aG (iP++[.dO id])
     | _,_=>none
   | _=>none
  | _,_,_=>none
 | .nilCheck x=>match ev tm x with
  |some (.ptr id off)=>K (.ptr id off) O aG []
  |some (.gX id i off)=>K (.gX id i off) O aG []
  |some (.iE ts rows deps i off)=>K (.iE ts rows deps i off) O aG []
  |some (.func (.func g) a b)=>K (.func (.func g) a b) O aG []
  | _=>none
 | .binOp op t x y _=>match ev tm x,ev tm y with
  |some a,some b=>CB (qK C t) (Qr C t) (isLit x||isLit y) O op a b fun v=>K v O aG []
  | _,_=>none
 | .unOp op _ x=>match op,ev tm x with
  | .neg,some (.int k n)=>K (.int k (k.wrap (0-n))) O aG []
  | .xor,some (.int k n)=>Ii .xor k (if k.signed then -1 else k.max) n fun v=>K v O aG []
  | .not,some (.bool b)=>K (.bool (!b)) O aG []
  | _,_=>none
 | .convert src dst x=>match ev tm x,look C.ty dst,look C.ty src with
  |some (.int _ n),some td,some _=>match td.row with
   |some (.one (.int k))=>bif Nat.beq td.kd 11 then K (.int k (k.wrap n)) O aG [] else none
   | _=>none
  |some (.str s),some td,some _=>bif Nat.beq td.kd 9 then K (.str s) O aG [] else match D7 C dst with
   |some (.one (.int .u8))=>match look C.ty td.elem with
    |some te=>bif Nat.beq te.kd 11 then K (.own aG) ((aG,.arr (.one (.int .u8)) (tK s) true)::O) (aG+1) [] else none
    |none=>none
   | _=>none
  |some v,some td,some tsr=>match D7 C src with
   |some (.one (.int .u8))=>match look C.ty tsr.elem with
    |some te=>bif Nat.beq te.kd 11&&Nat.beq td.kd 9 then match v with
     | .aT=>K (.str .empty) O aG []
     |v=>match rowsOf O v with
      |some r=>match lu r.ts (.one (.int .u8)) r.rows with
       |some l=>K (.str (bU l)) O aG []
       |none=>none
      |none=>none
     else none
    |none=>none
   | _=>none
  | _,_,_=>none
 | .makeInterface t x=>match ev tm x with
  |some v=>bif Nat.beq (qK C t) 0||Nat.beq (qK C t) 2 then none else K (.iface t v) O aG []
  |none=>none
 | .makeFunc fn a b=>match evs tm a.toList,evs tm b.toList with
  |some x,some y=>K (.func fn x y) O aG []
  | _,_=>none
 | .makeSlice t l c=>match look C.ty t,ev tm l,ev tm c with
  |some ti,some (.int _ l),some (.int _ c)=>match look C.ty ti.elem with
   |some te=>match te.row with
    |some ts=>match D7 C t with
     |some ts'=>bif !ts'.beq ts then none else chk (0<=l) (chk (l<=c) (chk (c*te.bytes<=140737488355328)
      (K (.own aG) ((aG,.arr ts (List.replicate l.toNat ts.zero) true)::O) (aG+1) [])))
     |none=>none
    |none=>none
   |none=>none
  | _,_,_=>none
 | .slice t x lo hi none=>bif dN t C.subs then match ev tm x,xg tm lo,xg tm hi with
  |some (.own id),some l,some h=>match look O id,D7 C t with
   |some (.arr ts rows _),some ts'=>bif Nat.beq ts'.n ts.n then jA rows.length l h fun a b=>K (.sub id a b) O aG [] else none
   | _,_=>none
  |some (.gX id i off),some l,some h=>match look O id,uS C t with
   |some (.arr ts rows _),some (ts',n)=>bif Nat.beq ts'.n ts.n&&Nat.beq off 0 then chk (i=0) (chk (rows.length=n) (jA n l h fun a b=>K (.sub id a b) O aG [])) else none
   | _,_=>none
  |some v,some l,some h=>match rowsOf O v,D7 C t with
   |some r,some ts'=>bif !Nat.beq ts'.n r.ts.n then none else kG r.rows l h fun rows=>K (.ro r.ts rows r.deps) O aG []
   | _,_=>none
  | _,_,_=>none
  else match uS C t with
  |some (ts',n)=>match ev tm x,xg tm lo,xg tm hi with
   |some (.gX id i off),some l,some h=>match look O id with
    |some (.arr ts rows _)=>bif Nat.beq ts'.n ts.n&&Nat.beq off 0 then chk (i=0) (chk (rows.length=n) (kG rows l h fun rs=>K (.ro ts rs [id]) O aG [])) else none
    | _=>none
   | _,_,_=>none
  |none=>match ev tm x,xg tm lo,xg tm hi with
  |some (.str s),some l,some h=>bif !AZ C t then none else rV s l h fun s=>K (.str s) O aG []
  |some v,some l,some h=>match rowsOf O v,D7 C t with
   |some r,some ts'=>bif !Nat.beq ts'.n r.ts.n then none else kG r.rows l h fun rows=>K (.ro r.ts rows r.deps) O aG []
   | _,_=>none
  | _,_,_=>none
 | .fieldAddr t x f=>match look C.ty t,ev tm x with
  |some ti,some v=>match qL ti f,v with
   |some (o,ft),.ptr id off=>bif !xK C ft then none else K (.ptr id (off+o)) O aG []
   |some (o,ft),.gX id i off=>bif !xK C ft then none else K (.gX id i (off+o)) O aG []
   |some (o,ft),.iE ts rows deps i off=>bif !xK C ft then none else K (.iE ts rows deps i (off+o)) O aG []
   | _,_=>none
  | _,_=>none
 | .field t x f=>match look C.ty t,ev tm x with
  |some ti,some (.agg cs)=>match qL ti f with
   |some (o,ft)=>match look C.ty ft with
    |some tf=>match part tf.agg tf.size o cs with
     |some v=>K v O aG []
     |none=>none
    |none=>none
   |none=>none
  | _,_=>none
 | .sliceToArrayPointer t x=>match uS C t,ev tm x with
  |some (ts',n),some v=>match rowsOf O v with
   |some q=>bif Nat.beq ts'.n q.ts.n&&Nat.blt 0 n then chk (n<=q.rows.length) (K (.iE q.ts q.rows q.deps 0 0) O aG []) else none
   |none=>none
  | _,_=>none
 | .makeMap t none=>match CG C t with
  |some (kt,_,none)=>K (.mp aG) ((aG,.map (.lit kt []))::O) (aG+1) []
  |some (kt,_,some vt)=>K (.mp aG) ((aG,.map (.dat kt vt []))::O) (aG+1) []
  |none=>none
 | .insert t m k x| .mapUpdate t m k x=>match CG C t,ev tm m with
  |some (kt,_,_),some (.mp id)=>match look O id,ev tm k,ev tm x with
   |some (.map (.lit tH es)),some k,some v=>bif tH.beq kt&&pX v then match tH.jq [] k with
    |some k=>Ba tH k v (fun es=>K .undef ((id,.map (.lit tH es))::O) aG []) [] es
    |none=>none
    else none
   |some (.map (.dat tH vt es)),some k,some v=>bif tH.beq kt&& !jH vt then match tH.jq [] k,vt.jq [] v with
    |some k,some v=>K .undef ((id,.map (.dat tH vt (Ee (keq tH) k v es)))::O) aG []
    | _,_=>none
    else none
   | _,_,_=>none
  | _,_=>none
 | .lookup t m k ok=>match CG C t,ev tm m with
  |some (kt,tv,_),some (.mp id)=>match look O id,ev tm k with
   |some (.map (.lit tH es)),some k=>bif tH.beq kt then match tH.jq [] k,LD C tv with
    |some k,some z=>Ef tH k z (fun v b=>K (Ij ok v b) O aG []) es
    | _,_=>none
    else none
   |some (.map (.dat tH vt es)),some k=>bif tH.beq kt then match tH.jq [] k,LD C tv with
    |some k,some z=>match vt.jq [] z with
     |some z=>K (Ij ok (vt.av ((NG (keq tH) k es).getD z)) (NG (keq tH) k es).isSome) O aG []
     |none=>none
    | _,_=>none
    else none
   | _,_=>none
  |some (kt,tv,_),some (.raw (.map none))=>match ev tm k with
   |some k=>match kt.jq [] k,LD C tv with
    |some _,some z=>K (Ij ok z false) O aG []
    | _,_=>none
   |none=>none
  | _,_=>none
 | .indexAddr t x i=>match D7 C t with
  |none=>match uS C t with
   |none=>none
   |some (ts',n)=>match ev tm x,ev tm i with
    |some (.gX id j off),some (.int _ m)=>match look O id with
     |some (.arr ts rows _)=>bif Nat.beq ts'.n ts.n&&Nat.beq off 0 then chk (0<=m) (chk (m<(n:Int)) (chk (j.toNat+n<=rows.length) (K (.gX id (ael j m) 0) O aG []))) else none
     | _=>none
    |some (.iE ts rows deps j off),some (.int _ m)=>bif Nat.beq ts'.n ts.n&&Nat.beq off 0 then chk (0<=m) (chk (m<(n:Int)) (chk (j.toNat+n<=rows.length) (K (.iE ts rows deps (ael j m) 0) O aG []))) else none
    | _,_=>none
  |some ts'=>match ev tm x,ev tm i with
  |some (.own id),some (.int _ n)=>match look O id with
   |some (.arr ts rows _)=>bif !Nat.beq ts'.n ts.n then none else chk (0<=n) (chk (n<(rows.length:Int)) (K (.gX id n 0) O aG []))
   | _=>none
  |some (.ro ts rows deps),some (.int _ n)=>bif !Nat.beq ts'.n ts.n then none else chk (0<=n) (chk (n<(rows.length:Int)) (K (.iE ts rows deps n 0) O aG []))
  |some (.sub id lo hi),some (.int _ n)=>match look O id with
   |some (.arr ts rows _)=>bif !Nat.beq ts'.n ts.n then none else chk (0<=n) (chk (n<hi-lo) (K (.gX id (lo+n) 0) O aG []))
   | _=>none
  | _,_=>none
 | .index t x i=>match ev tm x,ev tm i with
  |some (.str s),some (.int _ n)=>bif !AZ C t then none else chk (0<=n) (chk (n<(s.size:Int)) (K (.int .u8 (aW s n)) O aG []))
  | _,_=>none
 | .extract x i=>match ev tm x with
  |some (.AY vs)=>match nth vs i with
   |some v=>K v O aG []
   |none=>none
  | _=>none
 | .call ⟨.builtin .len,args,tys⟩=>match evs tm args.toList,tys.toList with
  |some [.str s],[t]=>bif !AZ C t then none else K (.int .i64 (s.size:Int)) O aG []
  |some [.mp id],[t]=>match CG C t with
   |some _=>match look O id with
    |some (.map (.dat _ _ es))=>K (.int .i64 (es.length:Int)) O aG []
    | _=>none
   |none=>none
  |some [v],[t]=>match D7 C t with
   |some _=>match v with
    | .aT=>K (.int .i64 0) O aG []
    |v=>match rowsOf O v with
     |some r=>K (.int .i64 (r.rows.length:Int)) O aG []
     |none=>none
   |none=>none
  | _,_=>none
 | .call ⟨.builtin .append,args,tys⟩=>match evs tm args.toList,tys.toList with
  |some [x,y],[t,t']=>match look C.ty t,D7 C t with
   |some ti,some row=>bif !(AZ C t'||(match D7 C t' with|some _=>true|none=>false)) then none else qM C row ti.elem O aG x y K
   | _,_=>none
  | _,_=>none
 | .call ⟨.builtin .min,args,_⟩=>match evs tm args.toList with
  |some [.int k a,.int k' b]=>bif xJ k k' then K (.int k (if b<a then b else a)) O aG [] else none
  | _=>none
 | .call ⟨.builtin .max,args,_⟩=>match evs tm args.toList with
  |some [.int k a,.int k' b]=>bif xJ k k' then K (.int k (if b>a then b else a)) O aG [] else none
  | _=>none
 | .call ⟨.builtin .delete,args,tys⟩=>match evs tm args.toList,tys.toList with
  |some [.mp id,k],t::_=>match CG C t,look O id with
   |some (kt,_,_),some (.map (.dat tH vt es))=>bif tH.beq kt then match tH.jq [] k with
    |some k=>K (.AY []) ((id,.map (.dat tH vt (TN (keq tH) k es)))::O) aG []
    |none=>none
    else none
   | _,_=>none
  | _,_=>none
 |op=>match callee C tm op with
  |some (g,vs)=>match look C.sig g with
   |some s=>qH Rc g s O aG vs K
   |none=>none
  |none=>none
def opers:Op->List Operand
 | .move x| .assign x| .nilCheck x| .unOp _ _ x| .convert _ _ x| .makeInterface _ x| .box _ x| .extract x _| .load _ x| .fieldAddr _ x _| .field _ x _=>[x]
 | .pick c a b=>[c,a,b]
 | .build _ ps| .buildSlice _ _ ps=>ps.toList.map (·.2)
 | .store _ a x| .binOp _ _ a x _| .indexAddr _ a x| .index _ a x| .makeSlice _ a x=>[a,x]
 | .slice _ x lo hi _=>x::(lo.toList++hi.toList)
 | .sliceToArrayPointer _ x=>[x]
 | .makeFunc _ a b=>a.toList++b.toList
 | .call ⟨.builtin _,args,_⟩=>args.toList
 | .call ⟨.value f,args,_⟩=>f::args.toList
 | .call ⟨.invoke x _,args,_⟩=>x::args.toList
 | .insert _ m k x| .mapUpdate _ m k x=>[m,k,x]
 | .lookup _ m k _=>[m,k]
 | _=>[]
def kZ:List Operand->List Nat
 |[]=>[]
 | .tmp t::r=>t::kZ r
 | _::r=>kZ r
def quiet(o:Oper):Bool:=match o.op with
 | .move _| .assign _| .pick .. | .extract .. | .binOp .. | .unOp .. | .fieldAddr .. | .field .. | .indexAddr .. | .index .. | .slice .. | .makeInterface .. | .makeFunc .. | .nilCheck _| .build .. | .load .. | .sliceToArrayPointer .. =>true
 | .convert src dst _=>Nat.beq (qK C dst) 11||(Nat.beq (qK C dst) 9&&Nat.beq (qK C src) 9)
 | .call ⟨.builtin .len,_,_⟩| .call ⟨.builtin .min,_,_⟩| .call ⟨.builtin .max,_,_⟩=>true
 | _=>false
def Qu(o:Oper):Bool:=match o.op with
 | .insert .. | .mapUpdate .. | .lookup .. | .makeMap .. | .call ⟨.builtin .delete,_,_⟩=>true
 | _=>false
def xM(o:Oper):Bool:=match o.op with
 | .alloc _| .box .. | .buildSlice .. | .makeSlice .. =>true
 | _=>false
def ai4(o:Oper):Bool:=match o.op with
 | .buildSlice .. =>true
 | _=>false
def af0(o:Oper):Bool:=match o.op with
 | .buildSlice t _ _=>dN t C.Zi
 | _=>false
def Ah(o:Oper):Bool:=xM o&& !af0 C o
mutual
def AV.ids:AV->List Nat
 | .own id| .ptr id _| .gX id _ _| .mp id| .sub id _ _=>[id]
 | .ro _ _ deps| .iE _ _ deps _ _=>deps
 | .func _ a b=>AV.jB a++AV.jB b
 | .iface _ v=>v.ids
 | .agg cs| .AY cs=>AV.jB cs
 | _=>[]
def AV.jB:List AV->List Nat
 |[]=>[]
 |v::r=>v.ids++AV.jB r
end
def fE(tm:List (Nat×AV)):List Operand->List Nat
 |[]=>[]
 |x::r=>(match ev tm x with|some v=>v.ids|none=>[])++fE tm r
def Bc(O:bn):List Nat->List Nat
 |[]=>[]
 |i::r=>(match look O i with|some (.box cs)=>AV.jB cs| _=>[])++Bc O r
def dJ(tm:List (Nat×AV))(o:Oper):List Nat:=match o.op with
 | .load .. | .indexAddr .. | .slice .. | .sliceToArrayPointer .. | .binOp .. | .call ⟨.builtin .len,_,_⟩=>fE tm (opers o.op)
 | _=>[]
def kH(tm:List (Nat×AV))(O:bn)(o:Oper):List Nat:=fE tm (opers o.op)++Bc O (fE tm (opers o.op))
def aen(i:Nat):Nat:=i+1000000000
def Qv:List Nat->List Nat
 |[]=>[]
 |i::r=>aen i::Qv r
mutual
def AV.kids:AV->List Nat
 | .own id| .ptr id _| .gX id _ _| .mp id| .sub id _ _=>[id]
 | .ro _ _ deps| .iE _ _ deps _ _=>deps++Qv deps
 | .func _ a b=>AV.pY a++AV.pY b
 | .iface _ v=>v.kids
 | .agg cs| .AY cs=>AV.pY cs
 | _=>[]
def AV.pY:List AV->List Nat
 |[]=>[]
 |v::r=>v.kids++AV.pY r
end
def kW(tm:List (Nat×AV)):List Operand->List Nat
 |[]=>[]
 |x::r=>(match ev tm x with|some v=>v.kids|none=>[])++kW tm r
def jg(O:bn):List Nat->List Nat
 |[]=>[]
 |i::r=>(match look O i with|some (.box cs)=>AV.pY cs| _=>[])++jg O r
def Hf(O:bn)(i:Nat):List Nat:=match look O i with
 |some (.box cs)=>AV.pY cs
 | _=>[]
def qN(tm:List (Nat×AV))(O:bn)(o:Oper)(v:AV):List Nat:=v.kids++(kW tm (opers o.op)++jg O (dJ tm o))
def Zk{α:Type}:List α->List α
 |[]=>[]
 |x::_=>[x]
def touched(tm:List (Nat×AV))(O:bn)(o:Oper):List Nat:=match o.op with
 | .store _ a _=>fE tm [a]
 | .call ⟨.builtin _,args,_⟩=>fE tm (Zk args.toList)
 |op=>match callee C tm op with
  |some (g,vs)=>match look C.sig g with
   |some s=>match getArgs O s.ps vs with
    |some (_,_,moved,_,boxes)=>bif s.lk then [] else moved++boxes
    |none=>[]
   |none=>[]
  |none=>[]
def jT:List Eff->List Nat
 |[]=>[]
 | .kill i::r| .shut i _ _::r=>i::jT r
 | .dO i::r=>aen i::jT r
def below(n:Nat):List Nat->Bool
 |[]=>true
 |i::r=>Nat.blt i n&&below n r
def CJ(aG:Nat)(wt ef an:List Nat):List (Nat×List Nat×List Nat×List Nat)->Bool
 |[]=>true
 |(p,ks,rs,_)::r=>((apart ks ef&&(below aG rs&&apart rs wt))||dN p an)&&CJ aG wt ef an r
def CO(lk an:List Nat):List (Nat×List Nat×List Nat×List Nat)->Bool
 |[]=>true
 |(p,_,_,ns)::r=>(apart ns lk||dN p an)&&CO lk an r
def CP(base:Nat)(wt:List Nat):List (Nat×List Nat)->Bool
 |[]=>true
 |(q,_)::r=> !dN (base+q) wt&&CP base wt r
def unread(ns an:List Nat):List (Nat×List Nat×List Nat×List Nat)->Bool
 |[]=>true
 |(p,_,rs,_)::r=>(dN p an||apart ns rs)&&unread ns an r
def Bd(fn reg:Nat):List aek->Option (List (List (Nat×List Nat)))
 |[]=>none
 |x::r=>bif Nat.beq x.fn fn&&Nat.beq x.reg reg then some x.nV else Bd fn reg r
def rX(fn reg:Nat):List aek->Option (List Nat)
 |[]=>none
 |x::r=>bif Nat.beq x.fn fn&&Nat.beq x.reg reg then x.pins else rX fn reg r
def calm(o:Oper):Bool:=quiet {ty:=[],fns:=[],sig:=[],cuts:=[],nV:=[]} o||(xM o&& !ai4 o)
def af2(all:List Oper)(i:Nat):Bool:=match nth all i with
 |some o=>calm o
 |none=>false
def qP(pins:List Nat)(all:List Oper)(i:Nat):Bool:=af2 all i&& !dN i pins
def idxs:List (Nat×List Nat)->List Nat
 |[]=>[]
 |(i,_)::r=>i::idxs r
def xO(pins:List Nat)(all:List Oper)(an:List Nat)(i:Nat)(rest:List Nat):Nat->Bool
 |0=>true
 |n+1=>(dN n an||Nat.beq n i||dN n rest|| !qP pins all n)&&xO pins all an i rest n
def uT(pins:List Nat)(all:List Oper)(i:Nat):List (Nat×List Nat)->Bool
 |[]=>true
 |(x,an)::r=>(dN i an|| !qP pins all x)&&uT pins all i r
def lN:List Oper->List Nat
 |[]=>[]
 |o::r=>(match o.dst with|some d=>d+1|none=>0)::lN r
def Zl(pins:Option (List Nat))(all:List Oper)(i:Nat)(an:List Nat)(rest:List (Nat×List Nat)):Bool:=match pins with
 |some ps=> !qP ps all i&&uT ps all i rest&&xO ps all an i (idxs rest) all.length&&nodup (lN all)
 |none=>false
def ag9(pins:Option (List Nat)):List Nat:=match pins with
 |some ps=>ps
 |none=>[]
def qO(x:Option R):List (Option R)->Prop
 |[]=>True
 |y::r=>y=x∧qO x r
open Classical in
noncomputable def sameAll(x:Option R)(l:List (Option R)):Option R:=match l with
 |[]=>x
 |l=>if qO x l then x else none
def jU:List Eff->List (Nat×AV)->List (Nat×AV)
 |[],tm=>tm
 |e::r,tm=>jU r (e.tm tm)
def jG:List Eff->List Fr->List Fr
 |es,KP=>KP.map fun fr=>{fr with tm:=jU es fr.tm}
def rY:List Eff->bn->bn
 |[],O=>O
 |e::r,O=>rY r (e.objs O)
def sealed:List Eff->bn
 |[]=>[]
 | .shut id _ _::r=>(id,.dead)::sealed r
 | _::r=>sealed r
def putDst(dst:Option Nat)(v:AV)(tm:List (Nat×AV)):List (Nat×AV):=
 match dst with
 |some d=>(d,v)::tm
 |none=>tm
def after(s:St)(dst:Option Nat)(rest:List It)(v:AV)(O:bn)(aG:Nat)(iP:List Eff):St:=
 match iP with
 |[]=>{s with cur:={s.cur with tm:=putDst dst v s.cur.tm,td:=rest},objs:=O,aG}
 |es=>{cur:={s.cur with tm:=putDst dst v (jU es s.cur.tm),td:=rest},callers:=jG es s.callers,objs:=sealed es++rY es O,aG,bx:=s.bx}
def vY(id:Nat):List It->Option (List It)
 | .inBlock j::k=>bif Nat.beq j id then some k else vY id k
 | _::k=>vY id k
 |[]=>none
def Zm:List Fr->List (Nat×Nat)->Bool
 |[],[]=>true
 |fr::r,(f,d)::p=>Nat.beq fr.fn f&&(match fr.td with
  | .ops _ (o::_)::_=>(match o.dst with|some e=>Nat.beq e d|none=>false)
  | .wait _ all i rest::_=>(match nth all i with|some o=>(match o.dst with|some e=>Nat.beq (e+1000*(rest.length+1)) d|none=>false)|none=>false)
  | _=>false)&&Zm r p
 | _,_=>false
def foreign:Nat:=0
def aeo(s:St):Nat->Option Fr
 |0=>some s.cur
 |d+1=>nth s.callers d
def rZ(s:St):Loc->Option AV
 | .slot d i=>match aeo s d with
  |some fr=>look fr.tm i
  |none=>none
 | .cell l c=>match rZ s l with
  |some (.ptr id off)=>match look s.objs id with
   |some (.box cs)=>nth cs (off+c)
   | _=>none
  |some (.agg cs)=>nth cs c
  |some (.func _ _ cs)=>nth cs c
  |some (.iface _ v)=>some v
  | _=>none
def ai5(s:St):List (Loc×Nat)->Bool
 |[]=>true
 |(l,g)::r=>(match rZ s l with|some (.func (.func f) _ _)=>Nat.beq f g| _=>false)&&ai5 s r
def cutAt(f r:Nat)(s:St):List Cut->Option dB
 |[]=>none
 |c::l=>bif Nat.beq f c.fn&&Nat.beq r c.reg&&(match c.path with|none=>true|some p=>Zm s.callers p)&&ai5 s c.fns then some c.tmpl else cutAt f r s l
def mO{α:Type}(f:α->α):List α->Nat->List α
 |[],_=>[]
 |x::r,0=>f x::r
 |x::r,i+1=>x::mO f r i
def xk(f:AV->AV)(i:Nat):List (Nat×AV)->List (Nat×AV)
 |[]=>[]
 |(j,v)::r=>bif Nat.beq j i then (j,f v)::r else (j,v)::xk f i r
def uD(s:St):Loc->(AV->AV)->St
 | .slot 0 i,f=>{s with cur:={s.cur with tm:=xk f i s.cur.tm}}
 | .slot (d+1) i,f=>{s with callers:=mO (fun fr=>{fr with tm:=xk f i fr.tm}) s.callers d}
 | .cell l c,f=>match rZ s l with
  |some (.ptr id off)=>match look s.objs id with
   |some (.box cs)=>{s with objs:=(id,.box (mO f cs (off+c)))::s.objs}
   | _=>s
  |some (.agg cs)=>uD s l fun _=> .agg (mO f cs c)
  |some (.func fn a cs)=>uD s l fun _=> .func fn a (mO f cs c)
  |some (.iface t v)=>uD s l fun _=> .iface t (f v)
  | _=>s
def uF(m:List (Nat×Nat)):List Nat->Option (List Nat)
 |[]=>some []
 |i::r=>match (bif Nat.beq i foreign then some foreign else look m i),uF m r with
  |some j,some l=>some (j::l)
  | _,_=>none
mutual
def jV(m:List (Nat×Nat)):AV->AV
 | .own id=>match look m id with|some j=> .own j|none=> .dead
 | .ptr id off=>match look m id with|some j=> .ptr j off|none=> .dead
 | .gX id i off=>match look m id with|some j=> .gX j i off|none=> .dead
 | .mp id=>match look m id with|some j=> .mp j|none=> .dead
 | .sub id lo hi=>match look m id with|some j=> .sub j lo hi|none=> .dead
 | .ro ts rows deps=>match uF m deps with|some l=> .ro ts rows l|none=> .dead
 | .iE ts rows deps i off=>match uF m deps with|some l=> .iE ts rows l i off|none=> .dead
 | .func fn a b=> .func fn (qy m a) (qy m b)
 | .iface t v=> .iface t (jV m v)
 | .agg cs=> .agg (qy m cs)
 | .AY cs=> .AY (qy m cs)
 |v=>v
def qy(m:List (Nat×Nat)):List AV->List AV
 |[]=>[]
 |v::r=>jV m v::qy m r
end
def CQ(m:List (Nat×Nat))(O:bn):List (Nat×Nat)->Option bn
 |[]=>some []
 |(i,j)::r=>match look O i,CQ m O r with
  |some (.box cs),some l=>some ((j,.box (qy m cs))::l)
  |some (.arr ts rows wr),some l=>some ((j,.arr ts rows wr)::l)
  |some (.map d),some l=>bif Zj d then some ((j,.map d)::l) else none
  | _,_=>none
def Bf(m:List (Nat×Nat))(tm:List (Nat×AV)):List Nat->List (Nat×AV)
 |[]=>[]
 |i::r=>match look tm i with
  |some v=>(i,jV m v)::Bf m tm r
  |none=>Bf m tm r
def su(s:St):List (Loc×Option aC)->St
 |[]=>s
 |(l,some ts)::r=>match rZ s l with
  |some .aT=>su (uD {s with objs:=(s.aG,.arr ts [] true)::s.objs,aG:=s.aG+1} l fun _=> .own s.aG) r
  | _=>su s r
 |(_,none)::r=>su s r
def Qw(s:St):List (Loc×Option aC)->Nat->Option (List (Nat×Nat))
 |[],_=>some []
 |(l,_)::r,n=>match rZ s l,Qw s r (n+1) with
  |some (.ptr id _),some m=>some ((id,n)::m)
  |some (.own id),some m=>some ((id,n)::m)
  |some (.gX id _ _),some m=>some ((id,n)::m)
  |some (.mp id),some m=>some ((id,n)::m)
  | _,_=>none
def lQ(m:List (Nat×Nat)):List Fr->List (List Nat)->List Fr
 |[],_=>[]
 |fr::r,[]=>{fr with tm:=[]}::lQ m r []
 |fr::r,k::ks=>{fr with tm:=Bf m fr.tm k}::lQ m r ks
def CS:List (Nat×Nat)->Bool
 |[]=>true
 |(i,_)::r=>(match look r i with|none=>true|some _=>false)&&CS r
def zq(es:List Eff)(s:St):St:=
 match es with
 |[]=>s
 |es=>{cur:={s.cur with tm:=jU es s.cur.tm},callers:=jG es s.callers,objs:=sealed es++rY es s.objs,aG:=s.aG,bx:=s.bx}
def NH:List Nat->List Nat
 |[]=>[]
 |i::r=>bif Nat.beq i foreign then NH r else i::NH r
def Qx(TK:Bool):List Nat->Bool
 |[]=>true
 |i::r=>Nat.beq i foreign&&TK&&Qx TK r
def ai6:AV->List Nat
 | .own id=>[id]
 | .ro _ _ deps=>NH deps
 | _=>[]
def Zn(l:Loc)(ts:aC)(TK:Bool)(s:St):Option St:=
 match rZ s l with
 |some .aT=>some (uD s l fun _=> .ro ts [] (bif TK then [foreign] else []))
 |some v=>match kY s.objs (ai6 v) with
  |some es=>match rZ (zq es s) l with
   |some (.ro ts' rows deps)=>bif ts'.beq ts&&Qx TK deps then some (uD (zq es s) l fun _=> .ro ts' rows (bif TK then [foreign] else [])) else none
   | _=>none
  |none=>none
 |none=>none
def LG:List (Loc×aC×Bool)->St->Option St
 |[],s=>some s
 |(l,ts,b)::r,s=>match Zn l ts b s with
  |some s'=>LG r s'
  |none=>none
def fixed(m:List (Nat×Nat)):List Nat->Bool
 |[]=>true
 |i::r=>(match look m i with|some j=>Nat.beq j i|none=>false)&&fixed m r
def Bg(tm:List (Nat×AV)):List Nat->List (Nat×AV)
 |[]=>[]
 |i::r=>match look tm i with
  |some v=>(i,v)::Bg tm r
  |none=>Bg tm r
def lS:List Fr->List (List Nat)->List Fr
 |[],_=>[]
 |fr::r,[]=>{fr with tm:=[]}::lS r []
 |fr::r,k::ks=>{fr with tm:=Bg fr.tm k}::lS r ks
def canon(t:dB)(s:St):Option St:=
 bif t.raw then (match t.keep with
  |[]=>some s
  |ks=>match lS (s.cur::s.callers) ks with
   |c::cs=>some {s with cur:=c,callers:=cs}
   |[]=>none) else
 match LG t.ros s with
 |some s=>
  let s:=su s t.Eb
  match Qw s t.Eb 1 with
  |some m=>bif CS m&&fixed m s.bx then match CQ m s.objs m with
   |some O=>match lQ m (s.cur::s.callers) t.keep with
    |c::cs=>some {cur:=c,callers:=cs,objs:=O,aG:=t.Eb.length+1,bx:=s.bx}
    |[]=>none
   |none=>none
   else none
  |none=>none
 |none=>none
def sD(fn:Func)(s:St):Option (List AV):=go fn.results.toList
 where
 go:List ResultVar->Option (List AV)
  |[]=>some []
  | .tmp t::r=>match look s.cur.tm t,go r with
   |some v,some vs=>some (v::vs)
   | _,_=>none
  | .cell a t::r=>match look s.cur.tm a,look C.ty t,go r with
   |some (.ptr id off),some ti,some vs=>match look s.objs id with
    |some (.box cs)=>match part ti.agg ti.size off cs with
     |some v=>some (v::vs)
     |none=>none
    | _=>none
   |some (.gX id i off),some _,some vs=>match look s.objs id,uS C t with
    |some (.arr ts rows _),some (ts',n)=>bif Nat.beq ts'.n ts.n&&Nat.beq off 0&&Nat.ble (i.toNat+n) rows.length then some (.agg (GH ts rows n i.toNat)::vs) else none
    | _,_=>none
   | _,_,_=>none
def uU:List AV->Nat->List (Nat×AV)
 |[],_=>[]
 |v::r,n=>(n,v)::uU r (n+1)
inductive Want|yes|no|hang (d:Nat) (b:Bool) (w:Bool)
def wanted(all:List Oper)(tm:List (Nat×AV))(o:Oper):Option Want:=
 match o.guard with
 |none=>some .yes
 |some (j,w)=>match nth all j with
  |some oj=>match oj.dst with
   |some d=>match look tm d with
    |some (.bool b)=>some (.hang d b w)
    |some .undef=>some .no
    | _=>none
   |none=>none
  |none=>none
def know(s:St)(d:Nat)(b:Bool):St:={s with cur:={s.cur with tm:=(d,.bool b)::s.cur.tm}}
def pq(s:St)(c:Operand)(b:Bool):St:=match c with
 | .tmp t=>know s t b
 | _=>s
def qc(s:St)(td:List It):St:={s with cur:={s.cur with td}}
def pz(s:St)(pins:Option (List Nat))(all:List Oper)(ord:List (Nat×List Nat))(k:List It):St:={s with cur:={s.cur with td:= .drawn pins all ord [] s.aG::k},aG:=s.aG+all.length}
def V3(s:St)(o:Oper):Option (FuncId×List AV×Code):=match callee C s.cur.tm o.op with
 |some (g,vs)=>match look C.sig g with
  |some _=>none
  |none=>match look C.fns g with
   |some fn=>match fn.body with
    |some body=>some (g,vs,body)
    |none=>none
   |none=>none
 |none=>none
noncomputable def jf(Rt:St->Option R)(fin:List AV->St->Option R):Nat->Bool->St->Option R
 |0,_,_=>none
 |n+1,fresh,s=>
  let to (td:List It):Option R:=jf Rt fin n false (qc s td)
  let ret:Option R:=match look C.fns s.cur.fn with
   |some fn=>match sD C fn s with
    |some vs=>match s.callers with
     |[]=>fin vs s
     |c::cs=>match c.td with
      | .ops all (o::rest)::k=>jf Rt fin n false {s with cur:={c with tm:=putDst o.dst (jr vs) c.tm,td:= .ops all rest::k},callers:=cs}
      | .wait ps all i rest::k=>match nth all i with
       |some o=>jf Rt fin n false {s with cur:={c with tm:=putDst o.dst (jr vs) c.tm,td:= .drawn (some ps) all rest [] s.aG::k},callers:=cs,aG:=s.aG+all.length}
       |none=>none
      | _=>none
    |none=>none
   |none=>none
  match s.cur.td with
  |[]=>ret
  | .inBlock _::k=>to k
  | .inLoop b::k=>to (.code b:: .inLoop b::k)
  | .code .skip::k=>to k
  | .code (.seq a b)::k=>to (.code a:: .code b::k)
  | .code (.cond c a b)::k=>match ev s.cur.tm c with
   |some (.bool t)=>sel t (jf Rt fin n false (qc (pq s c true) (.code a::k))) (jf Rt fin n false (qc (pq s c false) (.code b::k)))
   | _=>none
  | .code (.block id b)::k=>to (.code b:: .inBlock id::k)
  | .code (.loop b)::k=>to (.code b:: .inLoop b::k)
  | .code (.exit id)::k=>match vY id k with
   |some k'=>to k'
   |none=>none
  | .code .ret::_=>ret
  | .code (.region id ops dr)::k=>
   let enter:Option R:=bif dr then match Bd s.cur.fn id C.nV with
     |some (o::os)=>sameAll (jf Rt fin n false (pz s (rX s.cur.fn id C.nV) ops.toList o k)) (os.map fun o=>jf Rt fin n false (pz s (rX s.cur.fn id C.nV) ops.toList o k))
     | _=>none
    else to (.ops ops.toList ops.toList::k)
   bif fresh then enter else
    match cutAt s.cur.fn id s C.cuts with
    |some t=>match canon t s with
     |some s'=>Rt s'
     |none=>none
    |none=>enter
  | .drawn _ _ [] _ _::k=>to k
  | .drawn pins all ((i,an)::rest) watch base::k=>match nth all i with
   |none=>none
   |some o=>
    let go (s:St):Option R:=
     bif Ah C o then bif CO (fE s.cur.tm (opers o.op)) an watch&&unread [base+i] an watch then fP C Rc s.cur.tm s.objs (base+i) o fun v O _ iP=>match iP with
       |[]=>jf Rt fin n false (after s o.dst (.drawn pins all rest ((i,(base+i)::(v.kids++(kW s.cur.tm (opers o.op)++(jg s.objs (fE s.cur.tm (opers o.op))++Hf O (base+i)))),(base+i)::fE s.cur.tm (opers o.op),[base+i])::watch) base::k) v O s.aG [])
       | _=>none
      else none
     else bif quiet C o then bif CO (dJ s.cur.tm o) an watch then fP C Rc s.cur.tm s.objs s.aG o fun v O aG iP=>jf Rt fin n false (after s o.dst (.drawn pins all rest ((i,qN s.cur.tm s.objs o v,dJ s.cur.tm o,[])::watch) base::k) v O aG iP)
      else none
     else bif CO (kH s.cur.tm s.objs o) an watch&& !Qu o then match V3 C s o with
       |some (g,vs,body)=>bif Zl pins all i an rest then jf Rt fin n false {s with cur:={fn:=g,tm:=uU vs 0,td:=[.code body]},callers:={s.cur with td:= .wait (ag9 pins) all i rest::k}::s.callers} else none
       |none=>fP C Rc s.cur.tm s.objs s.aG o fun v O aG iP=>
        bif CJ s.aG (touched C s.cur.tm s.objs o) (jT iP) an watch&&CP base (touched C s.cur.tm s.objs o++jT iP) rest then jf Rt fin n false (after s o.dst (.drawn pins all rest watch base::k) v O aG iP) else none
      else none
    let pass (s:St):Option R:=jf Rt fin n false (after s o.dst (.drawn pins all rest watch base::k) .undef s.objs s.aG [])
    match wanted all s.cur.tm o with
    |some .yes=>go s
    |some .no=>pass s
    |some (.hang d b true)=>sel b (go (know s d true)) (pass (know s d false))
    |some (.hang d b false)=>sel b (pass (know s d true)) (go (know s d false))
    |none=>none
  | .ops _ []::k=>to k
  | .ops all (o::rest)::k=>
   let go (s:St):Option R:=
    match V3 C s o with
    |some (g,vs,body)=>jf Rt fin n false {s with cur:={fn:=g,tm:=uU vs 0,td:=[.code body]},callers:=s.cur::s.callers}
    |none=>fP C Rc s.cur.tm s.objs s.aG o fun v O aG iP=>jf Rt fin n false (after s o.dst (.ops all rest::k) v O aG iP)
   let pass (s:St):Option R:=jf Rt fin n false (after s o.dst (.ops all rest::k) .undef s.objs s.aG [])
   match wanted all s.cur.tm o with
   |some .yes=>go s
   |some .no=>pass s
   |some (.hang d b true)=>sel b (go (know s d true)) (pass (know s d false))
   |some (.hang d b false)=>sel b (pass (know s d true)) (go (know s d false))
   |none=>none
  | _=>none
end
end Go.E
end
section
namespace Go.E
def gJ(m:Md)(t:CT)(d:t.D)(aG:Nat):AV×bn×Nat:=
 match t,m with
 | .sl ts,.mv=>(.own aG,[(aG,.arr ts d true)],aG+1)
 | .sl ts,.ro=>(.ro ts d [foreign],[],aG)
 |t,_=>(t.av d,[],aG)
def dP:(ts:aC)->List Md->ts.D->Nat->List AV×bn×Nat
 | .one t,ms,d,aG=>let (v,o,n):=gJ (match ms with|m::_=>m|[]=> .ro) t d aG;([v],o,n)
 | .cons t ts,ms,d,aG=>
  bif jH t then
   let (v,o,n):=gJ (match ms with|m::_=>m|[]=> .ro) t d.1 aG
   let (vs,o',n'):=dP ts (match ms with| _::r=>r|[]=>[]) d.2 n
   (v::vs,o'++o,n')
  else
   let (vs,o',n'):=dP ts ms d.2 aG
   (t.av d.1::vs,o',n')
def fK(p:PT)(d:p.sh.D)(b aG:Nat):AV×bn×Nat:=
 match p,d with
 |⟨.one t,ms⟩,d=>gJ (match ms with|m::_=>m|[]=> .ro) t d aG
 |⟨.agg ts,ms⟩,d=>let (vs,o,n):=dP ts ms d aG;(.agg vs,o,n)
 |⟨.rP,_⟩,_=>(.agg [],[],aG)
 |⟨.st ts,ms⟩,d=>let (vs,o,n):=dP ts ms d aG;(.ptr b 0,(b,.box vs)::o,n)
def gY:(ps:List PT)->He ps->Nat->Nat->List AV×bn×Nat
 |[],_,_,aG=>([],[],aG)
 |[p],d,b,aG=>let (v,o,n):=fK p d b aG;([v],o,n)
 |p::q::r,d,b,aG=>
  let (v,o,n):=fK p d.1 b aG
  let (vs,o',n'):=gY (q::r) d.2 (bif fQ p then b+1 else b) n
  (v::vs,o'++o,n')
def jh:List PT->Nat
 |[]=>0
 |p::r=>bif fQ p then jh r+1 else jh r
def jE:Nat->Nat->List Nat
 | _,0=>[]
 |n,m+1=>n::jE (n+1) m
def start(f:FuncId)(body:Code)(s:dX)(a:s.A):St:=
 let (vs,o,n):=gY s.ps a 1 (1+jh s.ps)
 {cur:={fn:=f,tm:=uU vs 0,td:=[.code body]},callers:=[],objs:=o,aG:=n,bx:=jE 1 (jh s.ps)}
def LH(m:Md)(x:AV):Option (List Nat×List Nat):=
 match m,x with
 | .mv,.own id=>some ([id],[])
 | .mv,.aT=>some ([],[])
 | .mv,_=>none
 | _,.own id=>some ([],[id])
 | _,.ro _ _ deps=>some ([],deps)
 | _,_=>some ([],[])
def oq:List CT->List Md->List AV->Option (List Nat×List Nat)
 |[],_,[]=>some ([],[])
 |t::ts,ms,x::xs=>
  bif jH t then match ms with
   |m::ms=>match LH m x,oq ts ms xs with
    |some (a,b),some (a',b')=>some (a++a',b++b')
    | _,_=>none
   |[]=>none
  else oq ts ms xs
 | _,_,_=>none
def vZ(O:bn)(p:PT)(x:AV):Option (p.sh.D×List Nat×List Nat):=
 match p with
 |⟨.one t,ms⟩=>match t.jq O x,oq [t] ms [x] with
  |some d,some (a,b)=>some (d,a,b)
  | _,_=>none
 |⟨.agg ts,ms⟩=>match x with
  | .agg cs=>match ts.iL O cs,oq ts.list ms cs with
   |some d,some (a,b)=>some (d,a,b)
   | _,_=>none
  | _=>none
 |⟨.rP,_⟩=>match x with
  | .agg []=>some ((),[],[])
  | _=>none
 |⟨.st ts,ms⟩=>match x with
  | .ptr id 0=>match look O id with
   |some (.box cs)=>match ts.iL O cs,oq ts.list ms cs with
    |some d,some (a,b)=>some (d,a,b)
    | _,_=>none
   | _=>none
  | _=>none
def uG(O:bn):(ps:List PT)->List AV->Option (He ps×List Nat×List Nat)
 |[],[]=>some ((),[],[])
 |[p],[x]=>vZ O p x
 |p::q::r,x::y::xs=>match vZ O p x,uG O (q::r) (y::xs) with
  |some (d,a,b),some (d',a',b')=>some ((d,d'),a++a',b++b')
  | _,_=>none
 | _,_=>none
def CU:List PT->Nat->List Nat
 |[],_=>[]
 |p::r,n=>bif fQ p then n::CU r (n+1) else CU r (n+1)
def slotsOf(tm:List (Nat×AV)):List Nat->Option (List AV)
 |[]=>some []
 |i::r=>match look tm i,slotsOf tm r with
  |some v,some vs=>some (v::vs)
  | _,_=>none
def Ei(O:bn):List Nat->Bool
 |[]=>true
 |i::r=>(match look O i with|some (.arr _ _ _)=>true| _=>false)&&Ei O r
def zu:List AV->List Nat->Bool
 |[],[]=>true
 | .ptr i 0::r,j::l=>Nat.beq i j&&zu r l
 | _,_=>false
def pF:List PT->Nat->Bool
 |[],0=>true
 |p::r,0=>fQ p&&pF r 0
 |p::r,n+1=> !fQ p&&pF r n
 | _,_=>false
def fin(s:dX)(vs:List AV)(st:St):Option s.B:=
 match slotsOf st.cur.tm (CU s.ps 0) with
 |some bs=>bif zu bs st.bx&&pF s.rs vs.length then match uG st.objs s.rs (vs++bs) with
  |some (d,moved,seen)=>bif nodup moved&&apart moved seen&&Ei st.objs seen then some d else none
  |none=>none
  else none
 |none=>none
def fuel:Nat:=4000
noncomputable def body(C:kC)(Rc:ah)(f:FuncId)(s:dX)(Rt:St->Option s.B)(a:s.A):Option s.B:=
 match look C.fns f with
 |some fn=>match fn.body with
  |some c=>jf C Rc Rt (fin s) fuel false (start f c s a)
  |none=>none
 |none=>none
noncomputable def from_(C:kC)(Rc:ah)(s:dX)(Rt:St->Option s.B)(st:St):Option s.B:=jf C Rc Rt (fin s) fuel true st
def TP(reg:Nat):Code->List It->Option (List It)
 | .region id ops dr,k=>bif Nat.beq id reg then some (.code (.region id ops dr)::k) else none
 | .seq a b,k=>match TP reg a (.code b::k) with
  |some l=>some l
  |none=>TP reg b k
 | .cond _ a b,k=>match TP reg a k with
  |some l=>some l
  |none=>TP reg b k
 | .block id b,k=>TP reg b (.inBlock id::k)
 | .loop b,k=>TP reg b (.inLoop b::k)
 | _,_=>none
def TQ(d:Nat):List Oper->Option (List Oper)
 |[]=>none
 |o::r=>match o.dst with
  |some e=>bif Nat.beq e d then some (o::r) else TQ d r
  |none=>TQ d r
def TR(d:Nat):Code->List It->Option (List It)
 | .region _ ops _,k=>match TQ d ops.toList with
  |some l=>some (.ops ops.toList l::k)
  |none=>none
 | .seq a b,k=>match TR d a (.code b::k) with
  |some l=>some l
  |none=>TR d b k
 | .cond _ a b,k=>match TR d a k with
  |some l=>some l
  |none=>TR d b k
 | .block id b,k=>TR d b (.inBlock id::k)
 | .loop b,k=>TR d b (.inLoop b::k)
 | _,_=>none
def jc(fn:Func)(reg:Nat):List It:=match fn.body with
 |some c=>match TP reg c [] with|some l=>l|none=>[]
 |none=>[]
def tdW(fn:Func)(d:Nat):List It:=match fn.body with
 |some c=>match TR d c [] with|some l=>l|none=>[]
 |none=>[]
def uV(all:List Oper)(i:Nat):List Nat:=match nth all i with
 |some o=>(o.after.toList.filter fun e=>Region.binds .any e).map (·.on)
 |none=>[]
def gslot(all:List Oper)(o:Oper):Option Nat:=match o.guard with
 |none=>none
 |some (j,_)=>match nth all j with
  |some oj=>oj.dst
  |none=>none
def qg(ord:List (Nat×List Nat))(i:Nat):List Nat:=match look ord i with
 |some l=>l
 |none=>[]
def still(C:kC)(o:Oper):Bool:=quiet C o||Ah C o
def Zo(C:kC)(all:List Oper)(i:Nat):Bool:=match nth all i with
 |some o=>still C o
 |none=>false
def Ej(C:kC)(pins:Option (List Nat))(all:List Oper)(i:Nat):Bool:=match pins with
 |none=>Zo C all i
 |some ps=>qP ps all i
def within(a b:List Nat):Bool:=match a with
 |[]=>true
 |x::r=>dN x b&&within r b
def meets(a b:List Nat):Bool:=match a with
 |[]=>false
 |x::r=>dN x b||meets r b
def V4(all:List Oper):List (Nat×List Nat)->List Nat->Bool
 |[],_=>true
 |(i,an)::r,D=>within an D&&within (uV all i) D&&V4 all r (i::D)
def Ik(qt:Nat->Bool)(all:List Oper)(open_:List Nat):List Nat->Bool
 |[]=>true
 |p::r=>(!qt p||meets (uV all p) open_)&&Ik qt all open_ r
def NI(qt:Nat->Bool)(all:List Oper):List Nat->Bool
 |[]=>true
 |b::r=>(qt b||Ik qt all (b::r) r)&&NI qt all r
def Zp(all:List Oper)(ord:List (Nat×List Nat))(i:Nat)(pr:List Nat):List Nat->Bool
 |[]=>true
 |q::r=>(dN q pr||pr.any fun j=>dN q (qg ord j))&&Zp all ord i pr r
def anB(all:List Oper)(ord:List (Nat×List Nat)):List Nat->Bool
 |[]=>true
 |i::r=>Zp all ord i (uV all i) (qg ord i)&&below all.length (uV all i)&&anB all ord r
def NJ(d:Nat):Option Nat->Bool
 |some e=> !Nat.beq e d
 |none=>true
def NK(all:List Oper)(p x:Oper):Bool:=
 (match p.dst with|some d=> !dN d (kZ (opers x.op))&&NJ d (gslot all x)&&NJ d x.dst|none=>true)&&
 (match x.dst with|some d=> !dN d (kZ (opers p.op))&&NJ d (gslot all p)|none=>true)
def Zq(all:List Oper)(ord:List (Nat×List Nat))(p:Nat)(op:Oper):List Nat->Bool
 |[]=>true
 |x::r=>(Nat.beq p x||dN p (qg ord x)||dN x (qg ord p)||(match nth all x with|some ox=>NK all op ox|none=>true))&&Zq all ord p op r
def aep(qt:Nat->Bool)(all:List Oper)(ord:List (Nat×List Nat))(idx:List Nat):List Nat->Bool
 |[]=>true
 |p::r=>(match nth all p with|some op=> !qt p||Zq all ord p op idx|none=>true)&&aep qt all ord idx r
def upTo:Nat->List Nat->Bool
 |0,_=>true
 |n+1,l=>dN n l&&upTo n l
def Qy(qt:Nat->Bool)(all:List Oper)(ord:List (Nat×List Nat)):Bool:=
 nodup (idxs ord)&&below all.length (idxs ord)&&upTo all.length (idxs ord)&&V4 all ord []&&NI qt all (idxs ord)&&anB all ord (idxs ord)&&aep qt all ord (idxs ord) (idxs ord)
def fD(qt:Nat->Bool):List Nat->List Nat
 |[]=>[]
 |i::r=>bif qt i then fD qt r else i::fD qt r
def tails(e:Nat):List (List Nat)->List (List Nat)
 |[]=>[]
 |(x::s)::r=>bif Nat.beq x e then s::tails e r else tails e r
 |[]::r=>tails e r
def TS:List (List Nat)->Bool
 |[]=>false
 |[]::_=>true
 | _::r=>TS r
def Il(an:Nat->List Nat):Nat->List (List Nat)->List Nat->Bool
 |0,_,_=>false
 |f+1,Qz,rem=>match rem with
  |[]=>TS Qz
  |rem=>rem.all fun e=>meets (an e) rem||Il an f (tails e Qz) (vX e rem)
def CV(qt:Nat->Bool):List (List (Nat×List Nat))->List (List Nat)
 |[]=>[]
 |o::r=>fD qt (idxs o)::CV qt r
def Io(qt:Nat->Bool)(all:List Oper):List (List (Nat×List Nat))->Bool
 |[]=>true
 |o::r=>Qy qt all o&&Io qt all r
def V5(qt:Nat->Bool)(all:List Oper)(nV:List (List (Nat×List Nat))):Bool:=match nV with
 |[]=>false
 |o::r=>Io qt all (o::r)&&Il (qg o) (all.length+1) (CV qt (o::r)) (fD qt (idxs o))
def gZ(C:kC)(fn:FuncId):Code->Bool
 | .region id ops dr=> !dr||(match Bd fn id C.nV with
  |some os=>V5 (Ej C (rX fn id C.nV) ops.toList) ops.toList os
  |none=>false)
 | .seq a b=>gZ C fn a&&gZ C fn b
 | .cond _ a b=>gZ C fn a&&gZ C fn b
 | .block _ b=>gZ C fn b
 | .loop b=>gZ C fn b
 | _=>true
def gy(C:kC)(fn:FuncId):List It->Bool
 |[]=>true
 | .code c::k=>gZ C fn c&&gy C fn k
 | .inLoop c::k=>gZ C fn c&&gy C fn k
 | .inBlock _::k=>gy C fn k
 | .ops _ _::k=>gy C fn k
 | .drawn _ _ _ _ _::k=>gy C fn k
 | .wait _ _ _ _::k=>gy C fn k
def fd(s:St):List (FuncId×List It):=(s.cur.fn,s.cur.td)::s.callers.map fun f=>(f.fn,f.td)
def GI(C:kC)(s:St):Prop:=∀ p∈fd s,gy C p.1 p.2=true
end Go.E
end
