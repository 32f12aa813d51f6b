/- What the data are on which functions are reckoned. -/
import GoSem.Step
section
namespace Go.E
mutual
inductive CT where
 | int (k : IntKind) | bool | str | sl (ts : cZ)
inductive cZ where
 | one (t : CT) | cons (t : CT) (ts : cZ)
end
mutual
def CT.D : CT -> Type
 | .int _ => Int | .bool => Bool | .str => ByteArray | .sl ts => List ts.D
def cZ.D : cZ -> Type
 | .one t => t.D | .cons t ts => t.D × ts.D
end
def cZ.n : cZ -> Nat
 | .one _ => 1 | .cons _ ts => ts.n + 1
def xM : IntKind -> IntKind -> Bool
 | .i8,.i8 | .i16,.i16 | .i32,.i32 | .i64,.i64 | .u8,.u8 | .u16,.u16 | .u32,.u32 | .u64,.u64 => true
 | _,_ => false
mutual
def CT.beq : CT -> CT -> Bool
 | .int k,.int k' => xM k k'
 | .bool,.bool => true
 | .str,.str => true
 | .sl a,.sl b => a.beq b
 | _,_ => false
def cZ.beq : cZ -> cZ -> Bool
 | .one a,.one b => a.beq b
 | .cons a x,.cons b y => a.beq b && x.beq y
 | _,_ => false
end
theorem vY {a b : IntKind} (h : xM a b = true) : a = b := by cases a <;> cases b <;> first | rfl | cases h
mutual
theorem CT.beq_eq : ∀ {a b : CT},a.beq b = true -> a = b
 | .int k,.int k',h => by rw [vY (a := k) (b := k') (by simpa [CT.beq] using h)]
 | .bool,.bool,_ => rfl
 | .str,.str,_ => rfl
 | .sl a,.sl b,h => by rw [cZ.beq_eq (a := a) (b := b) (by simpa [CT.beq] using h)]
 | .int _,.bool,h | .int _,.str,h | .int _,.sl _,h | .bool,.int _,h | .bool,.str,h | .bool,.sl _,h
 | .str,.int _,h | .str,.bool,h | .str,.sl _,h | .sl _,.int _,h | .sl _,.bool,h | .sl _,.str,h => by simp [CT.beq] at h
theorem cZ.beq_eq : ∀ {a b : cZ},a.beq b = true -> a = b
 | .one a,.one b,h => by rw [CT.beq_eq (a := a) (b := b) (by simpa [cZ.beq] using h)]
 | .cons a x,.cons b y,h => by
  have h : a.beq b = true ∧ x.beq y = true := by simpa [cZ.beq] using h
  rw [CT.beq_eq h.1,cZ.beq_eq h.2]
 | .one _,.cons _ _,h | .cons _ _,.one _,h => by simp [cZ.beq] at h
end
def jX (a b : cZ) (rows : List a.D) : Option (List b.D) :=
 if h : a.beq b = true then some (cZ.beq_eq h ▸ rows) else none
inductive AV where
 | int (k : IntKind) (n : Int) | bool (b : Bool) | str (s : ByteArray)
 | aO | ro (ts : cZ) (rows : List ts.D) (deps : List Nat) | own (id : Nat)
 | fH | ptr (id off : Nat) | iJ (id : Nat) (i : Int) (off : Nat) | iY (ts : cZ) (rows : List ts.D) (deps : List Nat) (i : Int) (off : Nat)
 | aQ | func (fn : Fn) (first captured : List AV)
 | o7 | iface (t : TypeId) (v : AV)
 | agg (cs : List AV) | BJ (vs : List AV)
 | undef | dead
 | mp (id : Nat)
 | raw (v : Value)
 | sub (id : Nat) (lo hi : Int)
inductive Gu where
 | lit (kt : CT) (es : List (kt.D × AV))
 | dat (kt vt : CT) (es : List (kt.D × vt.D))
inductive AO where
 | box (cs : List AV)
 | arr (ts : cZ) (rows : List ts.D) (wr : Bool)
 | dead
 | map (m : Gu)
abbrev bD := List (Nat × AO)
def look {α : Type} : List (Nat × α) -> Nat -> Option α
 | [],_ => none
 | (j,x) :: r,i => bif Nat.beq j i then some x else look r i
def nth {α : Type} : List α -> Nat -> Option α
 | [],_ => none
 | x :: _,0 => some x
 | _ :: r,i + 1 => nth r i
mutual
def CT.av : (t : CT) -> t.D -> AV
 | .int k,d => .int k d
 | .bool,d => .bool d
 | .str,d => .str d
 | .sl ts,d => .ro ts d []
end
def cZ.pq : (ts : cZ) -> ts.D -> List AV
 | .one t,d => [t.av d]
 | .cons t ts,d => t.av d.1 :: ts.pq d.2
def CT.je (O : bD) : (t : CT) -> AV -> Option t.D
 | .int k,.int k' n => bif xM k k' then some n else none
 | .bool,.bool b => some b
 | .str,.str s => some s
 | .sl _,.aO => some []
 | .sl ts,.ro ts' rows _ => jX ts' ts rows
 | .sl ts,.own id => match look O id with
  | some (.arr ts' rows _) => jX ts' ts rows
  | _ => none
 | _,_ => none
def cZ.iC (O : bD) : (ts : cZ) -> List AV -> Option ts.D
 | .one t,[x] => t.je O x
 | .cons t ts,x :: xs => match t.je O x,ts.iC O xs with
  | some d,some e => some (d,e)
  | _,_ => none
 | _,_ => none
def CT.zero : (t : CT) -> t.D
 | .int _ => (0 : Int)
 | .bool => false
 | .str => ByteArray.empty
 | .sl _ => []
def cZ.zero : (ts : cZ) -> ts.D
 | .one t => t.zero
 | .cons t ts => (t.zero,ts.zero)
def cZ.put (O : bD) : (ts : cZ) -> ts.D -> Nat -> AV -> Option ts.D
 | .one t,_,0,x => t.je O x
 | .cons t _,d,0,x => (t.je O x).map fun e => (e,d.2)
 | .cons _ ts,d,i + 1,x => (ts.put O d.2 i x).map fun e => (d.1,e)
 | _,_,_,_ => none
def cZ.puts (O : bD) (ts : cZ) : ts.D -> Nat -> List AV -> Option ts.D
 | d,_,[] => some d
 | d,i,x :: xs => match ts.put O d i x with
  | some e => puts O ts e (i + 1) xs
  | none => none
inductive Eff where
 | kill (id : Nat)
 | shut (id : Nat) (ts : cZ) (rows : List ts.D)
 | dQ (id : Nat)
def dJ (id : Nat) : List Nat -> Bool
 | [] => false
 | j :: r => bif Nat.beq j id then true else dJ id r
def vZ (id : Nat) : List Nat -> List Nat
 | [] => []
 | j :: r => bif Nat.beq j id then vZ id r else j :: vZ id r
def Eff.one : Eff -> AV -> AV
 | .kill id,.own j => bif Nat.beq j id then .dead else .own j
 | .shut id ts rows,.own j => bif Nat.beq j id then .ro ts rows [] else .own j
 | .shut id _ _,.ro ts rows deps => .ro ts rows (vZ id deps)
 | .shut id _ _,.iY ts rows deps i off => .iY ts rows (vZ id deps) i off
 | .dQ id,.ro ts rows deps => bif dJ id deps then .dead else .ro ts rows deps
 | .dQ id,.iY ts rows deps i off => bif dJ id deps then .dead else .iY ts rows deps i off
 | .kill id,.iJ j i off => bif Nat.beq j id then .dead else .iJ j i off
 | .kill id,.sub j lo hi => bif Nat.beq j id then .dead else .sub j lo hi
 | .shut id _ _,.sub j lo hi => bif Nat.beq j id then .dead else .sub j lo hi
 | .shut id ts rows,.iJ j i off => bif Nat.beq j id then .iY ts rows [] i off else .iJ j i off
 | _,v => v
mutual
def Eff.av (e : Eff) : AV -> AV
 | .agg cs => .agg (e.pq cs)
 | .BJ cs => .BJ (e.pq cs)
 | .func fn a b => .func fn (e.pq a) (e.pq b)
 | .iface t v => .iface t (e.av v)
 | v => e.one v
def Eff.pq (e : Eff) : List AV -> List AV
 | [] => []
 | v :: r => e.av v :: e.pq r
end
def Eff.tm (e : Eff) : List (Nat × AV) -> List (Nat × AV)
 | [] => []
 | (i,v) :: r => (i,e.av v) :: e.tm r
def Eff.objs (e : Eff) : bD -> bD
 | [] => []
 | (i,.box cs) :: r => (i,.box (e.pq cs)) :: e.objs r
 | x :: r => x :: e.objs r
structure TI where
 size : Nat
 agg : Bool := false
 bytes : Nat
 fields : List (Nat × Nat) := []
 elem : Nat := 0
 len : Nat := 0
 zero : List AV := []
 row : Option cZ := none
 kd : Nat := 0
 cmp : List CT := []
inductive Md where
 | ro | leak | mv
inductive Sh where
 | one (t : CT) | agg (ts : cZ) | pz | st (ts : cZ)
def Sh.D : Sh -> Type
 | .one t => t.D | .agg ts => ts.D | .pz => Unit | .st ts => ts.D
structure PT where
 sh : Sh
 md : List Md := []
def FX : List PT -> Type
 | [] => Unit
 | [p] => p.sh.D
 | p :: q :: r => p.sh.D × FX (q :: r)
structure fM where
 ps : List PT
 rs : List PT
 lk : Bool := false
abbrev fM.A (s : fM) : Type := FX s.ps
abbrev fM.B (s : fM) : Type := FX s.rs
inductive It where
 | code (c : Code) | inBlock (id : Nat) | inLoop (body : Code) | ops (all : List Oper) (rest : List Oper)
 | drawn (pins : Option (List Nat)) (all : List Oper) (rest : List (Nat × List Nat)) (watch : List (Nat × List Nat × List Nat × List Nat)) (base : Nat)
 | wait (pins : List Nat) (all : List Oper) (i : Nat) (rest : List (Nat × List Nat))
structure Fr where
 fn : FuncId
 tm : List (Nat × AV)
 td : List It
structure St where
 cur : Fr
 callers : List Fr
 objs : bD
 ay : Nat
 bx : List Nat
inductive Loc where
 | slot (d i : Nat) | cell (l : Loc) (c : Nat)
structure dD where
 raw : Bool := false
 keep : List (List Nat)
 ros : List (Loc × cZ × Bool) := []
 DI : List (Loc × Option cZ) := []
structure Cut where
 fn : Nat
 reg : Nat
 path : Option (List (Nat × Nat))
 tmpl : dD
 fns : List (Loc × Nat) := []
structure Zo where
 fn : Nat
 reg : Nat
 ou : List (List (Nat × List Nat))
 pins : Option (List Nat) := none
structure kG where
 ty : List (Nat × TI)
 fns : List (Nat × Func)
 sig : List (Nat × fM)
 cuts : List Cut
 ou : List Zo
 subs : List Nat := []
 NJ : List (Nat × List (String × FuncId)) := []
 VE : List Nat := []
abbrev ak := FuncId -> (s : fM) -> s.A -> Option s.B
end Go.E
end
section
namespace Go.E
def uX : Value -> Option AV
 | .int k n => some (.int k n)
 | .bool b => some (.bool b)
 | .string s => some (.str s)
 | .pointer none => some .fH
 | .slice none 0 0 => some .aO
 | .nilFunc => some .aQ
 | .map none => some (.raw (.map none))
 | .nilIface => some .o7
 | _ => none
def ofValues : List Value -> Option (List AV)
 | [] => some []
 | v :: r => match uX v,ofValues r with
  | some x,some xs => some (x :: xs)
  | _,_ => none
def ofValue : Value -> Option AV
 | .agg cs => (ofValues cs.toList).map .agg
 | v => uX v
def ev (tm : List (Nat × AV)) : Operand -> Option AV
 | .tmp t => look tm t
 | .const v => ofValue v
 | .func f => some (.func (.func f) [] [])
 | .global _ => none
def evs (tm : List (Nat × AV)) : List Operand -> Option (List AV)
 | [] => some []
 | x :: r => match ev tm x,evs tm r with
  | some v,some vs => some (v :: vs)
  | _,_ => none
def Js (tm : List (Nat × AV)) : List (Nat × Operand) -> Option (List (Nat × AV))
 | [] => some []
 | (i,x) :: r => match ev tm x,Js tm r with
  | some v,some vs => some ((i,v) :: vs)
  | _,_ => none
def AV.cells : AV -> List AV
 | .agg cs => cs
 | v => [v]
def takeN {α : Type} : Nat -> List α -> Option (List α)
 | 0,_ => some []
 | n + 1,x :: r => (takeN n r).map (x :: ·)
 | _ + 1,[] => none
def rY {α : Type} : Nat -> List α -> List α
 | 0,l => l
 | _ + 1,[] => []
 | n + 1,_ :: r => rY n r
def part (agg : Bool) (n off : Nat) (cs : List AV) : Option AV :=
 match takeN n (rY off cs) with
 | some l => bif agg then some (.agg l) else match l with
  | [x] => some x
  | _ => none
 | none => none
def setCells : List AV -> Nat -> List AV -> Option (List AV)
 | cs,0,[] => some cs
 | _ :: cs,0,v :: vs => (setCells cs 0 vs).map (v :: ·)
 | c :: cs,n + 1,vs => (setCells cs n vs).map (c :: ·)
 | [],_,_ => none
def VF (s : ByteArray) (i : Int) : Int := match s[i.toNat]? with | some b => (b.toNat : Int) | none => 0
def ug (s : ByteArray) : List Int := s.data.toList.map fun b => (b.toNat : Int)
def jr (l : List Int) : ByteArray := ⟨(l.map fun n => UInt8.ofNat n.toNat).toArray⟩
def zh {α : Type} : List α -> Nat -> α -> List α
 | [],_,_ => []
 | _ :: r,0,y => y :: r
 | x :: r,i + 1,y => x :: zh r i y
def sel {α : Type} (b : Bool) (x y : α) : α := match b with
 | true => x
 | false => y
def chk {R : Type} (p : Prop) [Decidable p] (x : Option R) : Option R := if p then x else none
section
variable {R : Type} (C : kG) (Rc : ak)
abbrev KK (R : Type) := AV -> bD -> Nat -> List Eff -> Option R
def nodup : List Nat -> Bool
 | [] => true
 | x :: r => !dJ x r && nodup r
structure Rows where
 ts : cZ
 rows : List ts.D
 deps : List Nat
def rowsOf (O : bD) : AV -> Option Rows
 | .ro ts rows deps => some ⟨ts,rows,deps⟩
 | .own id => match look O id with
  | some (.arr ts rows _) => some ⟨ts,rows,[id]⟩
  | _ => none
 | .sub id lo hi => match look O id with
  | some (.arr ts rows _) => some ⟨ts,(rows.take hi.toNat).drop lo.toNat,[id]⟩
  | _ => none
 | _ => none
def lC (O : bD) : List Nat -> Option (List Eff)
 | [] => some []
 | id :: r => match look O id,lC O r with
  | some (.arr ts rows _),some l => some (.shut id ts rows :: l)
  | _,_ => none
def DJ (O : bD) : AV -> Option (List Eff)
 | .own id => lC O [id]
 | .ro _ _ deps => lC O deps
 | _ => some []
def oD (O : bD) : List AV -> Option (List Eff)
 | [] => some []
 | v :: r => match DJ O v,oD O r with
  | some a,some b => some (a ++ b)
  | _,_ => none
def nS (place : Nat -> Option (Nat × Nat)) : List AV -> List (Nat × AV) -> Option (List AV)
 | cs,[] => some cs
 | cs,(i,v) :: r => match place i with
  | some (off,n) => match setCells cs off v.cells with
   | some cs' => bif Nat.beq v.cells.length n then nS place cs' r else none
   | none => none
  | none => none
def oG (O : bD) (ts : cZ) : List ts.D -> List (Nat × AV) -> Option (List ts.D)
 | rs,[] => some rs
 | rs,(i,v) :: r => match ts.iC O v.cells with
  | some d => bif Nat.blt i rs.length then oG O ts (zh rs i d) r else none
  | none => none
def BK : List CT -> List AV -> List AV -> Option Bool
 | [],[],[] => some true
 | .int _ :: ts,.int k a :: xs,.int k' b :: ys => bif xM k k' then match BK ts xs ys with
  | some r => some ((a == b) && r)
  | none => none
  else none
 | .bool :: ts,.bool a :: xs,.bool b :: ys => match BK ts xs ys with
  | some r => some ((a == b) && r)
  | none => none
 | .str :: ts,.str a :: xs,.str b :: ys => match BK ts xs ys with
  | some r => some ((a == b) && r)
  | none => none
 | _,_,_ => none
def aeq (kd : Nat) (cmp : List CT) (lit : Bool) (O : bD) (x y : AV) (K : Bool -> Option R) : Option R :=
 match x,y with
 | .agg xs,.agg ys => match cmp with
  | [] => none
  | ts => match BK ts xs ys with
   | some b => K b
   | none => none
 | .bool a,.bool b => bif Nat.beq kd 10 then K (a == b) else none
 | .fH,.fH => bif Nat.beq kd 1 then K true else none
 | .fH,.ptr _ _ | .ptr _ _,.fH => bif Nat.beq kd 1 then K false else none
 | .o7,.o7 => bif Nat.beq kd 2 && lit then K true else none
 | .o7,.iface _ _ | .iface _ _,.o7 => bif Nat.beq kd 2 then K false else none
 | .raw (.map none),.raw (.map none) => bif Nat.beq kd 7 then K true else none
 | .mp _,.raw (.map none) => bif Nat.beq kd 7 then K false else none
 | .aQ,.aQ => bif Nat.beq kd 3 then K true else none
 | .aQ,.func _ _ _ | .func _ _ _,.aQ => bif Nat.beq kd 3 then K false else none
 | .aO,.aO => bif Nat.beq kd 4 then K true else none
 | .own id,.aO => match look O id with
  | some (.arr _ rows _) => bif Nat.beq kd 4 then chk (0 < rows.length) (K false) else none
  | _ => none
 | .ro _ rows _,.aO => bif Nat.beq kd 4 then chk (0 < rows.length) (K false) else none
 | _,_ => none
def Gv (op : BinOp) (k : IntKind) (x y : Int) (K : AV -> Option R) : Option R :=
 match op with
 | .add => K (.int k (k.wrap (x + y)))
 | .sub => K (.int k (k.wrap (x - y)))
 | .mul => K (.int k (k.wrap (x * y)))
 | .quo => chk (¬ y = 0) (K (.int k (k.wrap (x.tdiv y))))
 | .rem => chk (¬ y = 0) (K (.int k (x.tmod y)))
 | .and => K (.int k (k.wrap (BitVec.ofInt k.bits x &&& BitVec.ofInt k.bits y).toNat))
 | .or => K (.int k (k.wrap (BitVec.ofInt k.bits x ||| BitVec.ofInt k.bits y).toNat))
 | .xor => K (.int k (k.wrap (BitVec.ofInt k.bits x ^^^ BitVec.ofInt k.bits y).toNat))
 | .andNot => K (.int k (k.wrap (BitVec.ofInt k.bits x &&& ~~~ BitVec.ofInt k.bits y).toNat))
 | .eql => K (.bool (x == y))
 | .neq => K (.bool (x != y))
 | .lss => K (.bool (decide (x < y)))
 | .leq => K (.bool (decide (x <= y)))
 | .gtr => K (.bool (decide (x > y)))
 | .geq => K (.bool (decide (x ≥ y)))
 | _ => none
def rZ (left : Bool) (k : IntKind) (x y : Int) (K : AV -> Option R) : Option R :=
 chk (0 <= y) (bif left then K (.int k (k.wrap (x * 2 ^ min y.toNat k.bits))) else K (.int k (x.fdiv (2 ^ min y.toNat k.bits))))
def KY (op : BinOp) (x y : ByteArray) (K : AV -> Option R) : Option R :=
 match op with
 | .add => chk (x.size + y.size <= 9223372036854775807) (K (.str (x ++ y)))
 | .eql => K (.bool (x.toList == y.toList))
 | .neq => K (.bool (!(x.toList == y.toList)))
 | .lss => K (.bool (Op.bytesLess x.toList y.toList))
 | .leq => K (.bool (Op.bytesLess x.toList y.toList || x.toList == y.toList))
 | .gtr => K (.bool (!(Op.bytesLess x.toList y.toList || x.toList == y.toList)))
 | .geq => K (.bool (!Op.bytesLess x.toList y.toList))
 | _ => none
def BL (kd : Nat) (cmp : List CT) (lit : Bool) (O : bD) (op : BinOp) (x y : AV) (K : AV -> Option R) : Option R :=
 match op,x,y with
 | .shl,.int k a,.int _ b => rZ true k a b K
 | .shr,.int k a,.int _ b => rZ false k a b K
 | op,.int k a,.int k' b => bif xM k k' then Gv op k a b K else none
 | op,.str a,.str b => KY op a b K
 | .eql,x,y => aeq kd cmp lit O x y fun t => K (.bool t)
 | .neq,x,y => aeq kd cmp lit O x y fun t => K (.bool (!t))
 | _,_,_ => none
def kJ {α : Type} (rows : List α) (lo hi : Option AV) (K : List α -> Option R) : Option R :=
 match lo,hi with
 | none,none => K rows
 | some (.int _ l),none => chk (0 <= l) (chk (l <= (rows.length : Int)) (K (rows.drop l.toNat)))
 | none,some (.int _ h) => chk (0 <= h) (chk (h <= (rows.length : Int)) (K (rows.take h.toNat)))
 | some (.int _ l),some (.int _ h) => chk (0 <= l) (chk (l <= h) (chk (h <= (rows.length : Int)) (K ((rows.take h.toNat).drop l.toNat))))
 | _,_ => none
def jY (len : Nat) (lo hi : Option AV) (K : Int -> Int -> Option R) : Option R :=
 match lo,hi with
 | none,none => K 0 len
 | some (.int _ l),none => chk (0 <= l) (chk (l <= (len : Int)) (K l len))
 | none,some (.int _ h) => chk (0 <= h) (chk (h <= (len : Int)) (K 0 h))
 | some (.int _ l),some (.int _ h) => chk (0 <= l) (chk (l <= h) (chk (h <= (len : Int)) (K l h)))
 | _,_ => none
def su (s : ByteArray) (lo hi : Option AV) (K : ByteArray -> Option R) : Option R :=
 match lo,hi with
 | none,none => K (s.extract 0 s.size)
 | some (.int _ l),none => chk (0 <= l) (chk (l <= (s.size : Int)) (K (s.extract l.toNat s.size)))
 | none,some (.int _ h) => chk (0 <= h) (chk (h <= (s.size : Int)) (K (s.extract 0 h.toNat)))
 | some (.int _ l),some (.int _ h) => chk (0 <= l) (chk (l <= h) (chk (h <= (s.size : Int)) (K (s.extract l.toNat h.toNat))))
 | _,_ => none
def DC (t : Nat) : Option cZ := match look C.ty t with
 | some ti => bif Nat.beq ti.kd 4 then match ti.row with
  | some (.one (.sl ts)) => some ts
  | _ => none else none
 | none => none
def Ap (t : Nat) : Bool := match look C.ty t with
 | some ti => Nat.beq ti.kd 9
 | none => false
def qU (t : Nat) : Nat := match look C.ty t with
 | some ti => ti.kd
 | none => 0
def NK (t : Nat) : List CT := match look C.ty t with
 | some ti => ti.cmp
 | none => []
def xC (t : Nat) : Option (cZ × Nat) := match look C.ty t with
 | some ti => bif Nat.beq ti.kd 5 then match look C.ty ti.elem with
  | some te => match te.row with
   | some ts => bif Nat.beq ti.size (ti.len * ts.n) then some (ts,ti.len) else none
   | none => none
  | none => none
  else none
 | none => none
def FQ (ts : cZ) (rows : List ts.D) : Nat -> Nat -> List AV
 | 0,_ => []
 | n + 1,j => ts.pq (rows.getD j ts.zero) ++ FQ ts rows n (j + 1)
def mQ (O : bD) (ts : cZ) : Nat -> List AV -> Option (List ts.D)
 | 0,[] => some []
 | 0,_ :: _ => none
 | n + 1,cs => match takeN ts.n cs with
  | some l => match ts.iC O l,mQ O ts n (rY ts.n cs) with
   | some d,some ds => some (d :: ds)
   | _,_ => none
  | none => none
def zi {α : Type} : List α -> Nat -> List α -> List α
 | l,_,[] => l
 | l,i,x :: r => zi (zh l i x) (i + 1) r
def Zp : Int -> Int -> Int
 | .ofNat 0,m => m
 | j,m => j + m
def NM {α : Type} : List (String × α) -> String -> Option α
 | [],_ => none
 | (n,x) :: r,m => bif n == m then some x else NM r m
def meth (t : Nat) (m : String) : Option FuncId := match look C.NJ t with
 | some l => NM l m
 | none => none
def keq : (kt : CT) -> kt.D -> kt.D -> Bool
 | .int _,a,b => (show Int from a) == b
 | .bool,a,b => (show Bool from a) == b
 | .str,a,b => (show ByteArray from a) == b
 | .sl _,_,_ => false
def qh : AV -> Bool
 | .int _ _ | .bool _ | .str _ | .aO | .fH | .aQ | .o7 | .func _ [] [] | .iface _ (.agg []) | .ptr _ _ => true
 | _ => false
def Qn : AV -> Bool
 | .ptr _ _ => false
 | _ => true
def KZ {α : Type} : List (α × AV) -> Bool
 | [] => true
 | (_,x) :: r => Qn x && KZ r
def VG : Gu -> Bool
 | .lit _ es => KZ es
 | .dat _ _ _ => true
def Aq (ti : TI) : Option CT := bif Nat.beq ti.kd 9 then some .str else bif Nat.beq ti.kd 10 then some .bool else bif Nat.beq ti.kd 11 then match ti.row with
  | some (.one (.int k)) => some (.int k)
  | _ => none
 else none
def BM (t : Nat) : Option (CT × Nat × Option CT) := match look C.ty t with
 | some ti => bif Nat.beq ti.kd 7 then match look C.ty ti.elem,look C.ty ti.len with
  | some tk,some tv => match Aq tk with
   | some kt => some (kt,ti.len,Aq tv)
   | none => none
  | _,_ => none
  else none
 | none => none
def JG (t : Nat) : Option AV := match look C.ty t with
 | some ti => bif ti.agg then none else match ti.zero with
  | [z] => bif Nat.beq ti.size 1 then some z else none
  | _ => none
 | none => none
def uY {α β : Type} (q : α -> α -> Bool) (k : α) : List (α × β) -> Option β
 | [] => none
 | (j,v) :: r => bif q k j then some v else uY q k r
def uf {α β : Type} (q : α -> α -> Bool) (k : α) (v : β) : List (α × β) -> List (α × β)
 | [] => [(k,v)]
 | (j,u) :: r => bif q k j then (k,v) :: r else (j,u) :: uf q k v r
def Qo {α β : Type} (q : α -> α -> Bool) (k : α) : List (α × β) -> List (α × β)
 | [] => []
 | (j,u) :: r => bif q k j then r else (j,u) :: Qo q k r
def xO (kt : CT) (k : kt.D) (z : AV) (K : AV -> Bool -> Option R) : List (kt.D × AV) -> Option R
 | [] => K z false
 | (j,v) :: r => sel (keq kt k j) (K v true) (xO kt k z K r)
def uO (kt : CT) (k : kt.D) (v : AV) (K : List (kt.D × AV) -> Option R) : List (kt.D × AV) -> List (kt.D × AV) -> Option R
 | acc,[] => K (acc ++ [(k,v)])
 | acc,(j,u) :: r => sel (keq kt k j) (K (acc ++ (k,v) :: r)) (uO kt k v K (acc ++ [(j,u)]) r)
def Gw (ok : Bool) (v : AV) (b : Bool) : AV := bif ok then .BJ [v,.bool b] else v
def isLit : Operand -> Bool
 | .const _ => true
 | _ => false
def plain : AV -> Bool
 | .undef | .BJ _ | .agg _ => false
 | _ => true
def DK : List AV -> Bool
 | [] => true
 | v :: r => plain v && DK r
def bC (id : Nat) : List Eff -> Bool
 | [] => false
 | .shut j _ _ :: r => Nat.beq j id || bC id r
 | _ :: r => bC id r
def wZ (tm : List (Nat × AV)) : Option Operand -> Option (Option AV)
 | none => some none
 | some x => (ev tm x).map some
def qV (ti : TI) (f : Nat) : Option (Nat × Nat) := nth ti.fields f
def xP (ft : Nat) : Bool := match look C.ty ft with
 | some tf => Nat.blt 0 tf.size
 | none => false
def qW (row : cZ) (elem : Nat) (O : bD) (ay : Nat) (x y : AV) (K : KK R) : Option R :=
 match look C.ty elem with
 | some te => match te.row with
  | some ts =>
   bif !row.beq ts then none else
   let ys : Option (List ts.D) := match y with
    | .aO => some []
    | .str s => jX (.one (.int .u8)) ts (ug s)
    | y => match rowsOf O y with
     | some r => jX r.ts ts r.rows
     | none => none
   match ys with
   | some ys => match x with
    | .aO => chk (ys.length * te.bytes <= 140737488355328) (K (.own ay) ((ay,.arr ts ys true) :: O) (ay + 1) [])
    | .own id => match look O id with
     | some (.arr ts' rows true) => match jX ts' ts rows with
      | some rows => chk ((rows.length + ys.length) * te.bytes <= 140737488355328) (K (.own id) ((id,.arr ts (rows ++ ys) true) :: O) ay [.kill id])
      | none => none
     | _ => none
    | _ => none
   | none => none
  | none => none
 | none => none
structure Got (s : List PT) where
 data : FX s
 iF : List Eff
 moved : List Nat
 used : List Nat
 boxes : List Nat
def sD (m : Md) (O : bD) (x : AV) : Option (List Eff × List Nat × List Nat) :=
 match m with
 | .ro => match x with
  | .own id => some ([],[],[id])
  | .ro _ _ deps => some ([],[],deps)
  | _ => some ([],[],[])
 | .leak => (DJ O x).map fun e => (e,[],match x with | .own id => [id] | .ro _ _ deps => deps | _ => [])
 | .mv => match x with
  | .own id => some ([.kill id,.dQ id],[id],[])
  | .aO => some ([],[],[])
  | _ => none
def jL : CT -> Bool
 | .sl _ => true
 | _ => false
def cZ.list : cZ -> List CT
 | .one t => [t]
 | .cons t ts => t :: ts.list
def gX (O : bD) : List CT -> List Md -> List AV -> Option (List Eff × List Nat × List Nat)
 | [],_,[] => some ([],[],[])
 | t :: ts,ms,x :: xs =>
  bif jL t then match ms with
   | m :: ms => match sD m O x,gX O ts ms xs with
    | some (a,b,c),some (a',b',c') => some (a ++ a',b ++ b',c ++ c')
    | _,_ => none
   | [] => none
  else gX O ts ms xs
 | _,_,_ => none
def getArg (O : bD) (p : PT) (x : AV) : Option (p.sh.D × List Eff × List Nat × List Nat × List Nat) :=
 match p with
 | ⟨.one t,ms⟩ => match t.je O x,gX O [t] ms [x] with
  | some d,some (a,b,c) => some (d,a,b,c,[])
  | _,_ => none
 | ⟨.agg ts,ms⟩ => match x with
  | .agg cs => match ts.iC O cs,gX O ts.list ms cs with
   | some d,some (a,b,c) => some (d,a,b,c,[])
   | _,_ => none
  | _ => none
 | ⟨.pz,_⟩ => match x with
  | .agg [] => some ((),[],[],[],[])
  | _ => none
 | ⟨.st ts,ms⟩ => match x with
  | .ptr id 0 => match look O id with
   | some (.box cs) => match ts.iC O cs,gX O ts.list ms cs with
    | some d,some (a,b,c) => some (d,a,b,c,[id])
    | _,_ => none
   | _ => none
  | _ => none
def getArgs (O : bD) : (ps : List PT) -> List AV -> Option (FX ps × List Eff × List Nat × List Nat × List Nat)
 | [],[] => some ((),[],[],[],[])
 | [p],[x] => getArg O p x
 | p :: q :: r,x :: y :: xs => match getArg O p x,getArgs O (q :: r) (y :: xs) with
  | some (d,a,b,c,e),some (d',a',b',c',e') => some ((d,d'),a ++ a',b ++ b',c ++ c',e ++ e')
  | _,_ => none
 | _,_ => none
def apart (a b : List Nat) : Bool := match a with
 | [] => true
 | x :: r => !dJ x b && apart r b
def dA (m : Md) (t : CT) (d : t.D) (ay : Nat) : AV × bD × Nat :=
 match t,m with
 | .sl ts,.mv => (.own ay,[(ay,.arr ts d true)],ay + 1)
 | t,_ => (t.av d,[],ay)
def putCells : (ts : cZ) -> List Md -> ts.D -> Nat -> List AV × bD × Nat
 | .one t,ms,d,ay => let (v,o,n) := dA (match ms with | m :: _ => m | [] => .ro) t d ay; ([v],o,n)
 | .cons t ts,ms,d,ay =>
  bif jL t then
   let (v,o,n) := dA (match ms with | m :: _ => m | [] => .ro) t d.1 ay
   let (vs,o',n') := putCells ts (match ms with | _ :: r => r | [] => []) d.2 n
   (v :: vs,o' ++ o,n')
  else
   let (vs,o',n') := putCells ts ms d.2 ay
   (t.av d.1 :: vs,o',n')
def fB : PT -> Bool
 | ⟨.st _,_⟩ => true
 | _ => false
def mJ {α : Type} : List α -> List α
 | [] => []
 | _ :: r => r
def dY (boxes : List Nat) (p : PT) (d : p.sh.D) (ay : Nat) : List AV × bD × Nat :=
 match p,d with
 | ⟨.one t,ms⟩,d => let (v,o,n) := dA (match ms with | m :: _ => m | [] => .ro) t d ay; ([v],o,n)
 | ⟨.agg ts,ms⟩,d => let (vs,o,n) := putCells ts ms d ay; ([.agg vs],o,n)
 | ⟨.pz,_⟩,_ => ([.agg []],[],ay)
 | ⟨.st ts,ms⟩,d =>
  let (vs,o,n) := putCells ts ms d ay
  match boxes with
  | b :: _ => ([],(b,.box vs) :: o,n)
  | [] => ([],o,n)
def bZ (boxes : List Nat) : (ps : List PT) -> FX ps -> Nat -> List AV × bD × Nat
 | [],_,ay => ([],[],ay)
 | [p],d,ay => dY boxes p d ay
 | p :: q :: r,d,ay =>
  let (vs,o,n) := dY boxes p d.1 ay
  let (vs',o',n') := bZ (bif fB p then mJ boxes else boxes) (q :: r) d.2 n
  (vs ++ vs',o' ++ o,n')
def jy : List AV -> AV
 | [v] => v
 | vs => .BJ vs
def iG : List Nat -> bD
 | [] => []
 | id :: r => (id,.dead) :: iG r
def jk : List AV -> List AV -> Option R -> Option R
 | [],[],x => x
 | .int k a :: r,.int k' b :: r',x => bif xM k k' then chk (a = b) (jk r r' x) else none
 | .bool a :: r,.bool b :: r',x => chk (a = b) (jk r r' x)
 | .str a :: r,.str b :: r',x => chk (a = b) (jk r r' x)
 | _,_,_ => none
def kR (bs : List Nat) (O : bD) : bD -> Option R -> Option R
 | [],x => x
 | (b,.box cs) :: r,x => match look O b with
  | some (.box cs') => bif dJ b bs then jk cs cs' (kR bs O r x) else none
  | _ => none
 | _,_ => none
def qN (f : FuncId) (s : fM) (O : bD) (ay : Nat) (args : List AV) (K : KK R) : Option R :=
 match getArgs O s.ps args with
 | some (d,iF,moved,used,boxes) =>
  bif nodup (moved ++ boxes) && apart moved used then
   (Rc f s d).bind fun r =>
    let (vs,o,n) := bZ boxes s.rs r ay
    bif s.lk then (bif iF.isEmpty && moved.isEmpty then kR boxes O o (K (jy vs) O n []) else none)
    else K (jy vs) (o ++ (iG moved ++ O)) n iF
  else none
 | none => none
def callee (tm : List (Nat × AV)) : Op -> Option (FuncId × List AV)
 | .call ⟨.value f,args,_⟩ => match ev tm f,evs tm args.toList with
  | some (.func (.func g) a b),some vs => some (g,a ++ (vs ++ b))
  | _,_ => none
 | .call ⟨.invoke x m,args,_⟩ => match ev tm x,evs tm args.toList with
  | some (.iface t v),some vs => match meth C t m with
   | some g => some (g,v :: vs)
   | none => none
  | _,_ => none
 | _ => none
def fA (tm : List (Nat × AV)) (O : bD) (ay : Nat) (o : Oper) (K : KK R) : Option R :=
 match o.op with
 | .move x | .assign x => match ev tm x with
  | some v => K v O ay []
  | none => none
 | .pick c a b => match ev tm c,ev tm a,ev tm b with
  | some (.bool t),some x,some y => sel t (K x O ay []) (K y O ay [])
  | _,_,_ => none
 | .alloc t => match xC C t with
  | some (ts,n) => bif Nat.blt 0 n then K (.iJ ay 0 0) ((ay,.arr ts (List.replicate n ts.zero) true) :: O) (ay + 1) [] else none
  | none => match look C.ty t with
   | some ti => bif !Nat.beq ti.zero.length ti.size then none else K (.ptr ay 0) ((ay,.box ti.zero) :: O) (ay + 1) []
   | none => none
 | .box _ x => match ev tm x with
  | some v => K (.ptr ay 0) ((ay,.box v.cells) :: O) (ay + 1) []
  | none => none
 | .build t ps => match look C.ty t,Js tm ps.toList with
  | some ti,some vs => match nS (fun i => match qV ti i with
    | some (o,ft) => match look C.ty ft with
     | some tf => some (o,tf.size)
     | none => none
    | none => none) ti.zero vs with
   | some cs => bif Nat.beq ti.zero.length ti.size && Nat.beq ti.kd 6 then K (.agg cs) O ay [] else none
   | none => bif Nat.beq ti.zero.length ti.size && Nat.beq ti.kd 5 then match look C.ty ti.elem with
    | some te => match nS (fun i => some (i * te.size,te.size)) ti.zero vs with
     | some cs => K (.agg cs) O ay []
     | none => none
    | none => none
    else none
  | _,_ => none
 | .buildSlice t n ps => match look C.ty t,Js tm ps.toList with
  | some ti,some vs => match look C.ty ti.elem with
   | some te => match te.row with
    | some ts => match oG O ts (List.replicate n ts.zero) vs,oD O ((vs.map (·.2.cells)).flatten),DC C t with
     | some rows,some iF,some ts' => bif !ts'.beq ts || Nat.blt 16777216 (n * te.size) then none else K (.own ay) ((ay,.arr ts rows true) :: O) (ay + 1) iF
     | _,_,_ => none
    | none => none
   | none => none
  | _,_ => none
 | .load t x => match look C.ty t,ev tm x with
  | some ti,some (.ptr id off) => match look O id with
   | some (.box cs) => match part ti.agg ti.size off cs with
    | some v => K v O ay []
    | none => none
   | _ => none
  | some ti,some (.iJ id i off) => match look O id with
   | some (.arr ts rows _) => match xC C t with
    | some (ts',n) => bif Nat.beq ts'.n ts.n && Nat.beq off 0 then chk (i.toNat + n <= rows.length) (K (.agg (FQ ts rows n i.toNat)) O ay []) else none
    | none => match part ti.agg ti.size off (ts.pq (rows.getD i.toNat ts.zero)) with
     | some v => K v O ay []
     | none => none
   | _ => none
  | some ti,some (.iY ts rows _ i off) => match xC C t with
   | some (ts',n) => bif Nat.beq ts'.n ts.n && Nat.beq off 0 then chk (i.toNat + n <= rows.length) (K (.agg (FQ ts rows n i.toNat)) O ay []) else none
   | none => match part ti.agg ti.size off (ts.pq (rows.getD i.toNat ts.zero)) with
    | some v => K v O ay []
    | none => none
  | _,_ => none
 | .store t a x => match look C.ty t,ev tm a,ev tm x with
  | some ti,some (.ptr id off),some v => match look O id with
   | some (.box cs) => bif !(Nat.beq v.cells.length ti.size && DK v.cells) then none else match setCells cs off v.cells with
    | some cs' => K .undef ((id,.box cs') :: O) ay []
    | none => none
   | _ => none
  | some ti,some (.iJ id i off),some v => match look O id with
   | some (.arr ts rows true) => bif !(Nat.beq v.cells.length ti.size && DK v.cells && Nat.blt 0 ti.size) then none else match xC C t with
    | some (ts',n) => match mQ O ts n v.cells,oD O v.cells with
     | some rs,some iF => bif bC id iF || !(Nat.beq ts'.n ts.n && Nat.beq off 0) then none else chk (i.toNat + n <= rows.length) (K .undef ((id,.arr ts (zi rows i.toNat rs) true) :: O) ay (iF ++ [.dQ id]))
     | _,_ => none
    | none => match ts.puts O (rows.getD i.toNat ts.zero) off v.cells,oD O v.cells with
     | some row,some iF => bif bC id iF then none else K .undef ((id,.arr ts (rows.set i.toNat row) true) :: O) ay (iF ++ [.dQ id])
     | _,_ => none
   | _ => none
  | _,_,_ => none
 | .nilCheck x => match ev tm x with
  | some (.ptr id off) => K (.ptr id off) O ay []
  | some (.iJ id i off) => K (.iJ id i off) O ay []
  | some (.iY ts rows deps i off) => K (.iY ts rows deps i off) O ay []
  | some (.func (.func g) a b) => K (.func (.func g) a b) O ay []
  | _ => none
 | .binOp op t x y _ => match ev tm x,ev tm y with
  | some a,some b => BL (qU C t) (NK C t) (isLit x || isLit y) O op a b fun v => K v O ay []
  | _,_ => none
 | .unOp op _ x => match op,ev tm x with
  | .neg,some (.int k n) => K (.int k (k.wrap (0 - n))) O ay []
  | .xor,some (.int k n) => Gv .xor k (if k.signed then -1 else k.max) n fun v => K v O ay []
  | .not,some (.bool b) => K (.bool (!b)) O ay []
  | _,_ => none
 | .convert src dst x => match ev tm x,look C.ty dst,look C.ty src with
  | some (.int _ n),some td,some _ => match td.row with
   | some (.one (.int k)) => bif Nat.beq td.kd 11 then K (.int k (k.wrap n)) O ay [] else none
   | _ => none
  | some (.str s),some td,some _ => bif Nat.beq td.kd 9 then K (.str s) O ay [] else match DC C dst with
   | some (.one (.int .u8)) => match look C.ty td.elem with
    | some te => bif Nat.beq te.kd 11 then K (.own ay) ((ay,.arr (.one (.int .u8)) (ug s) true) :: O) (ay + 1) [] else none
    | none => none
   | _ => none
  | some v,some td,some Zq => match DC C src with
   | some (.one (.int .u8)) => match look C.ty Zq.elem with
    | some te => bif Nat.beq te.kd 11 && Nat.beq td.kd 9 then match v with
     | .aO => K (.str .empty) O ay []
     | v => match rowsOf O v with
      | some r => match jX r.ts (.one (.int .u8)) r.rows with
       | some l => K (.str (jr l)) O ay []
       | none => none
      | none => none
     else none
    | none => none
   | _ => none
  | _,_,_ => none
 | .makeInterface t x => match ev tm x with
  | some v => bif Nat.beq (qU C t) 0 || Nat.beq (qU C t) 2 then none else K (.iface t v) O ay []
  | none => none
 | .makeFunc fn a b => match evs tm a.toList,evs tm b.toList with
  | some x,some y => K (.func fn x y) O ay []
  | _,_ => none
 | .makeSlice t l c => match look C.ty t,ev tm l,ev tm c with
  | some ti,some (.int _ l),some (.int _ c) => match look C.ty ti.elem with
   | some te => match te.row with
    | some ts => match DC C t with
     | some ts' => bif !ts'.beq ts then none else chk (0 <= l) (chk (l <= c) (chk (c * te.bytes <= 140737488355328)
      (K (.own ay) ((ay,.arr ts (List.replicate l.toNat ts.zero) true) :: O) (ay + 1) [])))
     | none => none
    | none => none
   | none => none
  | _,_,_ => none
 | .slice t x lo hi none => bif dJ t C.subs then match ev tm x,wZ tm lo,wZ tm hi with
  | some (.own id),some l,some h => match look O id,DC C t with
   | some (.arr ts rows _),some ts' => bif Nat.beq ts'.n ts.n then jY rows.length l h fun a b => K (.sub id a b) O ay [] else none
   | _,_ => none
  | some v,some l,some h => match rowsOf O v,DC C t with
   | some r,some ts' => bif !Nat.beq ts'.n r.ts.n then none else kJ r.rows l h fun rows => K (.ro r.ts rows r.deps) O ay []
   | _,_ => none
  | _,_,_ => none
  else match xC C t with
  | some (ts',n) => match ev tm x,wZ tm lo,wZ tm hi with
   | some (.iJ id i off),some l,some h => match look O id with
    | some (.arr ts rows _) => bif Nat.beq ts'.n ts.n && Nat.beq off 0 then chk (i = 0) (chk (rows.length = n) (kJ rows l h fun rs => K (.ro ts rs [id]) O ay [])) else none
    | _ => none
   | _,_,_ => none
  | none => match ev tm x,wZ tm lo,wZ tm hi with
  | some (.str s),some l,some h => bif !Ap C t then none else su s l h fun s => K (.str s) O ay []
  | some v,some l,some h => match rowsOf O v,DC C t with
   | some r,some ts' => bif !Nat.beq ts'.n r.ts.n then none else kJ r.rows l h fun rows => K (.ro r.ts rows r.deps) O ay []
   | _,_ => none
  | _,_,_ => none
 | .fieldAddr t x f => match look C.ty t,ev tm x with
  | some ti,some v => match qV ti f,v with
   | some (o,ft),.ptr id off => bif !xP C ft then none else K (.ptr id (off + o)) O ay []
   | some (o,ft),.iJ id i off => bif !xP C ft then none else K (.iJ id i (off + o)) O ay []
   | some (o,ft),.iY ts rows deps i off => bif !xP C ft then none else K (.iY ts rows deps i (off + o)) O ay []
   | _,_ => none
  | _,_ => none
 | .field t x f => match look C.ty t,ev tm x with
  | some ti,some (.agg cs) => match qV ti f with
   | some (o,ft) => match look C.ty ft with
    | some tf => match part tf.agg tf.size o cs with
     | some v => K v O ay []
     | none => none
    | none => none
   | none => none
  | _,_ => none
 | .sliceToArrayPointer t x => match xC C t,ev tm x with
  | some (ts',n),some v => match rowsOf O v with
   | some q => bif Nat.beq ts'.n q.ts.n && Nat.blt 0 n then chk (n <= q.rows.length) (K (.iY q.ts q.rows q.deps 0 0) O ay []) else none
   | none => none
  | _,_ => none
 | .makeMap t none => match BM C t with
  | some (kt,_,none) => K (.mp ay) ((ay,.map (.lit kt [])) :: O) (ay + 1) []
  | some (kt,_,some vt) => K (.mp ay) ((ay,.map (.dat kt vt [])) :: O) (ay + 1) []
  | none => none
 | .insert t m k x | .mapUpdate t m k x => match BM C t,ev tm m with
  | some (kt,_,_),some (.mp id) => match look O id,ev tm k,ev tm x with
   | some (.map (.lit tZ es)),some k,some v => bif tZ.beq kt && qh v then match tZ.je [] k with
    | some k => uO tZ k v (fun es => K .undef ((id,.map (.lit tZ es)) :: O) ay []) [] es
    | none => none
    else none
   | some (.map (.dat tZ vt es)),some k,some v => bif tZ.beq kt && !jL vt then match tZ.je [] k,vt.je [] v with
    | some k,some v => K .undef ((id,.map (.dat tZ vt (uf (keq tZ) k v es))) :: O) ay []
    | _,_ => none
    else none
   | _,_,_ => none
  | _,_ => none
 | .lookup t m k ok => match BM C t,ev tm m with
  | some (kt,tv,_),some (.mp id) => match look O id,ev tm k with
   | some (.map (.lit tZ es)),some k => bif tZ.beq kt then match tZ.je [] k,JG C tv with
    | some k,some z => xO tZ k z (fun v b => K (Gw ok v b) O ay []) es
    | _,_ => none
    else none
   | some (.map (.dat tZ vt es)),some k => bif tZ.beq kt then match tZ.je [] k,JG C tv with
    | some k,some z => match vt.je [] z with
     | some z => K (Gw ok (vt.av ((uY (keq tZ) k es).getD z)) (uY (keq tZ) k es).isSome) O ay []
     | none => none
    | _,_ => none
    else none
   | _,_ => none
  | some (kt,tv,_),some (.raw (.map none)) => match ev tm k with
   | some k => match kt.je [] k,JG C tv with
    | some _,some z => K (Gw ok z false) O ay []
    | _,_ => none
   | none => none
  | _,_ => none
 | .indexAddr t x i => match DC C t with
  | none => match xC C t with
   | none => none
   | some (ts',n) => match ev tm x,ev tm i with
    | some (.iJ id j off),some (.int _ m) => match look O id with
     | some (.arr ts rows _) => bif Nat.beq ts'.n ts.n && Nat.beq off 0 then chk (0 <= m) (chk (m < (n : Int)) (chk (j.toNat + n <= rows.length) (K (.iJ id (Zp j m) 0) O ay []))) else none
     | _ => none
    | some (.iY ts rows deps j off),some (.int _ m) => bif Nat.beq ts'.n ts.n && Nat.beq off 0 then chk (0 <= m) (chk (m < (n : Int)) (chk (j.toNat + n <= rows.length) (K (.iY ts rows deps (Zp j m) 0) O ay []))) else none
    | _,_ => none
  | some ts' => match ev tm x,ev tm i with
  | some (.own id),some (.int _ n) => match look O id with
   | some (.arr ts rows _) => bif !Nat.beq ts'.n ts.n then none else chk (0 <= n) (chk (n < (rows.length : Int)) (K (.iJ id n 0) O ay []))
   | _ => none
  | some (.ro ts rows deps),some (.int _ n) => bif !Nat.beq ts'.n ts.n then none else chk (0 <= n) (chk (n < (rows.length : Int)) (K (.iY ts rows deps n 0) O ay []))
  | some (.sub id lo hi),some (.int _ n) => match look O id with
   | some (.arr ts rows _) => bif !Nat.beq ts'.n ts.n then none else chk (0 <= n) (chk (n < hi - lo) (K (.iJ id (lo + n) 0) O ay []))
   | _ => none
  | _,_ => none
 | .index t x i => match ev tm x,ev tm i with
  | some (.str s),some (.int _ n) => bif !Ap C t then none else chk (0 <= n) (chk (n < (s.size : Int)) (K (.int .u8 (VF s n)) O ay []))
  | _,_ => none
 | .extract x i => match ev tm x with
  | some (.BJ vs) => match nth vs i with
   | some v => K v O ay []
   | none => none
  | _ => none
 | .call ⟨.builtin .len,args,tys⟩ => match evs tm args.toList,tys.toList with
  | some [.str s],[t] => bif !Ap C t then none else K (.int .i64 (s.size : Int)) O ay []
  | some [.mp id],[t] => match BM C t with
   | some _ => match look O id with
    | some (.map (.dat _ _ es)) => K (.int .i64 (es.length : Int)) O ay []
    | _ => none
   | none => none
  | some [v],[t] => match DC C t with
   | some _ => match v with
    | .aO => K (.int .i64 0) O ay []
    | v => match rowsOf O v with
     | some r => K (.int .i64 (r.rows.length : Int)) O ay []
     | none => none
   | none => none
  | _,_ => none
 | .call ⟨.builtin .append,args,tys⟩ => match evs tm args.toList,tys.toList with
  | some [x,y],[t,t'] => match look C.ty t,DC C t with
   | some ti,some row => bif !(Ap C t' || (match DC C t' with | some _ => true | none => false)) then none else qW C row ti.elem O ay x y K
   | _,_ => none
  | _,_ => none
 | .call ⟨.builtin .min,args,_⟩ => match evs tm args.toList with
  | some [.int k a,.int k' b] => bif xM k k' then K (.int k (if b < a then b else a)) O ay [] else none
  | _ => none
 | .call ⟨.builtin .max,args,_⟩ => match evs tm args.toList with
  | some [.int k a,.int k' b] => bif xM k k' then K (.int k (if b > a then b else a)) O ay [] else none
  | _ => none
 | .call ⟨.builtin .delete,args,tys⟩ => match evs tm args.toList,tys.toList with
  | some [.mp id,k],t :: _ => match BM C t,look O id with
   | some (kt,_,_),some (.map (.dat tZ vt es)) => bif tZ.beq kt then match tZ.je [] k with
    | some k => K (.BJ []) ((id,.map (.dat tZ vt (Qo (keq tZ) k es))) :: O) ay []
    | none => none
    else none
   | _,_ => none
  | _,_ => none
 | op => match callee C tm op with
  | some (g,vs) => match look C.sig g with
   | some s => qN Rc g s O ay vs K
   | none => none
  | none => none
def opers : Op -> List Operand
 | .move x | .assign x | .nilCheck x | .unOp _ _ x | .convert _ _ x | .makeInterface _ x | .box _ x | .extract x _ | .load _ x | .fieldAddr _ x _ | .field _ x _ => [x]
 | .pick c a b => [c,a,b]
 | .build _ ps | .buildSlice _ _ ps => ps.toList.map (·.2)
 | .store _ a x | .binOp _ _ a x _ | .indexAddr _ a x | .index _ a x | .makeSlice _ a x => [a,x]
 | .slice _ x lo hi _ => x :: (lo.toList ++ hi.toList)
 | .sliceToArrayPointer _ x => [x]
 | .makeFunc _ a b => a.toList ++ b.toList
 | .call ⟨.builtin _,args,_⟩ => args.toList
 | .call ⟨.value f,args,_⟩ => f :: args.toList
 | .call ⟨.invoke x _,args,_⟩ => x :: args.toList
 | .insert _ m k x | .mapUpdate _ m k x => [m,k,x]
 | .lookup _ m k _ => [m,k]
 | _ => []
def lD : List Operand -> List Nat
 | [] => []
 | .tmp t :: r => t :: lD r
 | _ :: r => lD r
def quiet (o : Oper) : Bool := match o.op with
 | .move _ | .assign _ | .pick .. | .extract .. | .binOp .. | .unOp .. | .fieldAddr .. | .field .. | .indexAddr .. | .index .. | .slice .. | .makeInterface .. | .makeFunc .. | .nilCheck _ | .build .. | .load .. | .sliceToArrayPointer .. => true
 | .convert src dst _ => Nat.beq (qU C dst) 11 || (Nat.beq (qU C dst) 9 && Nat.beq (qU C src) 9)
 | .call ⟨.builtin .len,_,_⟩ | .call ⟨.builtin .min,_,_⟩ | .call ⟨.builtin .max,_,_⟩ => true
 | _ => false
def NP (o : Oper) : Bool := match o.op with
 | .insert .. | .mapUpdate .. | .lookup .. | .makeMap .. | .call ⟨.builtin .delete,_,_⟩ => true
 | _ => false
def xQ (o : Oper) : Bool := match o.op with
 | .alloc _ | .box .. | .buildSlice .. | .makeSlice .. => true
 | _ => false
def adP (o : Oper) : Bool := match o.op with
 | .buildSlice .. => true
 | _ => false
def aay (o : Oper) : Bool := match o.op with
 | .buildSlice t _ _ => dJ t C.VE
 | _ => false
def zX (o : Oper) : Bool := xQ o && !aay C o
mutual
def AV.ids : AV -> List Nat
 | .own id | .ptr id _ | .iJ id _ _ | .mp id | .sub id _ _ => [id]
 | .ro _ _ deps | .iY _ _ deps _ _ => deps
 | .func _ a b => AV.iK a ++ AV.iK b
 | .iface _ v => v.ids
 | .agg cs | .BJ cs => AV.iK cs
 | _ => []
def AV.iK : List AV -> List Nat
 | [] => []
 | v :: r => v.ids ++ AV.iK r
end
def dV (tm : List (Nat × AV)) : List Operand -> List Nat
 | [] => []
 | x :: r => (match ev tm x with | some v => v.ids | none => []) ++ dV tm r
def iR (O : bD) : List Nat -> List Nat
 | [] => []
 | i :: r => (match look O i with | some (.box cs) => AV.iK cs | _ => []) ++ iR O r
def dB (tm : List (Nat × AV)) (o : Oper) : List Nat := match o.op with
 | .load .. | .indexAddr .. | .slice .. | .sliceToArrayPointer .. | .binOp .. | .call ⟨.builtin .len,_,_⟩ => dV tm (opers o.op)
 | _ => []
def kK (tm : List (Nat × AV)) (O : bD) (o : Oper) : List Nat := dV tm (opers o.op) ++ iR O (dV tm (opers o.op))
def La (O : bD) (i : Nat) : List Nat := match look O i with
 | some (.box cs) => AV.iK cs
 | _ => []
def qX (tm : List (Nat × AV)) (O : bD) (o : Oper) (v : AV) : List Nat := v.ids ++ (dV tm (opers o.op) ++ iR O (dB tm o))
def VH {α : Type} : List α -> List α
 | [] => []
 | x :: _ => [x]
def touched (tm : List (Nat × AV)) (O : bD) (o : Oper) : List Nat := match o.op with
 | .store _ a _ => dV tm [a]
 | .call ⟨.builtin _,args,_⟩ => dV tm (VH args.toList)
 | op => match callee C tm op with
  | some (g,vs) => match look C.sig g with
   | some s => match getArgs O s.ps vs with
    | some (_,_,moved,_,boxes) => bif s.lk then [] else moved ++ boxes
    | none => []
   | none => []
  | none => []
def kL : List Eff -> List Nat
 | [] => []
 | .kill i :: r | .shut i _ _ :: r | .dQ i :: r => i :: kL r
def below (n : Nat) : List Nat -> Bool
 | [] => true
 | i :: r => Nat.blt i n && below n r
def BN (ay : Nat) (wt ef an : List Nat) : List (Nat × List Nat × List Nat × List Nat) -> Bool
 | [] => true
 | (p,ks,rs,_) :: r => (dJ p an || (apart ks ef && (below ay rs && apart rs wt))) && BN ay wt ef an r
def BO (lk an : List Nat) : List (Nat × List Nat × List Nat × List Nat) -> Bool
 | [] => true
 | (p,_,_,ns) :: r => (dJ p an || apart ns lk) && BO lk an r
def BP (base : Nat) (wt : List Nat) : List (Nat × List Nat) -> Bool
 | [] => true
 | (q,_) :: r => !dJ (base + q) wt && BP base wt r
def unread (ns an : List Nat) : List (Nat × List Nat × List Nat × List Nat) -> Bool
 | [] => true
 | (p,_,rs,_) :: r => (dJ p an || apart ns rs) && unread ns an r
def Ar (fn reg : Nat) : List Zo -> Option (List (List (Nat × List Nat)))
 | [] => none
 | x :: r => bif Nat.beq x.fn fn && Nat.beq x.reg reg then some x.ou else Ar fn reg r
def sF (fn reg : Nat) : List Zo -> Option (List Nat)
 | [] => none
 | x :: r => bif Nat.beq x.fn fn && Nat.beq x.reg reg then x.pins else sF fn reg r
def calm (o : Oper) : Bool := quiet { ty := [],fns := [],sig := [],cuts := [],ou := [] } o || (xQ o && !adP o)
def aaz (all : List Oper) (i : Nat) : Bool := match nth all i with
 | some o => calm o
 | none => false
def qP (pins : List Nat) (all : List Oper) (i : Nat) : Bool := aaz all i && !dJ i pins
def idxs : List (Nat × List Nat) -> List Nat
 | [] => []
 | (i,_) :: r => i :: idxs r
def xR (pins : List Nat) (all : List Oper) (an : List Nat) (i : Nat) (rest : List Nat) : Nat -> Bool
 | 0 => true
 | n + 1 => (dJ n an || Nat.beq n i || dJ n rest || !qP pins all n) && xR pins all an i rest n
def uZ (pins : List Nat) (all : List Oper) (i : Nat) : List (Nat × List Nat) -> Bool
 | [] => true
 | (x,an) :: r => (dJ i an || !qP pins all x) && uZ pins all i r
def lS : List Oper -> List Nat
 | [] => []
 | o :: r => (match o.dst with | some d => d + 1 | none => 0) :: lS r
def VI (pins : Option (List Nat)) (all : List Oper) (i : Nat) (an : List Nat) (rest : List (Nat × List Nat)) : Bool := match pins with
 | some ps => !qP ps all i && uZ ps all i rest && xR ps all an i (idxs rest) all.length && nodup (lS all)
 | none => false
def abY (pins : Option (List Nat)) : List Nat := match pins with
 | some ps => ps
 | none => []
def pX (x : Option R) : List (Option R) -> Prop
 | [] => True
 | y :: r => y = x ∧ pX x r
open Classical in
noncomputable def sameAll (x : Option R) (l : List (Option R)) : Option R := match l with
 | [] => x
 | l => if pX x l then x else none
def jZ : List Eff -> List (Nat × AV) -> List (Nat × AV)
 | [],tm => tm
 | e :: r,tm => jZ r (e.tm tm)
def jH : List Eff -> List Fr -> List Fr
 | es,Jq => Jq.map fun fr => { fr with tm := jZ es fr.tm }
def sG : List Eff -> bD -> bD
 | [],O => O
 | e :: r,O => sG r (e.objs O)
def sealed : List Eff -> bD
 | [] => []
 | .shut id _ _ :: r => (id,.dead) :: sealed r
 | _ :: r => sealed r
def putDst (dst : Option Nat) (v : AV) (tm : List (Nat × AV)) : List (Nat × AV) :=
 match dst with
 | some d => (d,v) :: tm
 | none => tm
def after (s : St) (dst : Option Nat) (rest : List It) (v : AV) (O : bD) (ay : Nat) (iF : List Eff) : St :=
 match iF with
 | [] => { s with cur := { s.cur with tm := putDst dst v s.cur.tm,td := rest },objs := O,ay }
 | es => { cur := { s.cur with tm := putDst dst v (jZ es s.cur.tm),td := rest },callers := jH es s.callers,objs := sealed es ++ sG es O,ay,bx := s.bx }
def wu (id : Nat) : List It -> Option (List It)
 | .inBlock j :: k => bif Nat.beq j id then some k else wu id k
 | _ :: k => wu id k
 | [] => none
def VJ : List Fr -> List (Nat × Nat) -> Bool
 | [],[] => true
 | fr :: r,(f,d) :: p => Nat.beq fr.fn f && (match fr.td with
  | .ops _ (o :: _) :: _ => (match o.dst with | some e => Nat.beq e d | none => false)
  | .wait _ all i rest :: _ => (match nth all i with | some o => (match o.dst with | some e => Nat.beq (e + 1000 * (rest.length + 1)) d | none => false) | none => false)
  | _ => false) && VJ r p
 | _,_ => false
def foreign : Nat := 0
def Zr (s : St) : Nat -> Option Fr
 | 0 => some s.cur
 | d + 1 => nth s.callers d
def sH (s : St) : Loc -> Option AV
 | .slot d i => match Zr s d with
  | some fr => look fr.tm i
  | none => none
 | .cell l c => match sH s l with
  | some (.ptr id off) => match look s.objs id with
   | some (.box cs) => nth cs (off + c)
   | _ => none
  | some (.agg cs) => nth cs c
  | some (.func _ _ cs) => nth cs c
  | some (.iface _ v) => some v
  | _ => none
def adQ (s : St) : List (Loc × Nat) -> Bool
 | [] => true
 | (l,g) :: r => (match sH s l with | some (.func (.func f) _ _) => Nat.beq f g | _ => false) && adQ s r
def cutAt (f r : Nat) (s : St) : List Cut -> Option dD
 | [] => none
 | c :: l => bif Nat.beq f c.fn && Nat.beq r c.reg && (match c.path with | none => true | some p => VJ s.callers p) && adQ s c.fns then some c.tmpl else cutAt f r s l
def mM {α : Type} (f : α -> α) : List α -> Nat -> List α
 | [],_ => []
 | x :: r,0 => f x :: r
 | x :: r,i + 1 => x :: mM f r i
def xg (f : AV -> AV) (i : Nat) : List (Nat × AV) -> List (Nat × AV)
 | [] => []
 | (j,v) :: r => bif Nat.beq j i then (j,f v) :: r else (j,v) :: xg f i r
def uP (s : St) : Loc -> (AV -> AV) -> St
 | .slot 0 i,f => { s with cur := { s.cur with tm := xg f i s.cur.tm } }
 | .slot (d + 1) i,f => { s with callers := mM (fun fr => { fr with tm := xg f i fr.tm }) s.callers d }
 | .cell l c,f => match sH s l with
  | some (.ptr id off) => match look s.objs id with
   | some (.box cs) => { s with objs := (id,.box (mM f cs (off + c))) :: s.objs }
   | _ => s
  | some (.agg cs) => uP s l fun _ => .agg (mM f cs c)
  | some (.func fn a cs) => uP s l fun _ => .func fn a (mM f cs c)
  | some (.iface t v) => uP s l fun _ => .iface t (f v)
  | _ => s
def wz (m : List (Nat × Nat)) : List Nat -> Option (List Nat)
 | [] => some []
 | i :: r => match (bif Nat.beq i foreign then some foreign else look m i),wz m r with
  | some j,some l => some (j :: l)
  | _,_ => none
mutual
def kS (m : List (Nat × Nat)) : AV -> AV
 | .own id => match look m id with | some j => .own j | none => .dead
 | .ptr id off => match look m id with | some j => .ptr j off | none => .dead
 | .iJ id i off => match look m id with | some j => .iJ j i off | none => .dead
 | .mp id => match look m id with | some j => .mp j | none => .dead
 | .sub id lo hi => match look m id with | some j => .sub j lo hi | none => .dead
 | .ro ts rows deps => match wz m deps with | some l => .ro ts rows l | none => .dead
 | .iY ts rows deps i off => match wz m deps with | some l => .iY ts rows l i off | none => .dead
 | .func fn a b => .func fn (qI m a) (qI m b)
 | .iface t v => .iface t (kS m v)
 | .agg cs => .agg (qI m cs)
 | .BJ cs => .BJ (qI m cs)
 | v => v
def qI (m : List (Nat × Nat)) : List AV -> List AV
 | [] => []
 | v :: r => kS m v :: qI m r
end
def BQ (m : List (Nat × Nat)) (O : bD) : List (Nat × Nat) -> Option bD
 | [] => some []
 | (i,j) :: r => match look O i,BQ m O r with
  | some (.box cs),some l => some ((j,.box (qI m cs)) :: l)
  | some (.arr ts rows wr),some l => some ((j,.arr ts rows wr) :: l)
  | some (.map d),some l => bif VG d then some ((j,.map d) :: l) else none
  | _,_ => none
def Au (m : List (Nat × Nat)) (tm : List (Nat × AV)) : List Nat -> List (Nat × AV)
 | [] => []
 | i :: r => match look tm i with
  | some v => (i,kS m v) :: Au m tm r
  | none => Au m tm r
def sJ (s : St) : List (Loc × Option cZ) -> St
 | [] => s
 | (l,some ts) :: r => match sH s l with
  | some .aO => sJ (uP { s with objs := (s.ay,.arr ts [] true) :: s.objs,ay := s.ay + 1 } l fun _ => .own s.ay) r
  | _ => sJ s r
 | (_,none) :: r => sJ s r
def NQ (s : St) : List (Loc × Option cZ) -> Nat -> Option (List (Nat × Nat))
 | [],_ => some []
 | (l,_) :: r,n => match sH s l,NQ s r (n + 1) with
  | some (.ptr id _),some m => some ((id,n) :: m)
  | some (.own id),some m => some ((id,n) :: m)
  | some (.iJ id _ _),some m => some ((id,n) :: m)
  | some (.mp id),some m => some ((id,n) :: m)
  | _,_ => none
def lT (m : List (Nat × Nat)) : List Fr -> List (List Nat) -> List Fr
 | [],_ => []
 | fr :: r,[] => { fr with tm := [] } :: lT m r []
 | fr :: r,k :: ks => { fr with tm := Au m fr.tm k } :: lT m r ks
def BR : List (Nat × Nat) -> Bool
 | [] => true
 | (i,_) :: r => (match look r i with | none => true | some _ => false) && BR r
def zk (es : List Eff) (s : St) : St :=
 match es with
 | [] => s
 | es => { cur := { s.cur with tm := jZ es s.cur.tm },callers := jH es s.callers,objs := sealed es ++ sG es s.objs,ay := s.ay,bx := s.bx }
def Lc : List Nat -> List Nat
 | [] => []
 | i :: r => bif Nat.beq i foreign then Lc r else i :: Lc r
def NR (Qk : Bool) : List Nat -> Bool
 | [] => true
 | i :: r => Nat.beq i foreign && Qk && NR Qk r
def adR : AV -> List Nat
 | .own id => [id]
 | .ro _ _ deps => Lc deps
 | _ => []
def VK (l : Loc) (ts : cZ) (Qk : Bool) (s : St) : Option St :=
 match sH s l with
 | some .aO => some (uP s l fun _ => .ro ts [] (bif Qk then [foreign] else []))
 | some v => match lC s.objs (adR v) with
  | some es => match sH (zk es s) l with
   | some (.ro ts' rows deps) => bif ts'.beq ts && NR Qk deps then some (uP (zk es s) l fun _ => .ro ts' rows (bif Qk then [foreign] else [])) else none
   | _ => none
  | none => none
 | none => none
def JH : List (Loc × cZ × Bool) -> St -> Option St
 | [],s => some s
 | (l,ts,b) :: r,s => match VK l ts b s with
  | some s' => JH r s'
  | none => none
def fixed (m : List (Nat × Nat)) : List Nat -> Bool
 | [] => true
 | i :: r => (match look m i with | some j => Nat.beq j i | none => false) && fixed m r
def Aw (tm : List (Nat × AV)) : List Nat -> List (Nat × AV)
 | [] => []
 | i :: r => match look tm i with
  | some v => (i,v) :: Aw tm r
  | none => Aw tm r
def lU : List Fr -> List (List Nat) -> List Fr
 | [],_ => []
 | fr :: r,[] => { fr with tm := [] } :: lU r []
 | fr :: r,k :: ks => { fr with tm := Aw fr.tm k } :: lU r ks
def canon (t : dD) (s : St) : Option St :=
 bif t.raw then (match t.keep with
  | [] => some s
  | ks => match lU (s.cur :: s.callers) ks with
   | c :: cs => some { s with cur := c,callers := cs }
   | [] => none) else
 match JH t.ros s with
 | some s =>
  let s := sJ s t.DI
  match NQ s t.DI 1 with
  | some m => bif BR m && fixed m s.bx then match BQ m s.objs m with
   | some O => match lT m (s.cur :: s.callers) t.keep with
    | c :: cs => some { cur := c,callers := cs,objs := O,ay := t.DI.length + 1,bx := s.bx }
    | [] => none
   | none => none
   else none
  | none => none
 | none => none
def sK (fn : Func) (s : St) : Option (List AV) := go fn.results.toList
 where
 go : List ResultVar -> Option (List AV)
  | [] => some []
  | .tmp t :: r => match look s.cur.tm t,go r with
   | some v,some vs => some (v :: vs)
   | _,_ => none
  | .cell a t :: r => match look s.cur.tm a,look C.ty t,go r with
   | some (.ptr id off),some ti,some vs => match look s.objs id with
    | some (.box cs) => match part ti.agg ti.size off cs with
     | some v => some (v :: vs)
     | none => none
    | _ => none
   | some (.iJ id i off),some _,some vs => match look s.objs id,xC C t with
    | some (.arr ts rows _),some (ts',n) => bif Nat.beq ts'.n ts.n && Nat.beq off 0 && Nat.ble (i.toNat + n) rows.length then some (.agg (FQ ts rows n i.toNat) :: vs) else none
    | _,_ => none
   | _,_,_ => none
def vg : List AV -> Nat -> List (Nat × AV)
 | [],_ => []
 | v :: r,n => (n,v) :: vg r (n + 1)
inductive Want | yes | no | hang (d : Nat) (b : Bool) (w : Bool)
def wanted (all : List Oper) (tm : List (Nat × AV)) (o : Oper) : Option Want :=
 match o.guard with
 | none => some .yes
 | some (j,w) => match nth all j with
  | some oj => match oj.dst with
   | some d => match look tm d with
    | some (.bool b) => some (.hang d b w)
    | some .undef => some .no
    | _ => none
   | none => none
  | none => none
def know (s : St) (d : Nat) (b : Bool) : St := { s with cur := { s.cur with tm := (d,.bool b) :: s.cur.tm } }
def pF (s : St) (c : Operand) (b : Bool) : St := match c with
 | .tmp t => know s t b
 | _ => s
def qj (s : St) (td : List It) : St := { s with cur := { s.cur with td } }
def pG (s : St) (pins : Option (List Nat)) (all : List Oper) (ord : List (Nat × List Nat)) (k : List It) : St := { s with cur := { s.cur with td := .drawn pins all ord [] s.ay :: k },ay := s.ay + all.length }
def SA (s : St) (o : Oper) : Option (FuncId × List AV × Code) := match callee C s.cur.tm o.op with
 | some (g,vs) => match look C.sig g with
  | some _ => none
  | none => match look C.fns g with
   | some fn => match fn.body with
    | some body => some (g,vs,body)
    | none => none
   | none => none
 | none => none
noncomputable def iZ (Rt : St -> Option R) (fin : List AV -> St -> Option R) : Nat -> Bool -> St -> Option R
 | 0,_,_ => none
 | n + 1,fresh,s =>
  let to (td : List It) : Option R := iZ Rt fin n false (qj s td)
  let ret : Option R := match look C.fns s.cur.fn with
   | some fn => match sK C fn s with
    | some vs => match s.callers with
     | [] => fin vs s
     | c :: cs => match c.td with
      | .ops all (o :: rest) :: k => iZ Rt fin n false { s with cur := { c with tm := putDst o.dst (jy vs) c.tm,td := .ops all rest :: k },callers := cs }
      | .wait ps all i rest :: k => match nth all i with
       | some o => iZ Rt fin n false { s with cur := { c with tm := putDst o.dst (jy vs) c.tm,td := .drawn (some ps) all rest [] s.ay :: k },callers := cs,ay := s.ay + all.length }
       | none => none
      | _ => none
    | none => none
   | none => none
  match s.cur.td with
  | [] => ret
  | .inBlock _ :: k => to k
  | .inLoop b :: k => to (.code b :: .inLoop b :: k)
  | .code .skip :: k => to k
  | .code (.seq a b) :: k => to (.code a :: .code b :: k)
  | .code (.cond c a b) :: k => match ev s.cur.tm c with
   | some (.bool t) => sel t (iZ Rt fin n false (qj (pF s c true) (.code a :: k))) (iZ Rt fin n false (qj (pF s c false) (.code b :: k)))
   | _ => none
  | .code (.block id b) :: k => to (.code b :: .inBlock id :: k)
  | .code (.loop b) :: k => to (.code b :: .inLoop b :: k)
  | .code (.exit id) :: k => match wu id k with
   | some k' => to k'
   | none => none
  | .code .ret :: _ => ret
  | .code (.region id ops dr) :: k =>
   let enter : Option R := bif dr then match Ar s.cur.fn id C.ou with
     | some (o :: os) => sameAll (iZ Rt fin n false (pG s (sF s.cur.fn id C.ou) ops.toList o k)) (os.map fun o => iZ Rt fin n false (pG s (sF s.cur.fn id C.ou) ops.toList o k))
     | _ => none
    else to (.ops ops.toList ops.toList :: k)
   bif fresh then enter else
    match cutAt s.cur.fn id s C.cuts with
    | some t => match canon t s with
     | some s' => Rt s'
     | none => none
    | none => enter
  | .drawn _ _ [] _ _ :: k => to k
  | .drawn pins all ((i,an) :: rest) watch base :: k => match nth all i with
   | none => none
   | some o =>
    let go (s : St) : Option R :=
     bif zX C o then bif BO (dV s.cur.tm (opers o.op)) an watch && unread [base + i] an watch then fA C Rc s.cur.tm s.objs (base + i) o fun v O _ iF => match iF with
       | [] => iZ Rt fin n false (after s o.dst (.drawn pins all rest ((i,(base + i) :: (v.ids ++ (dV s.cur.tm (opers o.op) ++ (iR s.objs (dV s.cur.tm (opers o.op)) ++ La O (base + i)))),(base + i) :: dV s.cur.tm (opers o.op),[base + i]) :: watch) base :: k) v O s.ay [])
       | _ => none
      else none
     else bif quiet C o then bif BO (dB s.cur.tm o) an watch then fA C Rc s.cur.tm s.objs s.ay o fun v O ay iF => iZ Rt fin n false (after s o.dst (.drawn pins all rest ((i,qX s.cur.tm s.objs o v,dB s.cur.tm o,[]) :: watch) base :: k) v O ay iF)
      else none
     else bif BO (kK s.cur.tm s.objs o) an watch && !NP o then match SA C s o with
       | some (g,vs,body) => bif VI pins all i an rest then iZ Rt fin n false { s with cur := { fn := g,tm := vg vs 0,td := [.code body] },callers := { s.cur with td := .wait (abY pins) all i rest :: k } :: s.callers } else none
       | none => fA C Rc s.cur.tm s.objs s.ay o fun v O ay iF =>
        bif BN s.ay (touched C s.cur.tm s.objs o) (kL iF) an watch && BP base (touched C s.cur.tm s.objs o ++ kL iF) rest then iZ Rt fin n false (after s o.dst (.drawn pins all rest watch base :: k) v O ay iF) else none
      else none
    let pass (s : St) : Option R := iZ Rt fin n false (after s o.dst (.drawn pins all rest watch base :: k) .undef s.objs s.ay [])
    match wanted all s.cur.tm o with
    | some .yes => go s
    | some .no => pass s
    | some (.hang d b true) => sel b (go (know s d true)) (pass (know s d false))
    | some (.hang d b false) => sel b (pass (know s d true)) (go (know s d false))
    | none => none
  | .ops _ [] :: k => to k
  | .ops all (o :: rest) :: k =>
   let go (s : St) : Option R :=
    match SA C s o with
    | some (g,vs,body) => iZ Rt fin n false { s with cur := { fn := g,tm := vg vs 0,td := [.code body] },callers := s.cur :: s.callers }
    | none => fA C Rc s.cur.tm s.objs s.ay o fun v O ay iF => iZ Rt fin n false (after s o.dst (.ops all rest :: k) v O ay iF)
   let pass (s : St) : Option R := iZ Rt fin n false (after s o.dst (.ops all rest :: k) .undef s.objs s.ay [])
   match wanted all s.cur.tm o with
   | some .yes => go s
   | some .no => pass s
   | some (.hang d b true) => sel b (go (know s d true)) (pass (know s d false))
   | some (.hang d b false) => sel b (pass (know s d true)) (go (know s d false))
   | none => none
  | _ => none
end
end Go.E
end
section
namespace Go.E
def fQ (m : Md) (t : CT) (d : t.D) (ay : Nat) : AV × bD × Nat :=
 match t,m with
 | .sl ts,.mv => (.own ay,[(ay,.arr ts d true)],ay + 1)
 | .sl ts,.ro => (.ro ts d [foreign],[],ay)
 | t,_ => (t.av d,[],ay)
def dK : (ts : cZ) -> List Md -> ts.D -> Nat -> List AV × bD × Nat
 | .one t,ms,d,ay => let (v,o,n) := fQ (match ms with | m :: _ => m | [] => .ro) t d ay; ([v],o,n)
 | .cons t ts,ms,d,ay =>
  bif jL t then
   let (v,o,n) := fQ (match ms with | m :: _ => m | [] => .ro) t d.1 ay
   let (vs,o',n') := dK ts (match ms with | _ :: r => r | [] => []) d.2 n
   (v :: vs,o' ++ o,n')
  else
   let (vs,o',n') := dK ts ms d.2 ay
   (t.av d.1 :: vs,o',n')
def eY (p : PT) (d : p.sh.D) (b ay : Nat) : AV × bD × Nat :=
 match p,d with
 | ⟨.one t,ms⟩,d => fQ (match ms with | m :: _ => m | [] => .ro) t d ay
 | ⟨.agg ts,ms⟩,d => let (vs,o,n) := dK ts ms d ay; (.agg vs,o,n)
 | ⟨.pz,_⟩,_ => (.agg [],[],ay)
 | ⟨.st ts,ms⟩,d => let (vs,o,n) := dK ts ms d ay; (.ptr b 0,(b,.box vs) :: o,n)
def gI : (ps : List PT) -> FX ps -> Nat -> Nat -> List AV × bD × Nat
 | [],_,_,ay => ([],[],ay)
 | [p],d,b,ay => let (v,o,n) := eY p d b ay; ([v],o,n)
 | p :: q :: r,d,b,ay =>
  let (v,o,n) := eY p d.1 b ay
  let (vs,o',n') := gI (q :: r) d.2 (bif fB p then b + 1 else b) n
  (v :: vs,o' ++ o,n')
def jf : List PT -> Nat
 | [] => 0
 | p :: r => bif fB p then jf r + 1 else jf r
def jE : Nat -> Nat -> List Nat
 | _,0 => []
 | n,m + 1 => n :: jE (n + 1) m
def start (f : FuncId) (body : Code) (s : fM) (a : s.A) : St :=
 let (vs,o,n) := gI s.ps a 1 (1 + jf s.ps)
 { cur := { fn := f,tm := vg vs 0,td := [.code body] },callers := [],objs := o,ay := n,bx := jE 1 (jf s.ps) }
def JI (m : Md) (x : AV) : Option (List Nat × List Nat) :=
 match m,x with
 | .mv,.own id => some ([id],[])
 | .mv,.aO => some ([],[])
 | .mv,_ => none
 | _,.own id => some ([],[id])
 | _,.ro _ _ deps => some ([],deps)
 | _,_ => some ([],[])
def oH : List CT -> List Md -> List AV -> Option (List Nat × List Nat)
 | [],_,[] => some ([],[])
 | t :: ts,ms,x :: xs =>
  bif jL t then match ms with
   | m :: ms => match JI m x,oH ts ms xs with
    | some (a,b),some (a',b') => some (a ++ a',b ++ b')
    | _,_ => none
   | [] => none
  else oH ts ms xs
 | _,_,_ => none
def sN (O : bD) (p : PT) (x : AV) : Option (p.sh.D × List Nat × List Nat) :=
 match p with
 | ⟨.one t,ms⟩ => match t.je O x,oH [t] ms [x] with
  | some d,some (a,b) => some (d,a,b)
  | _,_ => none
 | ⟨.agg ts,ms⟩ => match x with
  | .agg cs => match ts.iC O cs,oH ts.list ms cs with
   | some d,some (a,b) => some (d,a,b)
   | _,_ => none
  | _ => none
 | ⟨.pz,_⟩ => match x with
  | .agg [] => some ((),[],[])
  | _ => none
 | ⟨.st ts,ms⟩ => match x with
  | .ptr id 0 => match look O id with
   | some (.box cs) => match ts.iC O cs,oH ts.list ms cs with
    | some d,some (a,b) => some (d,a,b)
    | _,_ => none
   | _ => none
  | _ => none
def sO (O : bD) : (ps : List PT) -> List AV -> Option (FX ps × List Nat × List Nat)
 | [],[] => some ((),[],[])
 | [p],[x] => sN O p x
 | p :: q :: r,x :: y :: xs => match sN O p x,sO O (q :: r) (y :: xs) with
  | some (d,a,b),some (d',a',b') => some ((d,d'),a ++ a',b ++ b')
  | _,_ => none
 | _,_ => none
def BU : List PT -> Nat -> List Nat
 | [],_ => []
 | p :: r,n => bif fB p then n :: BU r (n + 1) else BU r (n + 1)
def slotsOf (tm : List (Nat × AV)) : List Nat -> Option (List AV)
 | [] => some []
 | i :: r => match look tm i,slotsOf tm r with
  | some v,some vs => some (v :: vs)
  | _,_ => none
def DL (O : bD) : List Nat -> Bool
 | [] => true
 | i :: r => (match look O i with | some (.arr _ _ _) => true | _ => false) && DL O r
def zl : List AV -> List Nat -> Bool
 | [],[] => true
 | .ptr i 0 :: r,j :: l => Nat.beq i j && zl r l
 | _,_ => false
def pI : List PT -> Nat -> Bool
 | [],0 => true
 | p :: r,0 => fB p && pI r 0
 | p :: r,n + 1 => !fB p && pI r n
 | _,_ => false
def fin (s : fM) (vs : List AV) (st : St) : Option s.B :=
 match slotsOf st.cur.tm (BU s.ps 0) with
 | some bs => bif zl bs st.bx && pI s.rs vs.length then match sO st.objs s.rs (vs ++ bs) with
  | some (d,moved,seen) => bif nodup moved && apart moved seen && DL st.objs seen then some d else none
  | none => none
  else none
 | none => none
def fuel : Nat := 4000
noncomputable def body (C : kG) (Rc : ak) (f : FuncId) (s : fM) (Rt : St -> Option s.B) (a : s.A) : Option s.B :=
 match look C.fns f with
 | some fn => match fn.body with
  | some c => iZ C Rc Rt (fin s) fuel false (start f c s a)
  | none => none
 | none => none
noncomputable def from_ (C : kG) (Rc : ak) (s : fM) (Rt : St -> Option s.B) (st : St) : Option s.B := iZ C Rc Rt (fin s) fuel true st
def Qp (reg : Nat) : Code -> List It -> Option (List It)
 | .region id ops dr,k => bif Nat.beq id reg then some (.code (.region id ops dr) :: k) else none
 | .seq a b,k => match Qp reg a (.code b :: k) with
  | some l => some l
  | none => Qp reg b k
 | .cond _ a b,k => match Qp reg a k with
  | some l => some l
  | none => Qp reg b k
 | .block id b,k => Qp reg b (.inBlock id :: k)
 | .loop b,k => Qp reg b (.inLoop b :: k)
 | _,_ => none
def Qq (d : Nat) : List Oper -> Option (List Oper)
 | [] => none
 | o :: r => match o.dst with
  | some e => bif Nat.beq e d then some (o :: r) else Qq d r
  | none => Qq d r
def Qr (d : Nat) : Code -> List It -> Option (List It)
 | .region _ ops _,k => match Qq d ops.toList with
  | some l => some (.ops ops.toList l :: k)
  | none => none
 | .seq a b,k => match Qr d a (.code b :: k) with
  | some l => some l
  | none => Qr d b k
 | .cond _ a b,k => match Qr d a k with
  | some l => some l
  | none => Qr d b k
 | .block id b,k => Qr d b (.inBlock id :: k)
 | .loop b,k => Qr d b (.inLoop b :: k)
 | _,_ => none
def jD (fn : Func) (reg : Nat) : List It := match fn.body with
 | some c => match Qp reg c [] with | some l => l | none => []
 | none => []
def nM (fn : Func) (d : Nat) : List It := match fn.body with
 | some c => match Qr d c [] with | some l => l | none => []
 | none => []
def idxOf (d : Nat) : List Oper -> Nat -> Option Nat
 | [],_ => none
 | o :: r,n => match o.dst with
  | some e => bif Nat.beq e d then some n else idxOf d r (n + 1)
  | none => idxOf d r (n + 1)
def Qs (d : Nat) (ps : List Nat) (rest : List (Nat × List Nat)) : Code -> List It -> Option (List It)
 | .region _ ops _,k => match idxOf d ops.toList 0 with
  | some i => some (.wait ps ops.toList i rest :: k)
  | none => none
 | .seq a b,k => match Qs d ps rest a (.code b :: k) with
  | some l => some l
  | none => Qs d ps rest b k
 | .cond _ a b,k => match Qs d ps rest a k with
  | some l => some l
  | none => Qs d ps rest b k
 | .block id b,k => Qs d ps rest b (.inBlock id :: k)
 | .loop b,k => Qs d ps rest b (.inLoop b :: k)
 | _,_ => none
def DF (fn : Func) (d : Nat) (ps : List Nat) (rest : List (Nat × List Nat)) : List It := match fn.body with
 | some c => match Qs d ps rest c [] with | some l => l | none => []
 | none => []
def vk (all : List Oper) (i : Nat) : List Nat := match nth all i with
 | some o => (o.after.toList.filter fun e => Region.binds .any e).map (·.on)
 | none => []
def gslot (all : List Oper) (o : Oper) : Option Nat := match o.guard with
 | none => none
 | some (j,_) => match nth all j with
  | some oj => oj.dst
  | none => none
def ql (ord : List (Nat × List Nat)) (i : Nat) : List Nat := match look ord i with
 | some l => l
 | none => []
def still (C : kG) (o : Oper) : Bool := quiet C o || zX C o
def VL (C : kG) (all : List Oper) (i : Nat) : Bool := match nth all i with
 | some o => still C o
 | none => false
def DN (C : kG) (pins : Option (List Nat)) (all : List Oper) (i : Nat) : Bool := match pins with
 | none => VL C all i
 | some ps => qP ps all i
def within (a b : List Nat) : Bool := match a with
 | [] => true
 | x :: r => dJ x b && within r b
def meets (a b : List Nat) : Bool := match a with
 | [] => false
 | x :: r => dJ x b || meets r b
def SB (all : List Oper) : List (Nat × List Nat) -> List Nat -> Bool
 | [],_ => true
 | (i,an) :: r,D => within an D && within (vk all i) D && SB all r (i :: D)
def Gx (qt : Nat -> Bool) (all : List Oper) (open_ : List Nat) : List Nat -> Bool
 | [] => true
 | p :: r => (!qt p || meets (vk all p) open_) && Gx qt all open_ r
def Ld (qt : Nat -> Bool) (all : List Oper) : List Nat -> Bool
 | [] => true
 | b :: r => (qt b || Gx qt all (b :: r) r) && Ld qt all r
def VN (all : List Oper) (ord : List (Nat × List Nat)) (i : Nat) (pr : List Nat) : List Nat -> Bool
 | [] => true
 | q :: r => (dJ q pr || pr.any fun j => dJ q (ql ord j)) && VN all ord i pr r
def anB (all : List Oper) (ord : List (Nat × List Nat)) : List Nat -> Bool
 | [] => true
 | i :: r => VN all ord i (vk all i) (ql ord i) && below all.length (vk all i) && anB all ord r
def Le (d : Nat) : Option Nat -> Bool
 | some e => !Nat.beq e d
 | none => true
def Lh (all : List Oper) (p x : Oper) : Bool :=
 (match p.dst with | some d => !dJ d (lD (opers x.op)) && Le d (gslot all x) && Le d x.dst | none => true) &&
 (match x.dst with | some d => !dJ d (lD (opers p.op)) && Le d (gslot all p) | none => true)
def VO (all : List Oper) (ord : List (Nat × List Nat)) (p : Nat) (op : Oper) : List Nat -> Bool
 | [] => true
 | x :: r => (Nat.beq p x || dJ p (ql ord x) || dJ x (ql ord p) || (match nth all x with | some ox => Lh all op ox | none => true)) && VO all ord p op r
def Zt (qt : Nat -> Bool) (all : List Oper) (ord : List (Nat × List Nat)) (idx : List Nat) : List Nat -> Bool
 | [] => true
 | p :: r => (match nth all p with | some op => !qt p || VO all ord p op idx | none => true) && Zt qt all ord idx r
def upTo : Nat -> List Nat -> Bool
 | 0,_ => true
 | n + 1,l => dJ n l && upTo n l
def NS (qt : Nat -> Bool) (all : List Oper) (ord : List (Nat × List Nat)) : Bool :=
 nodup (idxs ord) && below all.length (idxs ord) && upTo all.length (idxs ord) && SB all ord [] && Ld qt all (idxs ord) && anB all ord (idxs ord) && Zt qt all ord (idxs ord) (idxs ord)
def eH (qt : Nat -> Bool) : List Nat -> List Nat
 | [] => []
 | i :: r => bif qt i then eH qt r else i :: eH qt r
def tails (e : Nat) : List (List Nat) -> List (List Nat)
 | [] => []
 | (x :: s) :: r => bif Nat.beq x e then s :: tails e r else tails e r
 | [] :: r => tails e r
def Qu : List (List Nat) -> Bool
 | [] => false
 | [] :: _ => true
 | _ :: r => Qu r
def Gy (an : Nat -> List Nat) : Nat -> List (List Nat) -> List Nat -> Bool
 | 0,_,_ => false
 | f + 1,NT,rem => match rem with
  | [] => Qu NT
  | rem => rem.all fun e => meets (an e) rem || Gy an f (tails e NT) (vZ e rem)
def BX (qt : Nat -> Bool) : List (List (Nat × List Nat)) -> List (List Nat)
 | [] => []
 | o :: r => eH qt (idxs o) :: BX qt r
def Gz (qt : Nat -> Bool) (all : List Oper) : List (List (Nat × List Nat)) -> Bool
 | [] => true
 | o :: r => NS qt all o && Gz qt all r
def SC (qt : Nat -> Bool) (all : List Oper) (ou : List (List (Nat × List Nat))) : Bool := match ou with
 | [] => false
 | o :: r => Gz qt all (o :: r) && Gy (ql o) (all.length + 1) (BX qt (o :: r)) (eH qt (idxs o))
def gJ (C : kG) (fn : FuncId) : Code -> Bool
 | .region id ops dr => !dr || (match Ar fn id C.ou with
  | some os => SC (DN C (sF fn id C.ou) ops.toList) ops.toList os
  | none => false)
 | .seq a b => gJ C fn a && gJ C fn b
 | .cond _ a b => gJ C fn a && gJ C fn b
 | .block _ b => gJ C fn b
 | .loop b => gJ C fn b
 | _ => true
def fO (C : kG) (fn : FuncId) : List It -> Bool
 | [] => true
 | .code c :: k => gJ C fn c && fO C fn k
 | .inLoop c :: k => gJ C fn c && fO C fn k
 | .inBlock _ :: k => fO C fn k
 | .ops _ _ :: k => fO C fn k
 | .drawn _ _ _ _ _ :: k => fO C fn k
 | .wait _ _ _ _ :: k => fO C fn k
def fd (s : St) : List (FuncId × List It) := (s.cur.fn,s.cur.td) :: s.callers.map fun f => (f.fn,f.td)
def FT (C : kG) (s : St) : Prop := ∀ p ∈ fd s,fO C p.1 p.2 = true
end Go.E
end
