/- What the data are on which functions are reckoned. -/
import GoSem.Step
section
namespace Go.E
mutual
inductive CT where
 | int (k : IntKind) | bool | str | sl (ts : CTs)
inductive CTs where
 | one (t : CT) | cons (t : CT) (ts : CTs)
end
mutual
def CT.D : CT -> Type
 | .int _ => Int | .bool => Bool | .str => ByteArray | .sl ts => List ts.D
def CTs.D : CTs -> Type
 | .one t => t.D | .cons t ts => t.D × ts.D
end
def CTs.n : CTs -> Nat
 | .one _ => 1 | .cons _ ts => ts.n + 1
def kbeq : IntKind -> IntKind -> Bool
 | .i8,.i8 | .i16,.i16 | .i32,.i32 | .i64,.i64 | .u8,.u8 | .u16,.u16 | .u32,.u32 | .u64,.u64 => true
 | _,_ => false
mutual
def CT.beq : CT -> CT -> Bool
 | .int k,.int k' => kbeq k k'
 | .bool,.bool => true
 | .str,.str => true
 | .sl a,.sl b => a.beq b
 | _,_ => false
def CTs.beq : CTs -> CTs -> Bool
 | .one a,.one b => a.beq b
 | .cons a x,.cons b y => a.beq b && x.beq y
 | _,_ => false
end
theorem kbeq_eq {a b : IntKind} (h : kbeq a b = true) : a = b := by cases a <;> cases b <;> first | rfl | cases h
mutual
theorem CT.beq_eq : ∀ {a b : CT},a.beq b = true -> a = b
 | .int k,.int k',h => by rw [kbeq_eq (a := k) (b := k') (by simpa [CT.beq] using h)]
 | .bool,.bool,_ => rfl
 | .str,.str,_ => rfl
 | .sl a,.sl b,h => by rw [CTs.beq_eq (a := a) (b := b) (by simpa [CT.beq] using h)]
 | .int _,.bool,h | .int _,.str,h | .int _,.sl _,h | .bool,.int _,h | .bool,.str,h | .bool,.sl _,h
 | .str,.int _,h | .str,.bool,h | .str,.sl _,h | .sl _,.int _,h | .sl _,.bool,h | .sl _,.str,h => by simp [CT.beq] at h
theorem CTs.beq_eq : ∀ {a b : CTs},a.beq b = true -> a = b
 | .one a,.one b,h => by rw [CT.beq_eq (a := a) (b := b) (by simpa [CTs.beq] using h)]
 | .cons a x,.cons b y,h => by
  have h : a.beq b = true ∧ x.beq y = true := by simpa [CTs.beq] using h
  rw [CT.beq_eq h.1,CTs.beq_eq h.2]
 | .one _,.cons _ _,h | .cons _ _,.one _,h => by simp [CTs.beq] at h
end
def castRows (a b : CTs) (rows : List a.D) : Option (List b.D) :=
 if h : a.beq b = true then some (CTs.beq_eq h ▸ rows) else none
inductive AV where
 | int (k : IntKind) (n : Int) | bool (b : Bool) | str (s : ByteArray)
 | nilsl | ro (ts : CTs) (rows : List ts.D) (deps : List Nat) | own (id : Nat)
 | nilptr | ptr (id off : Nat) | eptr (id : Nat) (i : Int) (off : Nat) | rptr (ts : CTs) (rows : List ts.D) (deps : List Nat) (i : Int) (off : Nat)
 | nilfunc | func (fn : Fn) (first captured : List AV)
 | nilif | iface (t : TypeId) (v : AV)
 | agg (cs : List AV) | tup (vs : List AV)
 | undef | dead
 | mp (id : Nat)
 | raw (v : Value)
 | sub (id : Nat) (lo hi : Int)
inductive MapD where
 | lit (kt : CT) (es : List (kt.D × AV))
 | dat (kt vt : CT) (es : List (kt.D × vt.D))
inductive AO where
 | box (cs : List AV)
 | arr (ts : CTs) (rows : List ts.D) (wr : Bool)
 | dead
 | map (m : MapD)
abbrev Objs := List (Nat × AO)
def look {α : Type} : List (Nat × α) -> Nat -> Option α
 | [],_ => none
 | (j,x) :: r,i => bif Nat.beq j i then some x else look r i
def nth {α : Type} : List α -> Nat -> Option α
 | [],_ => none
 | x :: _,0 => some x
 | _ :: r,i + 1 => nth r i
mutual
def CT.av : (t : CT) -> t.D -> AV
 | .int k,d => .int k d
 | .bool,d => .bool d
 | .str,d => .str d
 | .sl ts,d => .ro ts d []
end
def CTs.avs : (ts : CTs) -> ts.D -> List AV
 | .one t,d => [t.av d]
 | .cons t ts,d => t.av d.1 :: ts.avs d.2
def CT.ofAV (O : Objs) : (t : CT) -> AV -> Option t.D
 | .int k,.int k' n => bif kbeq k k' then some n else none
 | .bool,.bool b => some b
 | .str,.str s => some s
 | .sl _,.nilsl => some []
 | .sl ts,.ro ts' rows _ => castRows ts' ts rows
 | .sl ts,.own id => match look O id with
  | some (.arr ts' rows _) => castRows ts' ts rows
  | _ => none
 | _,_ => none
def CTs.ofAVs (O : Objs) : (ts : CTs) -> List AV -> Option ts.D
 | .one t,[x] => t.ofAV O x
 | .cons t ts,x :: xs => match t.ofAV O x,ts.ofAVs O xs with
  | some d,some e => some (d,e)
  | _,_ => none
 | _,_ => none
def CT.zero : (t : CT) -> t.D
 | .int _ => (0 : Int)
 | .bool => false
 | .str => ByteArray.empty
 | .sl _ => []
def CTs.zero : (ts : CTs) -> ts.D
 | .one t => t.zero
 | .cons t ts => (t.zero,ts.zero)
def CTs.put (O : Objs) : (ts : CTs) -> ts.D -> Nat -> AV -> Option ts.D
 | .one t,_,0,x => t.ofAV O x
 | .cons t _,d,0,x => (t.ofAV O x).map fun e => (e,d.2)
 | .cons _ ts,d,i + 1,x => (ts.put O d.2 i x).map fun e => (d.1,e)
 | _,_,_,_ => none
def CTs.puts (O : Objs) (ts : CTs) : ts.D -> Nat -> List AV -> Option ts.D
 | d,_,[] => some d
 | d,i,x :: xs => match ts.put O d i x with
  | some e => puts O ts e (i + 1) xs
  | none => none
inductive Eff where
 | kill (id : Nat)
 | shut (id : Nat) (ts : CTs) (rows : List ts.D)
 | unview (id : Nat)
def hasId (id : Nat) : List Nat -> Bool
 | [] => false
 | j :: r => bif Nat.beq j id then true else hasId id r
def noId (id : Nat) : List Nat -> List Nat
 | [] => []
 | j :: r => bif Nat.beq j id then noId id r else j :: noId id r
def Eff.one : Eff -> AV -> AV
 | .kill id,.own j => bif Nat.beq j id then .dead else .own j
 | .shut id ts rows,.own j => bif Nat.beq j id then .ro ts rows [] else .own j
 | .shut id _ _,.ro ts rows deps => .ro ts rows (noId id deps)
 | .shut id _ _,.rptr ts rows deps i off => .rptr ts rows (noId id deps) i off
 | .unview id,.ro ts rows deps => bif hasId id deps then .dead else .ro ts rows deps
 | .unview id,.rptr ts rows deps i off => bif hasId id deps then .dead else .rptr ts rows deps i off
 | .kill id,.eptr j i off => bif Nat.beq j id then .dead else .eptr j i off
 | .kill id,.sub j lo hi => bif Nat.beq j id then .dead else .sub j lo hi
 | .shut id _ _,.sub j lo hi => bif Nat.beq j id then .dead else .sub j lo hi
 | .shut id ts rows,.eptr j i off => bif Nat.beq j id then .rptr ts rows [] i off else .eptr j i off
 | _,v => v
mutual
def Eff.av (e : Eff) : AV -> AV
 | .agg cs => .agg (e.avs cs)
 | .tup cs => .tup (e.avs cs)
 | .func fn a b => .func fn (e.avs a) (e.avs b)
 | .iface t v => .iface t (e.av v)
 | v => e.one v
def Eff.avs (e : Eff) : List AV -> List AV
 | [] => []
 | v :: r => e.av v :: e.avs r
end
def Eff.tm (e : Eff) : List (Nat × AV) -> List (Nat × AV)
 | [] => []
 | (i,v) :: r => (i,e.av v) :: e.tm r
def Eff.objs (e : Eff) : Objs -> Objs
 | [] => []
 | (i,.box cs) :: r => (i,.box (e.avs cs)) :: e.objs r
 | x :: r => x :: e.objs r
structure TI where
 size : Nat
 agg : Bool := false
 bytes : Nat
 fields : List (Nat × Nat) := []
 elem : Nat := 0
 len : Nat := 0
 zero : List AV := []
 row : Option CTs := none
 kd : Nat := 0
 cmp : List CT := []
inductive Md where
 | ro | leak | mv
inductive Sh where
 | one (t : CT) | agg (ts : CTs) | agg0 | st (ts : CTs)
def Sh.D : Sh -> Type
 | .one t => t.D | .agg ts => ts.D | .agg0 => Unit | .st ts => ts.D
structure PT where
 sh : Sh
 md : List Md := []
def PTD : List PT -> Type
 | [] => Unit
 | [p] => p.sh.D
 | p :: q :: r => p.sh.D × PTD (q :: r)
structure Sig where
 ps : List PT
 rs : List PT
 lk : Bool := false
abbrev Sig.A (s : Sig) : Type := PTD s.ps
abbrev Sig.B (s : Sig) : Type := PTD s.rs
inductive It where
 | code (c : Code) | inBlock (id : Nat) | inLoop (body : Code) | ops (all : List Oper) (rest : List Oper)
 | drawn (pins : Option (List Nat)) (all : List Oper) (rest : List (Nat × List Nat)) (watch : List (Nat × List Nat × List Nat × List Nat)) (base : Nat)
 | wait (pins : List Nat) (all : List Oper) (i : Nat) (rest : List (Nat × List Nat))
structure Fr where
 fn : FuncId
 tm : List (Nat × AV)
 td : List It
structure St where
 cur : Fr
 callers : List Fr
 objs : Objs
 nid : Nat
 bx : List Nat
inductive Loc where
 | slot (d i : Nat) | cell (l : Loc) (c : Nat)
structure Tmpl where
 raw : Bool := false
 keep : List (List Nat)
 ros : List (Loc × CTs × Bool) := []
 locs : List (Loc × Option CTs) := []
structure Cut where
 fn : Nat
 reg : Nat
 path : Option (List (Nat × Nat))
 tmpl : Tmpl
 fns : List (Loc × Nat) := []
structure RegO where
 fn : Nat
 reg : Nat
 ords : List (List (Nat × List Nat))
 pins : Option (List Nat) := none
structure Cfg where
 ty : List (Nat × TI)
 fns : List (Nat × Func)
 sig : List (Nat × Sig)
 cuts : List Cut
 ords : List RegO
 subs : List Nat := []
 meths : List (Nat × List (String × FuncId)) := []
 louds : List Nat := []
abbrev Rcall := FuncId -> (s : Sig) -> s.A -> Option s.B
end Go.E
end
section
namespace Go.E
def ofValue1 : Value -> Option AV
 | .int k n => some (.int k n)
 | .bool b => some (.bool b)
 | .string s => some (.str s)
 | .pointer none => some .nilptr
 | .slice none 0 0 => some .nilsl
 | .nilFunc => some .nilfunc
 | .map none => some (.raw (.map none))
 | .nilIface => some .nilif
 | _ => none
def ofValues : List Value -> Option (List AV)
 | [] => some []
 | v :: r => match ofValue1 v,ofValues r with
  | some x,some xs => some (x :: xs)
  | _,_ => none
def ofValue : Value -> Option AV
 | .agg cs => (ofValues cs.toList).map .agg
 | v => ofValue1 v
def ev (tm : List (Nat × AV)) : Operand -> Option AV
 | .tmp t => look tm t
 | .const v => ofValue v
 | .func f => some (.func (.func f) [] [])
 | .global _ => none
def evs (tm : List (Nat × AV)) : List Operand -> Option (List AV)
 | [] => some []
 | x :: r => match ev tm x,evs tm r with
  | some v,some vs => some (v :: vs)
  | _,_ => none
def evps (tm : List (Nat × AV)) : List (Nat × Operand) -> Option (List (Nat × AV))
 | [] => some []
 | (i,x) :: r => match ev tm x,evps tm r with
  | some v,some vs => some ((i,v) :: vs)
  | _,_ => none
def AV.cells : AV -> List AV
 | .agg cs => cs
 | v => [v]
def takeN {α : Type} : Nat -> List α -> Option (List α)
 | 0,_ => some []
 | n + 1,x :: r => (takeN n r).map (x :: ·)
 | _ + 1,[] => none
def dropN {α : Type} : Nat -> List α -> List α
 | 0,l => l
 | _ + 1,[] => []
 | n + 1,_ :: r => dropN n r
def part (agg : Bool) (n off : Nat) (cs : List AV) : Option AV :=
 match takeN n (dropN off cs) with
 | some l => bif agg then some (.agg l) else match l with
  | [x] => some x
  | _ => none
 | none => none
def setCells : List AV -> Nat -> List AV -> Option (List AV)
 | cs,0,[] => some cs
 | _ :: cs,0,v :: vs => (setCells cs 0 vs).map (v :: ·)
 | c :: cs,n + 1,vs => (setCells cs n vs).map (c :: ·)
 | [],_,_ => none
def sbyte (s : ByteArray) (i : Int) : Int := match s[i.toNat]? with | some b => (b.toNat : Int) | none => 0
def strNums (s : ByteArray) : List Int := s.data.toList.map fun b => (b.toNat : Int)
def numsStr (l : List Int) : ByteArray := ⟨(l.map fun n => UInt8.ofNat n.toNat).toArray⟩
def listPut {α : Type} : List α -> Nat -> α -> List α
 | [],_,_ => []
 | _ :: r,0,y => y :: r
 | x :: r,i + 1,y => x :: listPut r i y
def sel {α : Type} (b : Bool) (x y : α) : α := match b with
 | true => x
 | false => y
def chk {R : Type} (p : Prop) [Decidable p] (x : Option R) : Option R := if p then x else none
section
variable {R : Type} (C : Cfg) (Rc : Rcall)
abbrev KK (R : Type) := AV -> Objs -> Nat -> List Eff -> Option R
def nodup : List Nat -> Bool
 | [] => true
 | x :: r => !hasId x r && nodup r
structure Rows where
 ts : CTs
 rows : List ts.D
 deps : List Nat
def rowsOf (O : Objs) : AV -> Option Rows
 | .ro ts rows deps => some ⟨ts,rows,deps⟩
 | .own id => match look O id with
  | some (.arr ts rows _) => some ⟨ts,rows,[id]⟩
  | _ => none
 | .sub id lo hi => match look O id with
  | some (.arr ts rows _) => some ⟨ts,(rows.take hi.toNat).drop lo.toNat,[id]⟩
  | _ => none
 | _ => none
def sealIds (O : Objs) : List Nat -> Option (List Eff)
 | [] => some []
 | id :: r => match look O id,sealIds O r with
  | some (.arr ts rows _),some l => some (.shut id ts rows :: l)
  | _,_ => none
def sealAV (O : Objs) : AV -> Option (List Eff)
 | .own id => sealIds O [id]
 | .ro _ _ deps => sealIds O deps
 | _ => some []
def sealAVs (O : Objs) : List AV -> Option (List Eff)
 | [] => some []
 | v :: r => match sealAV O v,sealAVs O r with
  | some a,some b => some (a ++ b)
  | _,_ => none
def fillCells (place : Nat -> Option (Nat × Nat)) : List AV -> List (Nat × AV) -> Option (List AV)
 | cs,[] => some cs
 | cs,(i,v) :: r => match place i with
  | some (off,n) => match setCells cs off v.cells with
   | some cs' => bif Nat.beq v.cells.length n then fillCells place cs' r else none
   | none => none
  | none => none
def fillRows (O : Objs) (ts : CTs) : List ts.D -> List (Nat × AV) -> Option (List ts.D)
 | rs,[] => some rs
 | rs,(i,v) :: r => match ts.ofAVs O v.cells with
  | some d => bif Nat.blt i rs.length then fillRows O ts (listPut rs i d) r else none
  | none => none
def ceqs : List CT -> List AV -> List AV -> Option Bool
 | [],[],[] => some true
 | .int _ :: ts,.int k a :: xs,.int k' b :: ys => bif kbeq k k' then match ceqs ts xs ys with
  | some r => some ((a == b) && r)
  | none => none
  else none
 | .bool :: ts,.bool a :: xs,.bool b :: ys => match ceqs ts xs ys with
  | some r => some ((a == b) && r)
  | none => none
 | .str :: ts,.str a :: xs,.str b :: ys => match ceqs ts xs ys with
  | some r => some ((a == b) && r)
  | none => none
 | _,_,_ => none
def aeq (kd : Nat) (cmp : List CT) (lit : Bool) (O : Objs) (x y : AV) (K : Bool -> Option R) : Option R :=
 match x,y with
 | .agg xs,.agg ys => match cmp with
  | [] => none
  | ts => match ceqs ts xs ys with
   | some b => K b
   | none => none
 | .bool a,.bool b => bif Nat.beq kd 10 then K (a == b) else none
 | .nilptr,.nilptr => bif Nat.beq kd 1 then K true else none
 | .nilptr,.ptr _ _ | .ptr _ _,.nilptr => bif Nat.beq kd 1 then K false else none
 | .nilif,.nilif => bif Nat.beq kd 2 && lit then K true else none
 | .nilif,.iface _ _ | .iface _ _,.nilif => bif Nat.beq kd 2 then K false else none
 | .raw (.map none),.raw (.map none) => bif Nat.beq kd 7 then K true else none
 | .mp _,.raw (.map none) => bif Nat.beq kd 7 then K false else none
 | .nilfunc,.nilfunc => bif Nat.beq kd 3 then K true else none
 | .nilfunc,.func _ _ _ | .func _ _ _,.nilfunc => bif Nat.beq kd 3 then K false else none
 | .nilsl,.nilsl => bif Nat.beq kd 4 then K true else none
 | .own id,.nilsl => match look O id with
  | some (.arr _ rows _) => bif Nat.beq kd 4 then chk (0 < rows.length) (K false) else none
  | _ => none
 | .ro _ rows _,.nilsl => bif Nat.beq kd 4 then chk (0 < rows.length) (K false) else none
 | _,_ => none
def aint (op : BinOp) (k : IntKind) (x y : Int) (K : AV -> Option R) : Option R :=
 match op with
 | .add => K (.int k (k.wrap (x + y)))
 | .sub => K (.int k (k.wrap (x - y)))
 | .mul => K (.int k (k.wrap (x * y)))
 | .quo => chk (¬ y = 0) (K (.int k (k.wrap (x.tdiv y))))
 | .rem => chk (¬ y = 0) (K (.int k (x.tmod y)))
 | .and => K (.int k (k.wrap (BitVec.ofInt k.bits x &&& BitVec.ofInt k.bits y).toNat))
 | .or => K (.int k (k.wrap (BitVec.ofInt k.bits x ||| BitVec.ofInt k.bits y).toNat))
 | .xor => K (.int k (k.wrap (BitVec.ofInt k.bits x ^^^ BitVec.ofInt k.bits y).toNat))
 | .andNot => K (.int k (k.wrap (BitVec.ofInt k.bits x &&& ~~~ BitVec.ofInt k.bits y).toNat))
 | .eql => K (.bool (x == y))
 | .neq => K (.bool (x != y))
 | .lss => K (.bool (decide (x < y)))
 | .leq => K (.bool (decide (x <= y)))
 | .gtr => K (.bool (decide (x > y)))
 | .geq => K (.bool (decide (x ≥ y)))
 | _ => none
def ashift (left : Bool) (k : IntKind) (x y : Int) (K : AV -> Option R) : Option R :=
 chk (0 <= y) (bif left then K (.int k (k.wrap (x * 2 ^ min y.toNat k.bits))) else K (.int k (x.fdiv (2 ^ min y.toNat k.bits))))
def astr (op : BinOp) (x y : ByteArray) (K : AV -> Option R) : Option R :=
 match op with
 | .add => chk (x.size + y.size <= 9223372036854775807) (K (.str (x ++ y)))
 | .eql => K (.bool (x.toList == y.toList))
 | .neq => K (.bool (!(x.toList == y.toList)))
 | .lss => K (.bool (Op.bytesLess x.toList y.toList))
 | .leq => K (.bool (Op.bytesLess x.toList y.toList || x.toList == y.toList))
 | .gtr => K (.bool (!(Op.bytesLess x.toList y.toList || x.toList == y.toList)))
 | .geq => K (.bool (!Op.bytesLess x.toList y.toList))
 | _ => none
def abin (kd : Nat) (cmp : List CT) (lit : Bool) (O : Objs) (op : BinOp) (x y : AV) (K : AV -> Option R) : Option R :=
 match op,x,y with
 | .shl,.int k a,.int _ b => ashift true k a b K
 | .shr,.int k a,.int _ b => ashift false k a b K
 | op,.int k a,.int k' b => bif kbeq k k' then aint op k a b K else none
 | op,.str a,.str b => astr op a b K
 | .eql,x,y => aeq kd cmp lit O x y fun t => K (.bool t)
 | .neq,x,y => aeq kd cmp lit O x y fun t => K (.bool (!t))
 | _,_,_ => none
def cutRows {α : Type} (rows : List α) (lo hi : Option AV) (K : List α -> Option R) : Option R :=
 match lo,hi with
 | none,none => K rows
 | some (.int _ l),none => chk (0 <= l) (chk (l <= (rows.length : Int)) (K (rows.drop l.toNat)))
 | none,some (.int _ h) => chk (0 <= h) (chk (h <= (rows.length : Int)) (K (rows.take h.toNat)))
 | some (.int _ l),some (.int _ h) => chk (0 <= l) (chk (l <= h) (chk (h <= (rows.length : Int)) (K ((rows.take h.toNat).drop l.toNat))))
 | _,_ => none
def cutBounds (len : Nat) (lo hi : Option AV) (K : Int -> Int -> Option R) : Option R :=
 match lo,hi with
 | none,none => K 0 len
 | some (.int _ l),none => chk (0 <= l) (chk (l <= (len : Int)) (K l len))
 | none,some (.int _ h) => chk (0 <= h) (chk (h <= (len : Int)) (K 0 h))
 | some (.int _ l),some (.int _ h) => chk (0 <= l) (chk (l <= h) (chk (h <= (len : Int)) (K l h)))
 | _,_ => none
def cutStr (s : ByteArray) (lo hi : Option AV) (K : ByteArray -> Option R) : Option R :=
 match lo,hi with
 | none,none => K (s.extract 0 s.size)
 | some (.int _ l),none => chk (0 <= l) (chk (l <= (s.size : Int)) (K (s.extract l.toNat s.size)))
 | none,some (.int _ h) => chk (0 <= h) (chk (h <= (s.size : Int)) (K (s.extract 0 h.toNat)))
 | some (.int _ l),some (.int _ h) => chk (0 <= l) (chk (l <= h) (chk (h <= (s.size : Int)) (K (s.extract l.toNat h.toNat))))
 | _,_ => none
def slT (t : Nat) : Option CTs := match look C.ty t with
 | some ti => bif Nat.beq ti.kd 4 then match ti.row with
  | some (.one (.sl ts)) => some ts
  | _ => none else none
 | none => none
def isStrT (t : Nat) : Bool := match look C.ty t with
 | some ti => Nat.beq ti.kd 9
 | none => false
def kdOf (t : Nat) : Nat := match look C.ty t with
 | some ti => ti.kd
 | none => 0
def cmpOf (t : Nat) : List CT := match look C.ty t with
 | some ti => ti.cmp
 | none => []
def arrT (t : Nat) : Option (CTs × Nat) := match look C.ty t with
 | some ti => bif Nat.beq ti.kd 5 then match look C.ty ti.elem with
  | some te => match te.row with
   | some ts => bif Nat.beq ti.size (ti.len * ts.n) then some (ts,ti.len) else none
   | none => none
  | none => none
  else none
 | none => none
def avsN (ts : CTs) (rows : List ts.D) : Nat -> Nat -> List AV
 | 0,_ => []
 | n + 1,j => ts.avs (rows.getD j ts.zero) ++ avsN ts rows n (j + 1)
def rowsFrom (O : Objs) (ts : CTs) : Nat -> List AV -> Option (List ts.D)
 | 0,[] => some []
 | 0,_ :: _ => none
 | n + 1,cs => match takeN ts.n cs with
  | some l => match ts.ofAVs O l,rowsFrom O ts n (dropN ts.n cs) with
   | some d,some ds => some (d :: ds)
   | _,_ => none
  | none => none
def putRows {α : Type} : List α -> Nat -> List α -> List α
 | l,_,[] => l
 | l,i,x :: r => putRows (listPut l i x) (i + 1) r
def iadd : Int -> Int -> Int
 | .ofNat 0,m => m
 | j,m => j + m
def findS {α : Type} : List (String × α) -> String -> Option α
 | [],_ => none
 | (n,x) :: r,m => bif n == m then some x else findS r m
def meth (t : Nat) (m : String) : Option FuncId := match look C.meths t with
 | some l => findS l m
 | none => none
def keq : (kt : CT) -> kt.D -> kt.D -> Bool
 | .int _,a,b => (show Int from a) == b
 | .bool,a,b => (show Bool from a) == b
 | .str,a,b => (show ByteArray from a) == b
 | .sl _,_,_ => false
def closedAV : AV -> Bool
 | .int _ _ | .bool _ | .str _ | .nilsl | .nilptr | .nilfunc | .nilif | .func _ [] [] | .iface _ (.agg []) | .ptr _ _ => true
 | _ => false
def flatAV : AV -> Bool
 | .ptr _ _ => false
 | _ => true
def flatEs {α : Type} : List (α × AV) -> Bool
 | [] => true
 | (_,x) :: r => flatAV x && flatEs r
def flatM : MapD -> Bool
 | .lit _ es => flatEs es
 | .dat _ _ _ => true
def plainT (ti : TI) : Option CT := bif Nat.beq ti.kd 9 then some .str else bif Nat.beq ti.kd 10 then some .bool else bif Nat.beq ti.kd 11 then match ti.row with
  | some (.one (.int k)) => some (.int k)
  | _ => none
 else none
def mapT (t : Nat) : Option (CT × Nat × Option CT) := match look C.ty t with
 | some ti => bif Nat.beq ti.kd 7 then match look C.ty ti.elem,look C.ty ti.len with
  | some tk,some tv => match plainT tk with
   | some kt => some (kt,ti.len,plainT tv)
   | none => none
  | _,_ => none
  else none
 | none => none
def zero1 (t : Nat) : Option AV := match look C.ty t with
 | some ti => bif ti.agg then none else match ti.zero with
  | [z] => bif Nat.beq ti.size 1 then some z else none
  | _ => none
 | none => none
def mget {α β : Type} (q : α -> α -> Bool) (k : α) : List (α × β) -> Option β
 | [] => none
 | (j,v) :: r => bif q k j then some v else mget q k r
def mput {α β : Type} (q : α -> α -> Bool) (k : α) (v : β) : List (α × β) -> List (α × β)
 | [] => [(k,v)]
 | (j,u) :: r => bif q k j then (k,v) :: r else (j,u) :: mput q k v r
def mdel {α β : Type} (q : α -> α -> Bool) (k : α) : List (α × β) -> List (α × β)
 | [] => []
 | (j,u) :: r => bif q k j then r else (j,u) :: mdel q k r
def litGet (kt : CT) (k : kt.D) (z : AV) (K : AV -> Bool -> Option R) : List (kt.D × AV) -> Option R
 | [] => K z false
 | (j,v) :: r => sel (keq kt k j) (K v true) (litGet kt k z K r)
def litPut (kt : CT) (k : kt.D) (v : AV) (K : List (kt.D × AV) -> Option R) : List (kt.D × AV) -> List (kt.D × AV) -> Option R
 | acc,[] => K (acc ++ [(k,v)])
 | acc,(j,u) :: r => sel (keq kt k j) (K (acc ++ (k,v) :: r)) (litPut kt k v K (acc ++ [(j,u)]) r)
def withOk (ok : Bool) (v : AV) (b : Bool) : AV := bif ok then .tup [v,.bool b] else v
def isLit : Operand -> Bool
 | .const _ => true
 | _ => false
def plain : AV -> Bool
 | .undef | .tup _ | .agg _ => false
 | _ => true
def plains : List AV -> Bool
 | [] => true
 | v :: r => plain v && plains r
def sealsId (id : Nat) : List Eff -> Bool
 | [] => false
 | .shut j _ _ :: r => Nat.beq j id || sealsId id r
 | _ :: r => sealsId id r
def optEv (tm : List (Nat × AV)) : Option Operand -> Option (Option AV)
 | none => some none
 | some x => (ev tm x).map some
def fieldOf (ti : TI) (f : Nat) : Option (Nat × Nat) := nth ti.fields f
def fieldBig (ft : Nat) : Bool := match look C.ty ft with
 | some tf => Nat.blt 0 tf.size
 | none => false
def aappend (row : CTs) (elem : Nat) (O : Objs) (nid : Nat) (x y : AV) (K : KK R) : Option R :=
 match look C.ty elem with
 | some te => match te.row with
  | some ts =>
   bif !row.beq ts then none else
   let ys : Option (List ts.D) := match y with
    | .nilsl => some []
    | .str s => castRows (.one (.int .u8)) ts (strNums s)
    | y => match rowsOf O y with
     | some r => castRows r.ts ts r.rows
     | none => none
   match ys with
   | some ys => match x with
    | .nilsl => chk (ys.length * te.bytes <= 140737488355328) (K (.own nid) ((nid,.arr ts ys true) :: O) (nid + 1) [])
    | .own id => match look O id with
     | some (.arr ts' rows true) => match castRows ts' ts rows with
      | some rows => chk ((rows.length + ys.length) * te.bytes <= 140737488355328) (K (.own id) ((id,.arr ts (rows ++ ys) true) :: O) nid [.kill id])
      | none => none
     | _ => none
    | _ => none
   | none => none
  | none => none
 | none => none
structure Got (s : List PT) where
 data : PTD s
 effs : List Eff
 moved : List Nat
 used : List Nat
 boxes : List Nat
def useAV (m : Md) (O : Objs) (x : AV) : Option (List Eff × List Nat × List Nat) :=
 match m with
 | .ro => match x with
  | .own id => some ([],[],[id])
  | .ro _ _ deps => some ([],[],deps)
  | _ => some ([],[],[])
 | .leak => (sealAV O x).map fun e => (e,[],match x with | .own id => [id] | .ro _ _ deps => deps | _ => [])
 | .mv => match x with
  | .own id => some ([.kill id,.unview id],[id],[])
  | .nilsl => some ([],[],[])
  | _ => none
def isSl : CT -> Bool
 | .sl _ => true
 | _ => false
def CTs.list : CTs -> List CT
 | .one t => [t]
 | .cons t ts => t :: ts.list
def useAVs (O : Objs) : List CT -> List Md -> List AV -> Option (List Eff × List Nat × List Nat)
 | [],_,[] => some ([],[],[])
 | t :: ts,ms,x :: xs =>
  bif isSl t then match ms with
   | m :: ms => match useAV m O x,useAVs O ts ms xs with
    | some (a,b,c),some (a',b',c') => some (a ++ a',b ++ b',c ++ c')
    | _,_ => none
   | [] => none
  else useAVs O ts ms xs
 | _,_,_ => none
def getArg (O : Objs) (p : PT) (x : AV) : Option (p.sh.D × List Eff × List Nat × List Nat × List Nat) :=
 match p with
 | ⟨.one t,ms⟩ => match t.ofAV O x,useAVs O [t] ms [x] with
  | some d,some (a,b,c) => some (d,a,b,c,[])
  | _,_ => none
 | ⟨.agg ts,ms⟩ => match x with
  | .agg cs => match ts.ofAVs O cs,useAVs O ts.list ms cs with
   | some d,some (a,b,c) => some (d,a,b,c,[])
   | _,_ => none
  | _ => none
 | ⟨.agg0,_⟩ => match x with
  | .agg [] => some ((),[],[],[],[])
  | _ => none
 | ⟨.st ts,ms⟩ => match x with
  | .ptr id 0 => match look O id with
   | some (.box cs) => match ts.ofAVs O cs,useAVs O ts.list ms cs with
    | some d,some (a,b,c) => some (d,a,b,c,[id])
    | _,_ => none
   | _ => none
  | _ => none
def getArgs (O : Objs) : (ps : List PT) -> List AV -> Option (PTD ps × List Eff × List Nat × List Nat × List Nat)
 | [],[] => some ((),[],[],[],[])
 | [p],[x] => getArg O p x
 | p :: q :: r,x :: y :: xs => match getArg O p x,getArgs O (q :: r) (y :: xs) with
  | some (d,a,b,c,e),some (d',a',b',c',e') => some ((d,d'),a ++ a',b ++ b',c ++ c',e ++ e')
  | _,_ => none
 | _,_ => none
def apart (a b : List Nat) : Bool := match a with
 | [] => true
 | x :: r => !hasId x b && apart r b
def putCell (m : Md) (t : CT) (d : t.D) (nid : Nat) : AV × Objs × Nat :=
 match t,m with
 | .sl ts,.mv => (.own nid,[(nid,.arr ts d true)],nid + 1)
 | t,_ => (t.av d,[],nid)
def putCells : (ts : CTs) -> List Md -> ts.D -> Nat -> List AV × Objs × Nat
 | .one t,ms,d,nid => let (v,o,n) := putCell (match ms with | m :: _ => m | [] => .ro) t d nid; ([v],o,n)
 | .cons t ts,ms,d,nid =>
  bif isSl t then
   let (v,o,n) := putCell (match ms with | m :: _ => m | [] => .ro) t d.1 nid
   let (vs,o',n') := putCells ts (match ms with | _ :: r => r | [] => []) d.2 n
   (v :: vs,o' ++ o,n')
  else
   let (vs,o',n') := putCells ts ms d.2 nid
   (t.av d.1 :: vs,o',n')
def isSt : PT -> Bool
 | ⟨.st _,_⟩ => true
 | _ => false
def tailOf {α : Type} : List α -> List α
 | [] => []
 | _ :: r => r
def putOne (boxes : List Nat) (p : PT) (d : p.sh.D) (nid : Nat) : List AV × Objs × Nat :=
 match p,d with
 | ⟨.one t,ms⟩,d => let (v,o,n) := putCell (match ms with | m :: _ => m | [] => .ro) t d nid; ([v],o,n)
 | ⟨.agg ts,ms⟩,d => let (vs,o,n) := putCells ts ms d nid; ([.agg vs],o,n)
 | ⟨.agg0,_⟩,_ => ([.agg []],[],nid)
 | ⟨.st ts,ms⟩,d =>
  let (vs,o,n) := putCells ts ms d nid
  match boxes with
  | b :: _ => ([],(b,.box vs) :: o,n)
  | [] => ([],o,n)
def putRes (boxes : List Nat) : (ps : List PT) -> PTD ps -> Nat -> List AV × Objs × Nat
 | [],_,nid => ([],[],nid)
 | [p],d,nid => putOne boxes p d nid
 | p :: q :: r,d,nid =>
  let (vs,o,n) := putOne boxes p d.1 nid
  let (vs',o',n') := putRes (bif isSt p then tailOf boxes else boxes) (q :: r) d.2 n
  (vs ++ vs',o' ++ o,n')
def tupOf : List AV -> AV
 | [v] => v
 | vs => .tup vs
def deadObjs : List Nat -> Objs
 | [] => []
 | id :: r => (id,.dead) :: deadObjs r
def chkCells : List AV -> List AV -> Option R -> Option R
 | [],[],x => x
 | .int k a :: r,.int k' b :: r',x => bif kbeq k k' then chk (a = b) (chkCells r r' x) else none
 | .bool a :: r,.bool b :: r',x => chk (a = b) (chkCells r r' x)
 | .str a :: r,.str b :: r',x => chk (a = b) (chkCells r r' x)
 | _,_,_ => none
def chkBoxes (bs : List Nat) (O : Objs) : Objs -> Option R -> Option R
 | [],x => x
 | (b,.box cs) :: r,x => match look O b with
  | some (.box cs') => bif hasId b bs then chkCells cs cs' (chkBoxes bs O r x) else none
  | _ => none
 | _,_ => none
def acall (f : FuncId) (s : Sig) (O : Objs) (nid : Nat) (args : List AV) (K : KK R) : Option R :=
 match getArgs O s.ps args with
 | some (d,effs,moved,used,boxes) =>
  bif nodup (moved ++ boxes) && apart moved used then
   (Rc f s d).bind fun r =>
    let (vs,o,n) := putRes boxes s.rs r nid
    bif s.lk then (bif effs.isEmpty && moved.isEmpty then chkBoxes boxes O o (K (tupOf vs) O n []) else none)
    else K (tupOf vs) (o ++ (deadObjs moved ++ O)) n effs
  else none
 | none => none
def callee (tm : List (Nat × AV)) : Op -> Option (FuncId × List AV)
 | .call ⟨.value f,args,_⟩ => match ev tm f,evs tm args.toList with
  | some (.func (.func g) a b),some vs => some (g,a ++ (vs ++ b))
  | _,_ => none
 | .call ⟨.invoke x m,args,_⟩ => match ev tm x,evs tm args.toList with
  | some (.iface t v),some vs => match meth C t m with
   | some g => some (g,v :: vs)
   | none => none
  | _,_ => none
 | _ => none
def aop (tm : List (Nat × AV)) (O : Objs) (nid : Nat) (o : Oper) (K : KK R) : Option R :=
 match o.op with
 | .move x | .assign x => match ev tm x with
  | some v => K v O nid []
  | none => none
 | .pick c a b => match ev tm c,ev tm a,ev tm b with
  | some (.bool t),some x,some y => sel t (K x O nid []) (K y O nid [])
  | _,_,_ => none
 | .alloc t => match arrT C t with
  | some (ts,n) => bif Nat.blt 0 n then K (.eptr nid 0 0) ((nid,.arr ts (List.replicate n ts.zero) true) :: O) (nid + 1) [] else none
  | none => match look C.ty t with
   | some ti => bif !Nat.beq ti.zero.length ti.size then none else K (.ptr nid 0) ((nid,.box ti.zero) :: O) (nid + 1) []
   | none => none
 | .box _ x => match ev tm x with
  | some v => K (.ptr nid 0) ((nid,.box v.cells) :: O) (nid + 1) []
  | none => none
 | .build t ps => match look C.ty t,evps tm ps.toList with
  | some ti,some vs => match fillCells (fun i => match fieldOf ti i with
    | some (o,ft) => match look C.ty ft with
     | some tf => some (o,tf.size)
     | none => none
    | none => none) ti.zero vs with
   | some cs => bif Nat.beq ti.zero.length ti.size && Nat.beq ti.kd 6 then K (.agg cs) O nid [] else none
   | none => bif Nat.beq ti.zero.length ti.size && Nat.beq ti.kd 5 then match look C.ty ti.elem with
    | some te => match fillCells (fun i => some (i * te.size,te.size)) ti.zero vs with
     | some cs => K (.agg cs) O nid []
     | none => none
    | none => none
    else none
  | _,_ => none
 | .buildSlice t n ps => match look C.ty t,evps tm ps.toList with
  | some ti,some vs => match look C.ty ti.elem with
   | some te => match te.row with
    | some ts => match fillRows O ts (List.replicate n ts.zero) vs,sealAVs O ((vs.map (·.2.cells)).flatten),slT C t with
     | some rows,some effs,some ts' => bif !ts'.beq ts || Nat.blt 16777216 (n * te.size) then none else K (.own nid) ((nid,.arr ts rows true) :: O) (nid + 1) effs
     | _,_,_ => none
    | none => none
   | none => none
  | _,_ => none
 | .load t x => match look C.ty t,ev tm x with
  | some ti,some (.ptr id off) => match look O id with
   | some (.box cs) => match part ti.agg ti.size off cs with
    | some v => K v O nid []
    | none => none
   | _ => none
  | some ti,some (.eptr id i off) => match look O id with
   | some (.arr ts rows _) => match arrT C t with
    | some (ts',n) => bif Nat.beq ts'.n ts.n && Nat.beq off 0 then chk (i.toNat + n <= rows.length) (K (.agg (avsN ts rows n i.toNat)) O nid []) else none
    | none => match part ti.agg ti.size off (ts.avs (rows.getD i.toNat ts.zero)) with
     | some v => K v O nid []
     | none => none
   | _ => none
  | some ti,some (.rptr ts rows _ i off) => match arrT C t with
   | some (ts',n) => bif Nat.beq ts'.n ts.n && Nat.beq off 0 then chk (i.toNat + n <= rows.length) (K (.agg (avsN ts rows n i.toNat)) O nid []) else none
   | none => match part ti.agg ti.size off (ts.avs (rows.getD i.toNat ts.zero)) with
    | some v => K v O nid []
    | none => none
  | _,_ => none
 | .store t a x => match look C.ty t,ev tm a,ev tm x with
  | some ti,some (.ptr id off),some v => match look O id with
   | some (.box cs) => bif !(Nat.beq v.cells.length ti.size && plains v.cells) then none else match setCells cs off v.cells with
    | some cs' => K .undef ((id,.box cs') :: O) nid []
    | none => none
   | _ => none
  | some ti,some (.eptr id i off),some v => match look O id with
   | some (.arr ts rows true) => bif !(Nat.beq v.cells.length ti.size && plains v.cells && Nat.blt 0 ti.size) then none else match arrT C t with
    | some (ts',n) => match rowsFrom O ts n v.cells,sealAVs O v.cells with
     | some rs,some effs => bif sealsId id effs || !(Nat.beq ts'.n ts.n && Nat.beq off 0) then none else chk (i.toNat + n <= rows.length) (K .undef ((id,.arr ts (putRows rows i.toNat rs) true) :: O) nid (effs ++ [.unview id]))
     | _,_ => none
    | none => match ts.puts O (rows.getD i.toNat ts.zero) off v.cells,sealAVs O v.cells with
     | some row,some effs => bif sealsId id effs then none else K .undef ((id,.arr ts (rows.set i.toNat row) true) :: O) nid (effs ++ [.unview id])
     | _,_ => none
   | _ => none
  | _,_,_ => none
 | .nilCheck x => match ev tm x with
  | some (.ptr id off) => K (.ptr id off) O nid []
  | some (.eptr id i off) => K (.eptr id i off) O nid []
  | some (.rptr ts rows deps i off) => K (.rptr ts rows deps i off) O nid []
  | some (.func (.func g) a b) => K (.func (.func g) a b) O nid []
  | _ => none
 | .binOp op t x y _ => match ev tm x,ev tm y with
  | some a,some b => abin (kdOf C t) (cmpOf C t) (isLit x || isLit y) O op a b fun v => K v O nid []
  | _,_ => none
 | .unOp op _ x => match op,ev tm x with
  | .neg,some (.int k n) => K (.int k (k.wrap (0 - n))) O nid []
  | .xor,some (.int k n) => aint .xor k (if k.signed then -1 else k.max) n fun v => K v O nid []
  | .not,some (.bool b) => K (.bool (!b)) O nid []
  | _,_ => none
 | .convert src dst x => match ev tm x,look C.ty dst,look C.ty src with
  | some (.int _ n),some td,some _ => match td.row with
   | some (.one (.int k)) => bif Nat.beq td.kd 11 then K (.int k (k.wrap n)) O nid [] else none
   | _ => none
  | some (.str s),some td,some _ => bif Nat.beq td.kd 9 then K (.str s) O nid [] else match slT C dst with
   | some (.one (.int .u8)) => match look C.ty td.elem with
    | some te => bif Nat.beq te.kd 11 then K (.own nid) ((nid,.arr (.one (.int .u8)) (strNums s) true) :: O) (nid + 1) [] else none
    | none => none
   | _ => none
  | some v,some td,some tsr => match slT C src with
   | some (.one (.int .u8)) => match look C.ty tsr.elem with
    | some te => bif Nat.beq te.kd 11 && Nat.beq td.kd 9 then match v with
     | .nilsl => K (.str .empty) O nid []
     | v => match rowsOf O v with
      | some r => match castRows r.ts (.one (.int .u8)) r.rows with
       | some l => K (.str (numsStr l)) O nid []
       | none => none
      | none => none
     else none
    | none => none
   | _ => none
  | _,_,_ => none
 | .makeInterface t x => match ev tm x with
  | some v => bif Nat.beq (kdOf C t) 0 || Nat.beq (kdOf C t) 2 then none else K (.iface t v) O nid []
  | none => none
 | .makeFunc fn a b => match evs tm a.toList,evs tm b.toList with
  | some x,some y => K (.func fn x y) O nid []
  | _,_ => none
 | .makeSlice t l c => match look C.ty t,ev tm l,ev tm c with
  | some ti,some (.int _ l),some (.int _ c) => match look C.ty ti.elem with
   | some te => match te.row with
    | some ts => match slT C t with
     | some ts' => bif !ts'.beq ts then none else chk (0 <= l) (chk (l <= c) (chk (c * te.bytes <= 140737488355328)
      (K (.own nid) ((nid,.arr ts (List.replicate l.toNat ts.zero) true) :: O) (nid + 1) [])))
     | none => none
    | none => none
   | none => none
  | _,_,_ => none
 | .slice t x lo hi none => bif hasId t C.subs then match ev tm x,optEv tm lo,optEv tm hi with
  | some (.own id),some l,some h => match look O id,slT C t with
   | some (.arr ts rows _),some ts' => bif Nat.beq ts'.n ts.n then cutBounds rows.length l h fun a b => K (.sub id a b) O nid [] else none
   | _,_ => none
  | some v,some l,some h => match rowsOf O v,slT C t with
   | some r,some ts' => bif !Nat.beq ts'.n r.ts.n then none else cutRows r.rows l h fun rows => K (.ro r.ts rows r.deps) O nid []
   | _,_ => none
  | _,_,_ => none
  else match arrT C t with
  | some (ts',n) => match ev tm x,optEv tm lo,optEv tm hi with
   | some (.eptr id i off),some l,some h => match look O id with
    | some (.arr ts rows _) => bif Nat.beq ts'.n ts.n && Nat.beq off 0 then chk (i = 0) (chk (rows.length = n) (cutRows rows l h fun rs => K (.ro ts rs [id]) O nid [])) else none
    | _ => none
   | _,_,_ => none
  | none => match ev tm x,optEv tm lo,optEv tm hi with
  | some (.str s),some l,some h => bif !isStrT C t then none else cutStr s l h fun s => K (.str s) O nid []
  | some v,some l,some h => match rowsOf O v,slT C t with
   | some r,some ts' => bif !Nat.beq ts'.n r.ts.n then none else cutRows r.rows l h fun rows => K (.ro r.ts rows r.deps) O nid []
   | _,_ => none
  | _,_,_ => none
 | .fieldAddr t x f => match look C.ty t,ev tm x with
  | some ti,some v => match fieldOf ti f,v with
   | some (o,ft),.ptr id off => bif !fieldBig C ft then none else K (.ptr id (off + o)) O nid []
   | some (o,ft),.eptr id i off => bif !fieldBig C ft then none else K (.eptr id i (off + o)) O nid []
   | some (o,ft),.rptr ts rows deps i off => bif !fieldBig C ft then none else K (.rptr ts rows deps i (off + o)) O nid []
   | _,_ => none
  | _,_ => none
 | .field t x f => match look C.ty t,ev tm x with
  | some ti,some (.agg cs) => match fieldOf ti f with
   | some (o,ft) => match look C.ty ft with
    | some tf => match part tf.agg tf.size o cs with
     | some v => K v O nid []
     | none => none
    | none => none
   | none => none
  | _,_ => none
 | .sliceToArrayPointer t x => match arrT C t,ev tm x with
  | some (ts',n),some v => match rowsOf O v with
   | some q => bif Nat.beq ts'.n q.ts.n && Nat.blt 0 n then chk (n <= q.rows.length) (K (.rptr q.ts q.rows q.deps 0 0) O nid []) else none
   | none => none
  | _,_ => none
 | .makeMap t none => match mapT C t with
  | some (kt,_,none) => K (.mp nid) ((nid,.map (.lit kt [])) :: O) (nid + 1) []
  | some (kt,_,some vt) => K (.mp nid) ((nid,.map (.dat kt vt [])) :: O) (nid + 1) []
  | none => none
 | .insert t m k x | .mapUpdate t m k x => match mapT C t,ev tm m with
  | some (kt,_,_),some (.mp id) => match look O id,ev tm k,ev tm x with
   | some (.map (.lit kt' es)),some k,some v => bif kt'.beq kt && closedAV v then match kt'.ofAV [] k with
    | some k => litPut kt' k v (fun es => K .undef ((id,.map (.lit kt' es)) :: O) nid []) [] es
    | none => none
    else none
   | some (.map (.dat kt' vt es)),some k,some v => bif kt'.beq kt && !isSl vt then match kt'.ofAV [] k,vt.ofAV [] v with
    | some k,some v => K .undef ((id,.map (.dat kt' vt (mput (keq kt') k v es))) :: O) nid []
    | _,_ => none
    else none
   | _,_,_ => none
  | _,_ => none
 | .lookup t m k ok => match mapT C t,ev tm m with
  | some (kt,tv,_),some (.mp id) => match look O id,ev tm k with
   | some (.map (.lit kt' es)),some k => bif kt'.beq kt then match kt'.ofAV [] k,zero1 C tv with
    | some k,some z => litGet kt' k z (fun v b => K (withOk ok v b) O nid []) es
    | _,_ => none
    else none
   | some (.map (.dat kt' vt es)),some k => bif kt'.beq kt then match kt'.ofAV [] k,zero1 C tv with
    | some k,some z => match vt.ofAV [] z with
     | some z => K (withOk ok (vt.av ((mget (keq kt') k es).getD z)) (mget (keq kt') k es).isSome) O nid []
     | none => none
    | _,_ => none
    else none
   | _,_ => none
  | some (kt,tv,_),some (.raw (.map none)) => match ev tm k with
   | some k => match kt.ofAV [] k,zero1 C tv with
    | some _,some z => K (withOk ok z false) O nid []
    | _,_ => none
   | none => none
  | _,_ => none
 | .indexAddr t x i => match slT C t with
  | none => match arrT C t with
   | none => none
   | some (ts',n) => match ev tm x,ev tm i with
    | some (.eptr id j off),some (.int _ m) => match look O id with
     | some (.arr ts rows _) => bif Nat.beq ts'.n ts.n && Nat.beq off 0 then chk (0 <= m) (chk (m < (n : Int)) (chk (j.toNat + n <= rows.length) (K (.eptr id (iadd j m) 0) O nid []))) else none
     | _ => none
    | some (.rptr ts rows deps j off),some (.int _ m) => bif Nat.beq ts'.n ts.n && Nat.beq off 0 then chk (0 <= m) (chk (m < (n : Int)) (chk (j.toNat + n <= rows.length) (K (.rptr ts rows deps (iadd j m) 0) O nid []))) else none
    | _,_ => none
  | some ts' => match ev tm x,ev tm i with
  | some (.own id),some (.int _ n) => match look O id with
   | some (.arr ts rows _) => bif !Nat.beq ts'.n ts.n then none else chk (0 <= n) (chk (n < (rows.length : Int)) (K (.eptr id n 0) O nid []))
   | _ => none
  | some (.ro ts rows deps),some (.int _ n) => bif !Nat.beq ts'.n ts.n then none else chk (0 <= n) (chk (n < (rows.length : Int)) (K (.rptr ts rows deps n 0) O nid []))
  | some (.sub id lo hi),some (.int _ n) => match look O id with
   | some (.arr ts rows _) => bif !Nat.beq ts'.n ts.n then none else chk (0 <= n) (chk (n < hi - lo) (K (.eptr id (lo + n) 0) O nid []))
   | _ => none
  | _,_ => none
 | .index t x i => match ev tm x,ev tm i with
  | some (.str s),some (.int _ n) => bif !isStrT C t then none else chk (0 <= n) (chk (n < (s.size : Int)) (K (.int .u8 (sbyte s n)) O nid []))
  | _,_ => none
 | .extract x i => match ev tm x with
  | some (.tup vs) => match nth vs i with
   | some v => K v O nid []
   | none => none
  | _ => none
 | .call ⟨.builtin .len,args,tys⟩ => match evs tm args.toList,tys.toList with
  | some [.str s],[t] => bif !isStrT C t then none else K (.int .i64 (s.size : Int)) O nid []
  | some [.mp id],[t] => match mapT C t with
   | some _ => match look O id with
    | some (.map (.dat _ _ es)) => K (.int .i64 (es.length : Int)) O nid []
    | _ => none
   | none => none
  | some [v],[t] => match slT C t with
   | some _ => match v with
    | .nilsl => K (.int .i64 0) O nid []
    | v => match rowsOf O v with
     | some r => K (.int .i64 (r.rows.length : Int)) O nid []
     | none => none
   | none => none
  | _,_ => none
 | .call ⟨.builtin .append,args,tys⟩ => match evs tm args.toList,tys.toList with
  | some [x,y],[t,t'] => match look C.ty t,slT C t with
   | some ti,some row => bif !(isStrT C t' || (match slT C t' with | some _ => true | none => false)) then none else aappend C row ti.elem O nid x y K
   | _,_ => none
  | _,_ => none
 | .call ⟨.builtin .min,args,_⟩ => match evs tm args.toList with
  | some [.int k a,.int k' b] => bif kbeq k k' then K (.int k (if b < a then b else a)) O nid [] else none
  | _ => none
 | .call ⟨.builtin .max,args,_⟩ => match evs tm args.toList with
  | some [.int k a,.int k' b] => bif kbeq k k' then K (.int k (if b > a then b else a)) O nid [] else none
  | _ => none
 | .call ⟨.builtin .delete,args,tys⟩ => match evs tm args.toList,tys.toList with
  | some [.mp id,k],t :: _ => match mapT C t,look O id with
   | some (kt,_,_),some (.map (.dat kt' vt es)) => bif kt'.beq kt then match kt'.ofAV [] k with
    | some k => K (.tup []) ((id,.map (.dat kt' vt (mdel (keq kt') k es))) :: O) nid []
    | none => none
    else none
   | _,_ => none
  | _,_ => none
 | op => match callee C tm op with
  | some (g,vs) => match look C.sig g with
   | some s => acall Rc g s O nid vs K
   | none => none
  | none => none
def opers : Op -> List Operand
 | .move x | .assign x | .nilCheck x | .unOp _ _ x | .convert _ _ x | .makeInterface _ x | .box _ x | .extract x _ | .load _ x | .fieldAddr _ x _ | .field _ x _ => [x]
 | .pick c a b => [c,a,b]
 | .build _ ps | .buildSlice _ _ ps => ps.toList.map (·.2)
 | .store _ a x | .binOp _ _ a x _ | .indexAddr _ a x | .index _ a x | .makeSlice _ a x => [a,x]
 | .slice _ x lo hi _ => x :: (lo.toList ++ hi.toList)
 | .sliceToArrayPointer _ x => [x]
 | .makeFunc _ a b => a.toList ++ b.toList
 | .call ⟨.builtin _,args,_⟩ => args.toList
 | .call ⟨.value f,args,_⟩ => f :: args.toList
 | .call ⟨.invoke x _,args,_⟩ => x :: args.toList
 | .insert _ m k x | .mapUpdate _ m k x => [m,k,x]
 | .lookup _ m k _ => [m,k]
 | _ => []
def slotsIn : List Operand -> List Nat
 | [] => []
 | .tmp t :: r => t :: slotsIn r
 | _ :: r => slotsIn r
def quiet (o : Oper) : Bool := match o.op with
 | .move _ | .assign _ | .pick .. | .extract .. | .binOp .. | .unOp .. | .fieldAddr .. | .field .. | .indexAddr .. | .index .. | .slice .. | .makeInterface .. | .makeFunc .. | .nilCheck _ | .build .. | .load .. | .sliceToArrayPointer .. => true
 | .convert src dst _ => Nat.beq (kdOf C dst) 11 || (Nat.beq (kdOf C dst) 9 && Nat.beq (kdOf C src) 9)
 | .call ⟨.builtin .len,_,_⟩ | .call ⟨.builtin .min,_,_⟩ | .call ⟨.builtin .max,_,_⟩ => true
 | _ => false
def mapOp (o : Oper) : Bool := match o.op with
 | .insert .. | .mapUpdate .. | .lookup .. | .makeMap .. | .call ⟨.builtin .delete,_,_⟩ => true
 | _ => false
def isNew0 (o : Oper) : Bool := match o.op with
 | .alloc _ | .box .. | .buildSlice .. | .makeSlice .. => true
 | _ => false
def isBS (o : Oper) : Bool := match o.op with
 | .buildSlice .. => true
 | _ => false
def loudT (o : Oper) : Bool := match o.op with
 | .buildSlice t _ _ => hasId t C.louds
 | _ => false
def isNew (o : Oper) : Bool := isNew0 o && !loudT C o
mutual
def AV.ids : AV -> List Nat
 | .own id | .ptr id _ | .eptr id _ _ | .mp id | .sub id _ _ => [id]
 | .ro _ _ deps | .rptr _ _ deps _ _ => deps
 | .func _ a b => AV.idss a ++ AV.idss b
 | .iface _ v => v.ids
 | .agg cs | .tup cs => AV.idss cs
 | _ => []
def AV.idss : List AV -> List Nat
 | [] => []
 | v :: r => v.ids ++ AV.idss r
end
def evIds (tm : List (Nat × AV)) : List Operand -> List Nat
 | [] => []
 | x :: r => (match ev tm x with | some v => v.ids | none => []) ++ evIds tm r
def boxIds (O : Objs) : List Nat -> List Nat
 | [] => []
 | i :: r => (match look O i with | some (.box cs) => AV.idss cs | _ => []) ++ boxIds O r
def readIds (tm : List (Nat × AV)) (o : Oper) : List Nat := match o.op with
 | .load .. | .indexAddr .. | .slice .. | .sliceToArrayPointer .. | .binOp .. | .call ⟨.builtin .len,_,_⟩ => evIds tm (opers o.op)
 | _ => []
def lookIds (tm : List (Nat × AV)) (O : Objs) (o : Oper) : List Nat := evIds tm (opers o.op) ++ boxIds O (evIds tm (opers o.op))
def newIds (O : Objs) (i : Nat) : List Nat := match look O i with
 | some (.box cs) => AV.idss cs
 | _ => []
def keepIds (tm : List (Nat × AV)) (O : Objs) (o : Oper) (v : AV) : List Nat := v.ids ++ (evIds tm (opers o.op) ++ boxIds O (readIds tm o))
def headL {α : Type} : List α -> List α
 | [] => []
 | x :: _ => [x]
def touched (tm : List (Nat × AV)) (O : Objs) (o : Oper) : List Nat := match o.op with
 | .store _ a _ => evIds tm [a]
 | .call ⟨.builtin _,args,_⟩ => evIds tm (headL args.toList)
 | op => match callee C tm op with
  | some (g,vs) => match look C.sig g with
   | some s => match getArgs O s.ps vs with
    | some (_,_,moved,_,boxes) => bif s.lk then [] else moved ++ boxes
    | none => []
   | none => []
  | none => []
def effIds : List Eff -> List Nat
 | [] => []
 | .kill i :: r | .shut i _ _ :: r | .unview i :: r => i :: effIds r
def below (n : Nat) : List Nat -> Bool
 | [] => true
 | i :: r => Nat.blt i n && below n r
def watchOk (nid : Nat) (wt ef an : List Nat) : List (Nat × List Nat × List Nat × List Nat) -> Bool
 | [] => true
 | (p,ks,rs,_) :: r => (hasId p an || (apart ks ef && (below nid rs && apart rs wt))) && watchOk nid wt ef an r
def newOk (lk an : List Nat) : List (Nat × List Nat × List Nat × List Nat) -> Bool
 | [] => true
 | (p,_,_,ns) :: r => (hasId p an || apart ns lk) && newOk lk an r
def clearOf (base : Nat) (wt : List Nat) : List (Nat × List Nat) -> Bool
 | [] => true
 | (q,_) :: r => !hasId (base + q) wt && clearOf base wt r
def unread (ns an : List Nat) : List (Nat × List Nat × List Nat × List Nat) -> Bool
 | [] => true
 | (p,_,rs,_) :: r => (hasId p an || apart ns rs) && unread ns an r
def ordsAt (fn reg : Nat) : List RegO -> Option (List (List (Nat × List Nat)))
 | [] => none
 | x :: r => bif Nat.beq x.fn fn && Nat.beq x.reg reg then some x.ords else ordsAt fn reg r
def pinsAt (fn reg : Nat) : List RegO -> Option (List Nat)
 | [] => none
 | x :: r => bif Nat.beq x.fn fn && Nat.beq x.reg reg then x.pins else pinsAt fn reg r
def calm (o : Oper) : Bool := quiet { ty := [],fns := [],sig := [],cuts := [],ords := [] } o || (isNew0 o && !isBS o)
def calmI (all : List Oper) (i : Nat) : Bool := match nth all i with
 | some o => calm o
 | none => false
def qP (pins : List Nat) (all : List Oper) (i : Nat) : Bool := calmI all i && !hasId i pins
def idxs : List (Nat × List Nat) -> List Nat
 | [] => []
 | (i,_) :: r => i :: idxs r
def allAhead (pins : List Nat) (all : List Oper) (an : List Nat) (i : Nat) (rest : List Nat) : Nat -> Bool
 | 0 => true
 | n + 1 => (hasId n an || Nat.beq n i || hasId n rest || !qP pins all n) && allAhead pins all an i rest n
def allBehind (pins : List Nat) (all : List Oper) (i : Nat) : List (Nat × List Nat) -> Bool
 | [] => true
 | (x,an) :: r => (hasId i an || !qP pins all x) && allBehind pins all i r
def dstKeys : List Oper -> List Nat
 | [] => []
 | o :: r => (match o.dst with | some d => d + 1 | none => 0) :: dstKeys r
def pinOk (pins : Option (List Nat)) (all : List Oper) (i : Nat) (an : List Nat) (rest : List (Nat × List Nat)) : Bool := match pins with
 | some ps => !qP ps all i && allBehind ps all i rest && allAhead ps all an i (idxs rest) all.length && nodup (dstKeys all)
 | none => false
def pinL (pins : Option (List Nat)) : List Nat := match pins with
 | some ps => ps
 | none => []
def allSame (x : Option R) : List (Option R) -> Prop
 | [] => True
 | y :: r => y = x ∧ allSame x r
open Classical in
noncomputable def sameAll (x : Option R) (l : List (Option R)) : Option R := match l with
 | [] => x
 | l => if allSame x l then x else none
def effsTm : List Eff -> List (Nat × AV) -> List (Nat × AV)
 | [],tm => tm
 | e :: r,tm => effsTm r (e.tm tm)
def effsFrs : List Eff -> List Fr -> List Fr
 | es,frs => frs.map fun fr => { fr with tm := effsTm es fr.tm }
def effsObjs : List Eff -> Objs -> Objs
 | [],O => O
 | e :: r,O => effsObjs r (e.objs O)
def sealed : List Eff -> Objs
 | [] => []
 | .shut id _ _ :: r => (id,.dead) :: sealed r
 | _ :: r => sealed r
def putDst (dst : Option Nat) (v : AV) (tm : List (Nat × AV)) : List (Nat × AV) :=
 match dst with
 | some d => (d,v) :: tm
 | none => tm
def after (s : St) (dst : Option Nat) (rest : List It) (v : AV) (O : Objs) (nid : Nat) (effs : List Eff) : St :=
 match effs with
 | [] => { s with cur := { s.cur with tm := putDst dst v s.cur.tm,td := rest },objs := O,nid }
 | es => { cur := { s.cur with tm := putDst dst v (effsTm es s.cur.tm),td := rest },callers := effsFrs es s.callers,objs := sealed es ++ effsObjs es O,nid,bx := s.bx }
def exitTo' (id : Nat) : List It -> Option (List It)
 | .inBlock j :: k => bif Nat.beq j id then some k else exitTo' id k
 | _ :: k => exitTo' id k
 | [] => none
def pathIs : List Fr -> List (Nat × Nat) -> Bool
 | [],[] => true
 | fr :: r,(f,d) :: p => Nat.beq fr.fn f && (match fr.td with
  | .ops _ (o :: _) :: _ => (match o.dst with | some e => Nat.beq e d | none => false)
  | .wait _ all i rest :: _ => (match nth all i with | some o => (match o.dst with | some e => Nat.beq (e + 1000 * (rest.length + 1)) d | none => false) | none => false)
  | _ => false) && pathIs r p
 | _,_ => false
def foreign : Nat := 0
def frameAt (s : St) : Nat -> Option Fr
 | 0 => some s.cur
 | d + 1 => nth s.callers d
def locAV (s : St) : Loc -> Option AV
 | .slot d i => match frameAt s d with
  | some fr => look fr.tm i
  | none => none
 | .cell l c => match locAV s l with
  | some (.ptr id off) => match look s.objs id with
   | some (.box cs) => nth cs (off + c)
   | _ => none
  | some (.agg cs) => nth cs c
  | some (.func _ _ cs) => nth cs c
  | some (.iface _ v) => some v
  | _ => none
def atIs (s : St) : List (Loc × Nat) -> Bool
 | [] => true
 | (l,g) :: r => (match locAV s l with | some (.func (.func f) _ _) => Nat.beq f g | _ => false) && atIs s r
def cutAt (f r : Nat) (s : St) : List Cut -> Option Tmpl
 | [] => none
 | c :: l => bif Nat.beq f c.fn && Nat.beq r c.reg && (match c.path with | none => true | some p => pathIs s.callers p) && atIs s c.fns then some c.tmpl else cutAt f r s l
def setNth {α : Type} (f : α -> α) : List α -> Nat -> List α
 | [],_ => []
 | x :: r,0 => f x :: r
 | x :: r,i + 1 => x :: setNth f r i
def mapTm (f : AV -> AV) (i : Nat) : List (Nat × AV) -> List (Nat × AV)
 | [] => []
 | (j,v) :: r => bif Nat.beq j i then (j,f v) :: r else (j,v) :: mapTm f i r
def mapLoc (s : St) : Loc -> (AV -> AV) -> St
 | .slot 0 i,f => { s with cur := { s.cur with tm := mapTm f i s.cur.tm } }
 | .slot (d + 1) i,f => { s with callers := setNth (fun fr => { fr with tm := mapTm f i fr.tm }) s.callers d }
 | .cell l c,f => match locAV s l with
  | some (.ptr id off) => match look s.objs id with
   | some (.box cs) => { s with objs := (id,.box (setNth f cs (off + c))) :: s.objs }
   | _ => s
  | some (.agg cs) => mapLoc s l fun _ => .agg (setNth f cs c)
  | some (.func fn a cs) => mapLoc s l fun _ => .func fn a (setNth f cs c)
  | some (.iface t v) => mapLoc s l fun _ => .iface t (f v)
  | _ => s
def renIds (m : List (Nat × Nat)) : List Nat -> Option (List Nat)
 | [] => some []
 | i :: r => match (bif Nat.beq i foreign then some foreign else look m i),renIds m r with
  | some j,some l => some (j :: l)
  | _,_ => none
mutual
def renAV (m : List (Nat × Nat)) : AV -> AV
 | .own id => match look m id with | some j => .own j | none => .dead
 | .ptr id off => match look m id with | some j => .ptr j off | none => .dead
 | .eptr id i off => match look m id with | some j => .eptr j i off | none => .dead
 | .mp id => match look m id with | some j => .mp j | none => .dead
 | .sub id lo hi => match look m id with | some j => .sub j lo hi | none => .dead
 | .ro ts rows deps => match renIds m deps with | some l => .ro ts rows l | none => .dead
 | .rptr ts rows deps i off => match renIds m deps with | some l => .rptr ts rows l i off | none => .dead
 | .func fn a b => .func fn (renAVs m a) (renAVs m b)
 | .iface t v => .iface t (renAV m v)
 | .agg cs => .agg (renAVs m cs)
 | .tup cs => .tup (renAVs m cs)
 | v => v
def renAVs (m : List (Nat × Nat)) : List AV -> List AV
 | [] => []
 | v :: r => renAV m v :: renAVs m r
end
def renObjs (m : List (Nat × Nat)) (O : Objs) : List (Nat × Nat) -> Option Objs
 | [] => some []
 | (i,j) :: r => match look O i,renObjs m O r with
  | some (.box cs),some l => some ((j,.box (renAVs m cs)) :: l)
  | some (.arr ts rows wr),some l => some ((j,.arr ts rows wr) :: l)
  | some (.map d),some l => bif flatM d then some ((j,.map d) :: l) else none
  | _,_ => none
def keepTm (m : List (Nat × Nat)) (tm : List (Nat × AV)) : List Nat -> List (Nat × AV)
 | [] => []
 | i :: r => match look tm i with
  | some v => (i,renAV m v) :: keepTm m tm r
  | none => keepTm m tm r
def unnil (s : St) : List (Loc × Option CTs) -> St
 | [] => s
 | (l,some ts) :: r => match locAV s l with
  | some .nilsl => unnil (mapLoc { s with objs := (s.nid,.arr ts [] true) :: s.objs,nid := s.nid + 1 } l fun _ => .own s.nid) r
  | _ => unnil s r
 | (_,none) :: r => unnil s r
def idsAt (s : St) : List (Loc × Option CTs) -> Nat -> Option (List (Nat × Nat))
 | [],_ => some []
 | (l,_) :: r,n => match locAV s l,idsAt s r (n + 1) with
  | some (.ptr id _),some m => some ((id,n) :: m)
  | some (.own id),some m => some ((id,n) :: m)
  | some (.eptr id _ _),some m => some ((id,n) :: m)
  | some (.mp id),some m => some ((id,n) :: m)
  | _,_ => none
def keepFrs (m : List (Nat × Nat)) : List Fr -> List (List Nat) -> List Fr
 | [],_ => []
 | fr :: r,[] => { fr with tm := [] } :: keepFrs m r []
 | fr :: r,k :: ks => { fr with tm := keepTm m fr.tm k } :: keepFrs m r ks
def fstNodup : List (Nat × Nat) -> Bool
 | [] => true
 | (i,_) :: r => (match look r i with | none => true | some _ => false) && fstNodup r
def applyEffs (es : List Eff) (s : St) : St :=
 match es with
 | [] => s
 | es => { cur := { s.cur with tm := effsTm es s.cur.tm },callers := effsFrs es s.callers,objs := sealed es ++ effsObjs es s.objs,nid := s.nid,bx := s.bx }
def ownDeps : List Nat -> List Nat
 | [] => []
 | i :: r => bif Nat.beq i foreign then ownDeps r else i :: ownDeps r
def onlyF (fgn : Bool) : List Nat -> Bool
 | [] => true
 | i :: r => Nat.beq i foreign && fgn && onlyF fgn r
def slsOf : AV -> List Nat
 | .own id => [id]
 | .ro _ _ deps => ownDeps deps
 | _ => []
def toRo (l : Loc) (ts : CTs) (fgn : Bool) (s : St) : Option St :=
 match locAV s l with
 | some .nilsl => some (mapLoc s l fun _ => .ro ts [] (bif fgn then [foreign] else []))
 | some v => match sealIds s.objs (slsOf v) with
  | some es => match locAV (applyEffs es s) l with
   | some (.ro ts' rows deps) => bif ts'.beq ts && onlyF fgn deps then some (mapLoc (applyEffs es s) l fun _ => .ro ts' rows (bif fgn then [foreign] else [])) else none
   | _ => none
  | none => none
 | none => none
def toRos : List (Loc × CTs × Bool) -> St -> Option St
 | [],s => some s
 | (l,ts,b) :: r,s => match toRo l ts b s with
  | some s' => toRos r s'
  | none => none
def fixed (m : List (Nat × Nat)) : List Nat -> Bool
 | [] => true
 | i :: r => (match look m i with | some j => Nat.beq j i | none => false) && fixed m r
def pickTm (tm : List (Nat × AV)) : List Nat -> List (Nat × AV)
 | [] => []
 | i :: r => match look tm i with
  | some v => (i,v) :: pickTm tm r
  | none => pickTm tm r
def pickFrs : List Fr -> List (List Nat) -> List Fr
 | [],_ => []
 | fr :: r,[] => { fr with tm := [] } :: pickFrs r []
 | fr :: r,k :: ks => { fr with tm := pickTm fr.tm k } :: pickFrs r ks
def canon (t : Tmpl) (s : St) : Option St :=
 bif t.raw then (match t.keep with
  | [] => some s
  | ks => match pickFrs (s.cur :: s.callers) ks with
   | c :: cs => some { s with cur := c,callers := cs }
   | [] => none) else
 match toRos t.ros s with
 | some s =>
  let s := unnil s t.locs
  match idsAt s t.locs 1 with
  | some m => bif fstNodup m && fixed m s.bx then match renObjs m s.objs m with
   | some O => match keepFrs m (s.cur :: s.callers) t.keep with
    | c :: cs => some { cur := c,callers := cs,objs := O,nid := t.locs.length + 1,bx := s.bx }
    | [] => none
   | none => none
   else none
  | none => none
 | none => none
def doRet (fn : Func) (s : St) : Option (List AV) := go fn.results.toList
 where
 go : List ResultVar -> Option (List AV)
  | [] => some []
  | .tmp t :: r => match look s.cur.tm t,go r with
   | some v,some vs => some (v :: vs)
   | _,_ => none
  | .cell a t :: r => match look s.cur.tm a,look C.ty t,go r with
   | some (.ptr id off),some ti,some vs => match look s.objs id with
    | some (.box cs) => match part ti.agg ti.size off cs with
     | some v => some (v :: vs)
     | none => none
    | _ => none
   | some (.eptr id i off),some _,some vs => match look s.objs id,arrT C t with
    | some (.arr ts rows _),some (ts',n) => bif Nat.beq ts'.n ts.n && Nat.beq off 0 && Nat.ble (i.toNat + n) rows.length then some (.agg (avsN ts rows n i.toNat) :: vs) else none
    | _,_ => none
   | _,_,_ => none
def numTm : List AV -> Nat -> List (Nat × AV)
 | [],_ => []
 | v :: r,n => (n,v) :: numTm r (n + 1)
inductive Want | yes | no | hang (d : Nat) (b : Bool) (w : Bool)
def wanted (all : List Oper) (tm : List (Nat × AV)) (o : Oper) : Option Want :=
 match o.guard with
 | none => some .yes
 | some (j,w) => match nth all j with
  | some oj => match oj.dst with
   | some d => match look tm d with
    | some (.bool b) => some (.hang d b w)
    | some .undef => some .no
    | _ => none
   | none => none
  | none => none
def know (s : St) (d : Nat) (b : Bool) : St := { s with cur := { s.cur with tm := (d,.bool b) :: s.cur.tm } }
def knowOp (s : St) (c : Operand) (b : Bool) : St := match c with
 | .tmp t => know s t b
 | _ => s
def goTo (s : St) (td : List It) : St := { s with cur := { s.cur with td } }
def enterD (s : St) (pins : Option (List Nat)) (all : List Oper) (ord : List (Nat × List Nat)) (k : List It) : St := { s with cur := { s.cur with td := .drawn pins all ord [] s.nid :: k },nid := s.nid + all.length }
def gin (s : St) (o : Oper) : Option (FuncId × List AV × Code) := match callee C s.cur.tm o.op with
 | some (g,vs) => match look C.sig g with
  | some _ => none
  | none => match look C.fns g with
   | some fn => match fn.body with
    | some body => some (g,vs,body)
    | none => none
   | none => none
 | none => none
noncomputable def arun (Rt : St -> Option R) (fin : List AV -> St -> Option R) : Nat -> Bool -> St -> Option R
 | 0,_,_ => none
 | n + 1,fresh,s =>
  let to (td : List It) : Option R := arun Rt fin n false (goTo s td)
  let ret : Option R := match look C.fns s.cur.fn with
   | some fn => match doRet C fn s with
    | some vs => match s.callers with
     | [] => fin vs s
     | c :: cs => match c.td with
      | .ops all (o :: rest) :: k => arun Rt fin n false { s with cur := { c with tm := putDst o.dst (tupOf vs) c.tm,td := .ops all rest :: k },callers := cs }
      | .wait ps all i rest :: k => match nth all i with
       | some o => arun Rt fin n false { s with cur := { c with tm := putDst o.dst (tupOf vs) c.tm,td := .drawn (some ps) all rest [] s.nid :: k },callers := cs,nid := s.nid + all.length }
       | none => none
      | _ => none
    | none => none
   | none => none
  match s.cur.td with
  | [] => ret
  | .inBlock _ :: k => to k
  | .inLoop b :: k => to (.code b :: .inLoop b :: k)
  | .code .skip :: k => to k
  | .code (.seq a b) :: k => to (.code a :: .code b :: k)
  | .code (.cond c a b) :: k => match ev s.cur.tm c with
   | some (.bool t) => sel t (arun Rt fin n false (goTo (knowOp s c true) (.code a :: k))) (arun Rt fin n false (goTo (knowOp s c false) (.code b :: k)))
   | _ => none
  | .code (.block id b) :: k => to (.code b :: .inBlock id :: k)
  | .code (.loop b) :: k => to (.code b :: .inLoop b :: k)
  | .code (.exit id) :: k => match exitTo' id k with
   | some k' => to k'
   | none => none
  | .code .ret :: _ => ret
  | .code (.region id ops dr) :: k =>
   let enter : Option R := bif dr then match ordsAt s.cur.fn id C.ords with
     | some (o :: os) => sameAll (arun Rt fin n false (enterD s (pinsAt s.cur.fn id C.ords) ops.toList o k)) (os.map fun o => arun Rt fin n false (enterD s (pinsAt s.cur.fn id C.ords) ops.toList o k))
     | _ => none
    else to (.ops ops.toList ops.toList :: k)
   bif fresh then enter else
    match cutAt s.cur.fn id s C.cuts with
    | some t => match canon t s with
     | some s' => Rt s'
     | none => none
    | none => enter
  | .drawn _ _ [] _ _ :: k => to k
  | .drawn pins all ((i,an) :: rest) watch base :: k => match nth all i with
   | none => none
   | some o =>
    let go (s : St) : Option R :=
     bif isNew C o then bif newOk (evIds s.cur.tm (opers o.op)) an watch && unread [base + i] an watch then aop C Rc s.cur.tm s.objs (base + i) o fun v O _ effs => match effs with
       | [] => arun Rt fin n false (after s o.dst (.drawn pins all rest ((i,(base + i) :: (v.ids ++ (evIds s.cur.tm (opers o.op) ++ (boxIds s.objs (evIds s.cur.tm (opers o.op)) ++ newIds O (base + i)))),(base + i) :: evIds s.cur.tm (opers o.op),[base + i]) :: watch) base :: k) v O s.nid [])
       | _ => none
      else none
     else bif quiet C o then bif newOk (readIds s.cur.tm o) an watch then aop C Rc s.cur.tm s.objs s.nid o fun v O nid effs => arun Rt fin n false (after s o.dst (.drawn pins all rest ((i,keepIds s.cur.tm s.objs o v,readIds s.cur.tm o,[]) :: watch) base :: k) v O nid effs)
      else none
     else bif newOk (lookIds s.cur.tm s.objs o) an watch && !mapOp o then match gin C s o with
       | some (g,vs,body) => bif pinOk pins all i an rest then arun Rt fin n false { s with cur := { fn := g,tm := numTm vs 0,td := [.code body] },callers := { s.cur with td := .wait (pinL pins) all i rest :: k } :: s.callers } else none
       | none => aop C Rc s.cur.tm s.objs s.nid o fun v O nid effs =>
        bif watchOk s.nid (touched C s.cur.tm s.objs o) (effIds effs) an watch && clearOf base (touched C s.cur.tm s.objs o ++ effIds effs) rest then arun Rt fin n false (after s o.dst (.drawn pins all rest watch base :: k) v O nid effs) else none
      else none
    let pass (s : St) : Option R := arun Rt fin n false (after s o.dst (.drawn pins all rest watch base :: k) .undef s.objs s.nid [])
    match wanted all s.cur.tm o with
    | some .yes => go s
    | some .no => pass s
    | some (.hang d b true) => sel b (go (know s d true)) (pass (know s d false))
    | some (.hang d b false) => sel b (pass (know s d true)) (go (know s d false))
    | none => none
  | .ops _ [] :: k => to k
  | .ops all (o :: rest) :: k =>
   let go (s : St) : Option R :=
    match gin C s o with
    | some (g,vs,body) => arun Rt fin n false { s with cur := { fn := g,tm := numTm vs 0,td := [.code body] },callers := s.cur :: s.callers }
    | none => aop C Rc s.cur.tm s.objs s.nid o fun v O nid effs => arun Rt fin n false (after s o.dst (.ops all rest :: k) v O nid effs)
   let pass (s : St) : Option R := arun Rt fin n false (after s o.dst (.ops all rest :: k) .undef s.objs s.nid [])
   match wanted all s.cur.tm o with
   | some .yes => go s
   | some .no => pass s
   | some (.hang d b true) => sel b (go (know s d true)) (pass (know s d false))
   | some (.hang d b false) => sel b (pass (know s d true)) (go (know s d false))
   | none => none
  | _ => none
end
end Go.E
end
section
namespace Go.E
def argCell (m : Md) (t : CT) (d : t.D) (nid : Nat) : AV × Objs × Nat :=
 match t,m with
 | .sl ts,.mv => (.own nid,[(nid,.arr ts d true)],nid + 1)
 | .sl ts,.ro => (.ro ts d [foreign],[],nid)
 | t,_ => (t.av d,[],nid)
def argCells : (ts : CTs) -> List Md -> ts.D -> Nat -> List AV × Objs × Nat
 | .one t,ms,d,nid => let (v,o,n) := argCell (match ms with | m :: _ => m | [] => .ro) t d nid; ([v],o,n)
 | .cons t ts,ms,d,nid =>
  bif isSl t then
   let (v,o,n) := argCell (match ms with | m :: _ => m | [] => .ro) t d.1 nid
   let (vs,o',n') := argCells ts (match ms with | _ :: r => r | [] => []) d.2 n
   (v :: vs,o' ++ o,n')
  else
   let (vs,o',n') := argCells ts ms d.2 nid
   (t.av d.1 :: vs,o',n')
def argOne (p : PT) (d : p.sh.D) (b nid : Nat) : AV × Objs × Nat :=
 match p,d with
 | ⟨.one t,ms⟩,d => argCell (match ms with | m :: _ => m | [] => .ro) t d nid
 | ⟨.agg ts,ms⟩,d => let (vs,o,n) := argCells ts ms d nid; (.agg vs,o,n)
 | ⟨.agg0,_⟩,_ => (.agg [],[],nid)
 | ⟨.st ts,ms⟩,d => let (vs,o,n) := argCells ts ms d nid; (.ptr b 0,(b,.box vs) :: o,n)
def argAll : (ps : List PT) -> PTD ps -> Nat -> Nat -> List AV × Objs × Nat
 | [],_,_,nid => ([],[],nid)
 | [p],d,b,nid => let (v,o,n) := argOne p d b nid; ([v],o,n)
 | p :: q :: r,d,b,nid =>
  let (v,o,n) := argOne p d.1 b nid
  let (vs,o',n') := argAll (q :: r) d.2 (bif isSt p then b + 1 else b) n
  (v :: vs,o' ++ o,n')
def nsts : List PT -> Nat
 | [] => 0
 | p :: r => bif isSt p then nsts r + 1 else nsts r
def numsFrom : Nat -> Nat -> List Nat
 | _,0 => []
 | n,m + 1 => n :: numsFrom (n + 1) m
def start (f : FuncId) (body : Code) (s : Sig) (a : s.A) : St :=
 let (vs,o,n) := argAll s.ps a 1 (1 + nsts s.ps)
 { cur := { fn := f,tm := numTm vs 0,td := [.code body] },callers := [],objs := o,nid := n,bx := numsFrom 1 (nsts s.ps) }
def outAV (m : Md) (x : AV) : Option (List Nat × List Nat) :=
 match m,x with
 | .mv,.own id => some ([id],[])
 | .mv,.nilsl => some ([],[])
 | .mv,_ => none
 | _,.own id => some ([],[id])
 | _,.ro _ _ deps => some ([],deps)
 | _,_ => some ([],[])
def outAVs : List CT -> List Md -> List AV -> Option (List Nat × List Nat)
 | [],_,[] => some ([],[])
 | t :: ts,ms,x :: xs =>
  bif isSl t then match ms with
   | m :: ms => match outAV m x,outAVs ts ms xs with
    | some (a,b),some (a',b') => some (a ++ a',b ++ b')
    | _,_ => none
   | [] => none
  else outAVs ts ms xs
 | _,_,_ => none
def outOne (O : Objs) (p : PT) (x : AV) : Option (p.sh.D × List Nat × List Nat) :=
 match p with
 | ⟨.one t,ms⟩ => match t.ofAV O x,outAVs [t] ms [x] with
  | some d,some (a,b) => some (d,a,b)
  | _,_ => none
 | ⟨.agg ts,ms⟩ => match x with
  | .agg cs => match ts.ofAVs O cs,outAVs ts.list ms cs with
   | some d,some (a,b) => some (d,a,b)
   | _,_ => none
  | _ => none
 | ⟨.agg0,_⟩ => match x with
  | .agg [] => some ((),[],[])
  | _ => none
 | ⟨.st ts,ms⟩ => match x with
  | .ptr id 0 => match look O id with
   | some (.box cs) => match ts.ofAVs O cs,outAVs ts.list ms cs with
    | some d,some (a,b) => some (d,a,b)
    | _,_ => none
   | _ => none
  | _ => none
def outAll (O : Objs) : (ps : List PT) -> List AV -> Option (PTD ps × List Nat × List Nat)
 | [],[] => some ((),[],[])
 | [p],[x] => outOne O p x
 | p :: q :: r,x :: y :: xs => match outOne O p x,outAll O (q :: r) (y :: xs) with
  | some (d,a,b),some (d',a',b') => some ((d,d'),a ++ a',b ++ b')
  | _,_ => none
 | _,_ => none
def stSlots : List PT -> Nat -> List Nat
 | [],_ => []
 | p :: r,n => bif isSt p then n :: stSlots r (n + 1) else stSlots r (n + 1)
def slotsOf (tm : List (Nat × AV)) : List Nat -> Option (List AV)
 | [] => some []
 | i :: r => match look tm i,slotsOf tm r with
  | some v,some vs => some (v :: vs)
  | _,_ => none
def objIds (O : Objs) : List Nat -> Bool
 | [] => true
 | i :: r => (match look O i with | some (.arr _ _ _) => true | _ => false) && objIds O r
def ptrsAre : List AV -> List Nat -> Bool
 | [],[] => true
 | .ptr i 0 :: r,j :: l => Nat.beq i j && ptrsAre r l
 | _,_ => false
def restSt : List PT -> Nat -> Bool
 | [],0 => true
 | p :: r,0 => isSt p && restSt r 0
 | p :: r,n + 1 => !isSt p && restSt r n
 | _,_ => false
def fin (s : Sig) (vs : List AV) (st : St) : Option s.B :=
 match slotsOf st.cur.tm (stSlots s.ps 0) with
 | some bs => bif ptrsAre bs st.bx && restSt s.rs vs.length then match outAll st.objs s.rs (vs ++ bs) with
  | some (d,moved,seen) => bif nodup moved && apart moved seen && objIds st.objs seen then some d else none
  | none => none
  else none
 | none => none
def fuel : Nat := 4000
noncomputable def body (C : Cfg) (Rc : Rcall) (f : FuncId) (s : Sig) (Rt : St -> Option s.B) (a : s.A) : Option s.B :=
 match look C.fns f with
 | some fn => match fn.body with
  | some c => arun C Rc Rt (fin s) fuel false (start f c s a)
  | none => none
 | none => none
noncomputable def from_ (C : Cfg) (Rc : Rcall) (s : Sig) (Rt : St -> Option s.B) (st : St) : Option s.B := arun C Rc Rt (fin s) fuel true st
def tdAt (reg : Nat) : Code -> List It -> Option (List It)
 | .region id ops dr,k => bif Nat.beq id reg then some (.code (.region id ops dr) :: k) else none
 | .seq a b,k => match tdAt reg a (.code b :: k) with
  | some l => some l
  | none => tdAt reg b k
 | .cond _ a b,k => match tdAt reg a k with
  | some l => some l
  | none => tdAt reg b k
 | .block id b,k => tdAt reg b (.inBlock id :: k)
 | .loop b,k => tdAt reg b (.inLoop b :: k)
 | _,_ => none
def opFrom (d : Nat) : List Oper -> Option (List Oper)
 | [] => none
 | o :: r => match o.dst with
  | some e => bif Nat.beq e d then some (o :: r) else opFrom d r
  | none => opFrom d r
def tdOp (d : Nat) : Code -> List It -> Option (List It)
 | .region _ ops _,k => match opFrom d ops.toList with
  | some l => some (.ops ops.toList l :: k)
  | none => none
 | .seq a b,k => match tdOp d a (.code b :: k) with
  | some l => some l
  | none => tdOp d b k
 | .cond _ a b,k => match tdOp d a k with
  | some l => some l
  | none => tdOp d b k
 | .block id b,k => tdOp d b (.inBlock id :: k)
 | .loop b,k => tdOp d b (.inLoop b :: k)
 | _,_ => none
def tdF (fn : Func) (reg : Nat) : List It := match fn.body with
 | some c => match tdAt reg c [] with | some l => l | none => []
 | none => []
def tdW (fn : Func) (d : Nat) : List It := match fn.body with
 | some c => match tdOp d c [] with | some l => l | none => []
 | none => []
def idxOf (d : Nat) : List Oper -> Nat -> Option Nat
 | [],_ => none
 | o :: r,n => match o.dst with
  | some e => bif Nat.beq e d then some n else idxOf d r (n + 1)
  | none => idxOf d r (n + 1)
def tdWt (d : Nat) (ps : List Nat) (rest : List (Nat × List Nat)) : Code -> List It -> Option (List It)
 | .region _ ops _,k => match idxOf d ops.toList 0 with
  | some i => some (.wait ps ops.toList i rest :: k)
  | none => none
 | .seq a b,k => match tdWt d ps rest a (.code b :: k) with
  | some l => some l
  | none => tdWt d ps rest b k
 | .cond _ a b,k => match tdWt d ps rest a k with
  | some l => some l
  | none => tdWt d ps rest b k
 | .block id b,k => tdWt d ps rest b (.inBlock id :: k)
 | .loop b,k => tdWt d ps rest b (.inLoop b :: k)
 | _,_ => none
def tdX (fn : Func) (d : Nat) (ps : List Nat) (rest : List (Nat × List Nat)) : List It := match fn.body with
 | some c => match tdWt d ps rest c [] with | some l => l | none => []
 | none => []
def prL (all : List Oper) (i : Nat) : List Nat := match nth all i with
 | some o => (o.after.toList.filter fun e => Region.binds .any e).map (·.on)
 | none => []
def gslot (all : List Oper) (o : Oper) : Option Nat := match o.guard with
 | none => none
 | some (j,_) => match nth all j with
  | some oj => oj.dst
  | none => none
def anOf (ord : List (Nat × List Nat)) (i : Nat) : List Nat := match look ord i with
 | some l => l
 | none => []
def still (C : Cfg) (o : Oper) : Bool := quiet C o || isNew C o
def quietI (C : Cfg) (all : List Oper) (i : Nat) : Bool := match nth all i with
 | some o => still C o
 | none => false
def quietP (C : Cfg) (pins : Option (List Nat)) (all : List Oper) (i : Nat) : Bool := match pins with
 | none => quietI C all i
 | some ps => qP ps all i
def within (a b : List Nat) : Bool := match a with
 | [] => true
 | x :: r => hasId x b && within r b
def meets (a b : List Nat) : Bool := match a with
 | [] => false
 | x :: r => hasId x b || meets r b
def topoB (all : List Oper) : List (Nat × List Nat) -> List Nat -> Bool
 | [],_ => true
 | (i,an) :: r,D => within an D && within (prL all i) D && topoB all r (i :: D)
def eagerR (qt : Nat -> Bool) (all : List Oper) (open_ : List Nat) : List Nat -> Bool
 | [] => true
 | p :: r => (!qt p || meets (prL all p) open_) && eagerR qt all open_ r
def eagerB (qt : Nat -> Bool) (all : List Oper) : List Nat -> Bool
 | [] => true
 | b :: r => (qt b || eagerR qt all (b :: r) r) && eagerB qt all r
def anB1 (all : List Oper) (ord : List (Nat × List Nat)) (i : Nat) (pr : List Nat) : List Nat -> Bool
 | [] => true
 | q :: r => (hasId q pr || pr.any fun j => hasId q (anOf ord j)) && anB1 all ord i pr r
def anB (all : List Oper) (ord : List (Nat × List Nat)) : List Nat -> Bool
 | [] => true
 | i :: r => anB1 all ord i (prL all i) (anOf ord i) && below all.length (prL all i) && anB all ord r
def optNot (d : Nat) : Option Nat -> Bool
 | some e => !Nat.beq e d
 | none => true
def indepB (all : List Oper) (p x : Oper) : Bool :=
 (match p.dst with | some d => !hasId d (slotsIn (opers x.op)) && optNot d (gslot all x) && optNot d x.dst | none => true) &&
 (match x.dst with | some d => !hasId d (slotsIn (opers p.op)) && optNot d (gslot all p) | none => true)
def indR (all : List Oper) (ord : List (Nat × List Nat)) (p : Nat) (op : Oper) : List Nat -> Bool
 | [] => true
 | x :: r => (Nat.beq p x || hasId p (anOf ord x) || hasId x (anOf ord p) || (match nth all x with | some ox => indepB all op ox | none => true)) && indR all ord p op r
def indB (qt : Nat -> Bool) (all : List Oper) (ord : List (Nat × List Nat)) (idx : List Nat) : List Nat -> Bool
 | [] => true
 | p :: r => (match nth all p with | some op => !qt p || indR all ord p op idx | none => true) && indB qt all ord idx r
def upTo : Nat -> List Nat -> Bool
 | 0,_ => true
 | n + 1,l => hasId n l && upTo n l
def ordOk (qt : Nat -> Bool) (all : List Oper) (ord : List (Nat × List Nat)) : Bool :=
 nodup (idxs ord) && below all.length (idxs ord) && upTo all.length (idxs ord) && topoB all ord [] && eagerB qt all (idxs ord) && anB all ord (idxs ord) && indB qt all ord (idxs ord) (idxs ord)
def loudI (qt : Nat -> Bool) : List Nat -> List Nat
 | [] => []
 | i :: r => bif qt i then loudI qt r else i :: loudI qt r
def tails (e : Nat) : List (List Nat) -> List (List Nat)
 | [] => []
 | (x :: s) :: r => bif Nat.beq x e then s :: tails e r else tails e r
 | [] :: r => tails e r
def hasNil : List (List Nat) -> Bool
 | [] => false
 | [] :: _ => true
 | _ :: r => hasNil r
def coverB (an : Nat -> List Nat) : Nat -> List (List Nat) -> List Nat -> Bool
 | 0,_,_ => false
 | f + 1,seqs,rem => match rem with
  | [] => hasNil seqs
  | rem => rem.all fun e => meets (an e) rem || coverB an f (tails e seqs) (noId e rem)
def loudsOf (qt : Nat -> Bool) : List (List (Nat × List Nat)) -> List (List Nat)
 | [] => []
 | o :: r => loudI qt (idxs o) :: loudsOf qt r
def ordsOk (qt : Nat -> Bool) (all : List Oper) : List (List (Nat × List Nat)) -> Bool
 | [] => true
 | o :: r => ordOk qt all o && ordsOk qt all r
def regOk (qt : Nat -> Bool) (all : List Oper) (ords : List (List (Nat × List Nat))) : Bool := match ords with
 | [] => false
 | o :: r => ordsOk qt all (o :: r) && coverB (anOf o) (all.length + 1) (loudsOf qt (o :: r)) (loudI qt (idxs o))
def drawsC (C : Cfg) (fn : FuncId) : Code -> Bool
 | .region id ops dr => !dr || (match ordsAt fn id C.ords with
  | some os => regOk (quietP C (pinsAt fn id C.ords) ops.toList) ops.toList os
  | none => false)
 | .seq a b => drawsC C fn a && drawsC C fn b
 | .cond _ a b => drawsC C fn a && drawsC C fn b
 | .block _ b => drawsC C fn b
 | .loop b => drawsC C fn b
 | _ => true
def drawsT (C : Cfg) (fn : FuncId) : List It -> Bool
 | [] => true
 | .code c :: k => drawsC C fn c && drawsT C fn k
 | .inLoop c :: k => drawsC C fn c && drawsT C fn k
 | .inBlock _ :: k => drawsT C fn k
 | .ops _ _ :: k => drawsT C fn k
 | .drawn _ _ _ _ _ :: k => drawsT C fn k
 | .wait _ _ _ _ :: k => drawsT C fn k
def fd (s : St) : List (FuncId × List It) := (s.cur.fn,s.cur.td) :: s.callers.map fun f => (f.fn,f.td)
def StD (C : Cfg) (s : St) : Prop := ∀ p ∈ fd s,drawsT C p.1 p.2 = true
end Go.E
end
