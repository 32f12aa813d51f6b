/- Operations, control and calls. -/
import Derived.Laws.BytesArg
import Derived.Test.YtmceeioelenigaaGreatEc
section
namespace Go.E
variable {E : Env} {tm : List (Nat × AV)} {a : Act} {R : Type} {C : kG} {Rc : ak} {P : Program} {X : Ctx} {o : Ow} {ay : Nat}
section ops
variable {op : Oper} {K : KK R} {r : R}
theorem SS {w : World} {N : Nat -> Prop} : ∀ (ts : cZ) (d : ts.D) (l : List Value),ts.rp w N d l -> ∀ v ∈ l,v.oneCell = true
 | .one t,d,l,h,v,hv => by
  unfold cZ.rp at h; obtain ⟨u,rfl,h⟩ := h
  obtain rfl : v = u := by simpa using hv
  exact GK h
 | .cons t ts,d,l,h,v,hv => by
  obtain ⟨u,q,rfl,h1,h2⟩ := Ci.1 h
  rcases List.mem_cons.1 hv with rfl | hv
  ·exact GK h1
  ·exact SS ts d.2 q h2 v hv
theorem G9 {w : World} {N : Nat -> Prop} {ts : cZ} : ∀ (ds : List ts.D) (l : List Value),dR ts.n (ts.rp w N) ds l -> l.length = ds.length * ts.n -> ∀ v ∈ l,v.oneCell = true
 | [],l,_,hl,v,hv => by
  have : l = [] := List.eq_nil_of_length_eq_zero (by simpa using hl)
  rw [this] at hv; cases hv
 | d :: ds,l,⟨h1,h2,h3⟩,hl,v,hv => by
  rw [<- List.take_append_drop ts.n l] at hv
  rcases List.mem_append.1 hv with hv | hv
  ·exact SS ts d _ h2 v hv
  ·refine G9 ds _ h3 ?_ v hv
   simp only [List.length_cons,Nat.add_mul] at hl
   simp only [List.length_drop]; omega
theorem uy {α : Type} {n : Nat} {Q : α -> List Value -> Prop} (ds es : List α) (l m rest : List Value) (h1 : dR n Q ds l) (h2 : l.length = ds.length * n) (h3 : dR n Q es m) (h4 : m.length = es.length * n) : dR n Q (ds ++ es) (l ++ m ++ rest) := by
 rw [kY]
 constructor
 ·rw [<- jO ds _ (ds.length * n) (Nat.le_refl _),List.append_assoc,List.take_append_of_le_length (by omega),List.take_of_length_le (by omega)]; exact h1
 ·rw [List.append_assoc,List.drop_append_of_le_length (by omega),List.drop_of_length_le (by omega),List.nil_append, <- jO es _ (es.length * n) (Nat.le_refl _),List.take_append_of_le_length (by omega),List.take_of_length_le (by omega)]; exact h3
def Src (P : Program) (E : Env) (ts : cZ) (o : Ow) (ys : List ts.D) (u : Value) : Prop :=
 ∃ m : List Value,m.length = ys.length * ts.n ∧ dR ts.n (ts.rp E.w E.N) ys m ∧ (∀ (wr rd : Nat -> Prop) (Q : Nat -> World -> Prop) (w : World),Q ys.length w -> acc P wr rd (Builtin.lenOf u) Q w) ∧
  (∀ (w : World) (wr : Nat -> Prop) (Q : Array Value -> World -> Prop),w.heap = E.w.heap -> Q m.toArray w -> acc P wr (wF o E.w) (Builtin.firstCells ts.n ys.length u) Q w)
theorem F7 (h : OK X o E ay) {ts : cZ} {ys : List ts.D} {deps : List Nat} {u : Value} (hs : Ql E deps ts ys u) : Src P E ts o ys u := by
 obtain ⟨ad,len,cap,rfl,rfl,h3,h4⟩ := hs
 by_cases hne : ys = []
 ·subst hne
  refine ⟨[],by simp,trivial,fun wr rd Q w hq => hq,fun w wr Q hw hq => ?_⟩
  cases ad with
  | none => exact hq
  | some ad =>
   show acc P wr _ (loadCells ad (0 * ts.n)) Q w
   rw [Nat.zero_mul]
   exact uQ (vs := []) rfl (fun x => absurd rfl x) hq
 ·obtain ⟨b,off,c,e,f,rfl,k2,k3,k4⟩ := h4 hne
  have hl := wB _ _ k4
  refine ⟨(c.toList.drop off).take (ys.length * ts.n),by simp only [List.length_take]; omega,(jO ys _ _ (Nat.le_refl _)).2 k4,fun wr rd Q w hq => hq,fun w wr Q hw hq => ?_⟩
  refine uQ (by simp only [List.length_take]; omega) (fun _ j v hj => ?_) hq
  rw [qp]
  refine ⟨?_,?_⟩
  ·rcases k2 with hb | ⟨j,_,hb | ⟨_,_,_,hl,hb,_⟩⟩
   ·exact .inl (h.zn _ hb).2.1
   ·exact .inl (h.kept _ (h.fg _ hb.2)).2.2
   ·exact .inl (h.us _ (h.own j _ ⟨_,hl,rfl⟩ hb).2.2.2)
  ·unfold World.cell?
   rw [hw,k3]
   rw [List.getElem?_take] at hj
   split at hj
   ·rw [List.getElem?_drop] at hj; simpa using hj
   ·cases hj
theorem EO (s : ByteArray) : (ug s).length = s.size := by unfold ug; simp
theorem AP {w : World} {N : Nat -> Prop} : ∀ (l : List UInt8),dR 1 (cZ.rp w N (.one (.int .u8))) (l.map fun b => ((b.toNat : Nat) : Int)) (l.map fun b => Value.int .u8 b.toNat)
 | [] => trivial
 | b :: l => by
  refine ⟨by simp,?_,by simpa using AP l⟩
  exact ⟨Value.int .u8 b.toNat,by simp,rfl⟩
theorem ZF {s : ByteArray} : Src P E (.one (.int .u8)) o (ug s) (.string s) := by
 have e : @List.length (cZ.one (.int .u8)).D (ug s) = s.size := EO s
 refine ⟨s.data.toList.map fun b => .int .u8 b.toNat,?_,?_,fun wr rd Q w hq => ?_,fun w wr Q hw hq => ?_⟩
 ·rw [e]; simp [cZ.n]
 ·exact AP s.data.toList
 ·rw [e] at hq; exact hq
 ·rw [e]
  show Q _ w
  have : (s.extract 0 s.size).data.map (fun b => Value.int .u8 b.toNat) = (s.data.toList.map fun b => Value.int .u8 b.toNat).toArray := by
   apply Array.ext'; simp
  rw [this]; exact hq
theorem EP {wr rd : Nat -> Prop} {b : Bool} {Q : Bool -> World -> Prop} {w : World} (hb : b = false) (hq : Q false w) : acc P wr rd (pure b) Q w := by rw [hb]; exact hq
theorem Ac {t t' elem : TypeId} {i : TypeInfo} {ts : cZ} {ys : List ts.D} {u : Value} {ad : Option Addr} {len cap : Nat} {ty : TypeId} (hU : P.underlying t = some (.slice elem)) (Vy : ∃ d,P.underlying t' = some d ∧ ∀ k,d ≠ .int k) (hi : P.info? elem = some i) (hsz : i.size = ts.n)
  (hlen : ∀ (wr rd : Nat -> Prop) (Q : Nat -> World -> Prop) (w : World),Q ys.length w -> acc P wr rd (Builtin.lenOf u) Q w) (hin : len + ys.length <= cap) {wr rd : Nat -> Prop} {Q : Value -> World -> Prop} {w : World}
  (hq : acc P wr rd (Builtin.firstCells ts.n ys.length u) (fun m w => acc P wr rd (match ad with | some a => storeCells (a.add (len * ts.n)) m.toList | none => pure ()) (fun _ w => Q (.slice ad (len + ys.length) cap) w) w) w) :
  acc P wr rd (Builtin.append_ #[t,t'] ty #[.slice ad len cap,u]) Q w := by
 obtain ⟨d',Vy,hd'⟩ := Vy
 unfold Builtin.append_
 simp only [List.getElem?_toArray,List.getElem?_cons_zero,List.getElem?_cons_succ]
 rw [ah,aF hU]
 dsimp only
 rw [ah,fJ hi,hsz,ah,aF Vy]
 rw [ah]
 refine EP (b := _) (by cases d' <;> first | rfl | exact absurd rfl (hd' _)) ?_
 simp only [Bool.false_eq_true,if_false,Bool.not_false,if_true]
 rw [ah]
 refine hlen _ _ _ _ ?_
 rw [if_pos hin,ah]
 refine xU hq fun m w' hm => ?_
 cases ad with
 | none => exact hm
 | some ad =>
  dsimp only at hm ⊢
  rw [ah]
  exact hm
theorem yx {t t' elem : TypeId} {i : TypeInfo} {z : Value} {ts : cZ} {ys : List ts.D} {u : Value} {ad : Option Addr} {len cap : Nat} {ty : TypeId} (hU : P.underlying t = some (.slice elem)) (Vy : ∃ d,P.underlying t' = some d ∧ ∀ k,d ≠ .int k) (hi : P.info? elem = some i) (hsz : i.size = ts.n)
  (hz : i.zero = some z) (hb0 : 0 < i.bytes) (hlen : ∀ (wr rd : Nat -> Prop) (Q : Nat -> World -> Prop) (w : World),Q ys.length w -> acc P wr rd (Builtin.lenOf u) Q w) (hout : cap < len + ys.length) (hsmall : (len + ys.length) * i.bytes <= 140737488355328) {wr rd : Nat -> Prop} {Q : Value -> World -> Prop} {w : World}
  (hq : ∀ newCap,len + ys.length <= newCap -> acc P wr rd (do let old <- Builtin.firstCells ts.n len (.slice ad len cap); let new <- Builtin.firstCells ts.n ys.length u; pure (old,new)) (fun q w => Q (.slice (some ⟨w.heap.size,0,none⟩) (len + ys.length) newCap) { w with heap := w.heap.push (.cells (q.1 ++ q.2 ++ Builtin.zeroCells z.cells (newCap - (len + ys.length))) elem) }) { w with drawn := w.drawn + 1 }) :
  acc P wr rd (Builtin.append_ #[t,t'] ty #[.slice ad len cap,u]) Q w := by
 obtain ⟨d',Vy,hd'⟩ := Vy
 unfold Builtin.append_
 simp only [List.getElem?_toArray,List.getElem?_cons_zero,List.getElem?_cons_succ]
 rw [ah,aF hU]
 dsimp only
 rw [ah,fJ hi,hsz,ah,aF Vy]
 rw [ah]
 refine EP (b := _) (by cases d' <;> first | rfl | exact absurd rfl (hd' _)) ?_
 simp only [Bool.false_eq_true,if_false,Bool.not_false,if_true]
 rw [ah]
 refine hlen _ _ _ _ ?_
 have hmax : ((len + ys.length : Nat) : Int) <= IntKind.i64.max := by
  show ((len + ys.length : Nat) : Int) <= 9223372036854775807
  have : len + ys.length <= (len + ys.length) * i.bytes := Nat.le_mul_of_pos_right _ hb0
  omega
 have hfit := growslice_fits hout hsmall
 rw [if_neg (Nat.not_le.2 hout),ah,kM hi,if_neg (by simp; omega),ah,kM hi]
 have adV : ¬ (Builtin.nextslicecap (len + ys.length) cap * i.bytes > 2 ^ 48) := by
  have : (2 : Nat) ^ 48 = 281474976710656 := by decide
  omega
 rw [if_neg adV,ah]
 have hch : ∀ (Q' : Nat -> World -> Prop),(∀ n,len + ys.length <= n -> Q' n { w with drawn := w.drawn + 1 }) -> acc P wr rd (choose (.appendCap (len + ys.length) cap elem)) Q' w := by
  intro Q' h'
  show (if (Question.appendCap (len + ys.length) cap elem).forced then _ else _)
  rw [if_neg (by simp [Question.forced])]
  exact h' _ (Nat.le_add_right _ _)
 refine hch _ fun newCap hnew => ?_
 rw [ah,kM hi,ah]
 have room : ∀ {Q : Unit -> World -> Prop} {w : World},Q () w -> acc P wr rd (askRoom (newCap * i.bytes)) Q w := by
  intro Q w hq
  unfold askRoom
  split
  ·exact ⟨.inl rfl,hq⟩
  ·exact hq
 refine room ?_
 have hq := hq newCap hnew
 rw [ah] at hq ⊢
 refine xU hq fun old w' hold => ?_
 rw [ah] at hold ⊢
 refine xU hold fun new w'' hnw => ?_
 rw [cu] at hnw
 rw [ah,iP hi hz,ah,nN,cu]
 exact hnw
end ops
end Go.E
end
section
namespace Go.E
variable {E : Env} {tm : List (Nat × AV)} {a : Act} {R : Type} {C : kG} {Rc : ak} {P : Program} {X : Ctx} {o : Ow} {ay : Nat}
section ops
variable {op : Oper} {K : KK R} {r : R}
theorem Ws {id : Nat} {ts : cZ} {rows : List ts.D} {wr : Bool} (h : OK X o E ay) (hl : look E.O id = some (.arr ts rows wr)) (hb : (E.ρ id).b = none) :
  let E' : Env := { E with O := dh [.kill id] ((id,.arr ts rows true) :: E.O) }
  OK X o E' ay ∧ Step E E' [.kill id] := by
 intro E'
 have VT := lY (es := [.kill id]) (id := id) (a' := .arr ts rows true) (O := E.O) (fun _ => rfl) rfl
 have UA : look E'.O id = some (.arr ts rows true) := VT.1
 have lk : ∀ i,i ≠ id -> look E'.O i = (look E.O i).map (iT [.kill id]) := VT.2
 have hk : Keep E E' fun i => i = id := by
  refine ⟨fun b hb => ⟨hb,rfl⟩,fun b hb => ⟨hb,rfl⟩,fun i hi ts' pR wr' hl' => ⟨by rw [lk i hi,hl']; rfl,rfl,fun b hb => rfl⟩,fun i cs hl' => ?_,fun i m hl' => ?_⟩
  ·have x : i ≠ id := fun x => by rw [x,hl] at hl'; cases hl'
   exact ⟨fU [.kill id] cs,by rw [lk i x,hl']; rfl,rfl⟩
  ·have x : i ≠ id := fun x => by rw [x,hl] at hl'; cases hl'
   exact ⟨m,by rw [lk i x,hl']; rfl,rfl⟩
 have hs : Step E E' [.kill id] := hk.kill fun deps b e c t f hb' hc => by
  rcases hb' with hb' | ⟨i,hi,hb' | ⟨ts',pR,wr',hl',hr,he⟩⟩
  ·exact ⟨.inl hb',c,t,f,hc,rfl⟩
  ·exact ⟨.inr ⟨i,hi,.inl hb'⟩,c,t,f,hc,rfl⟩
  ·have x : i ≠ id := fun x => by rw [x,hb] at hr; cases hr
   exact ⟨.inr ⟨i,hi,.inr ⟨ts',pR,wr',(hk.arr i x ts' pR wr' hl').1,hr,he⟩⟩,c,t,f,hc,rfl⟩
 refine ⟨h.next hs (fun i => i = id) (fun b hb => rfl) (Nat.le_refl _) (fun _ hb => hb) rfl (fun _ hb => hb) (fun _ hb => hb) h.us (Nat.le_refl _) ?_ ?_ ?_ h.zn,hs⟩
 ·intro i x hi hne
  rw [lk i hne] at hi
  obtain ⟨x,hx,rfl⟩ := Option.map_eq_some_iff.1 hi
  exact ⟨x,hx,rfl,fun l => ⟨rfl,fun b' hb' => ⟨(h.own i b' ⟨x,hx,l⟩ hb').2.1,rfl⟩⟩⟩
 ·intro i x hi hi'
  subst hi
  rw [UA] at hi'
  cases hi'
  have := h.num i _ hl
  refine ⟨this.1,this.2,?_⟩
  have ho := h.obj i _ hl
  unfold fE at ho ⊢
  rw [hb] at ho
  show match (E.ρ i).b with | none => _ | some b => _
  rw [hb]; exact ho
 ·intro i b hi _ hb'
  subst hi
  have hb' : (E.ρ i).b = some b := hb'
  rw [hb] at hb'; cases hb'
theorem SV (z : Array Value) (n : Nat) : (Builtin.zeroCells z n).size = n * z.size := by simp [Builtin.zeroCells]
theorem UF (T : fV P C) {args : Array Operand} {tys : Array TypeId} (h : OK X o E ay) (ht : kH E tm a.tmps) (hop : op.op = .call ⟨.builtin .append,args,tys⟩) (hr : fA C Rc tm E.O ay op K = some r) : Does P X o E a.eval op K r := by
 unfold fA at hr
 rw [hop] at hr
 dsimp only at hr
 split at hr
 case h_2 => cases hr
 rename_i x y t t' h1 h2
 split at hr
 case h_2 => cases hr
 rename_i ti row hl hsl
 obtain ⟨hst,hr⟩ := fP hr
 obtain ⟨ti',te',e1,hU,e2,e3,_⟩ := T.DC hsl
 rw [hl] at e1; cases e1
 have Vy : ∃ d,P.underlying t' = some d ∧ ∀ k,d ≠ .int k := by
  simp only [Bool.not_eq_false',Bool.or_eq_true] at hst
  rcases hst with hs | hs
  ·exact ⟨_,T.VW hs,fun k x => by cases x⟩
  ·split at hs
   ·rename_i ts2 hs2
    obtain ⟨_,_,_,hU2,_⟩ := T.DC hs2
    exact ⟨_,hU2,fun k x => by cases x⟩
   ·cases hs
 obtain ⟨u,u',ha,v1,v2⟩ := Cc ht h1
 unfold qW at hr
 rw [e2] at hr
 dsimp only at hr
 rw [e3] at hr
 dsimp only at hr
 obtain ⟨_,hr⟩ := fP hr
 obtain ⟨i,z,hi,hsz,hby,hb0,_,hz,hzs,hrp⟩ := T.LC e2 e3
 split at hr
 case h_2 => cases hr
 rename_i ys hys
 have hsrc : Src P E row o ys u' := by
  split at hys
  ·cases hys
   unfold VR at v2; subst v2
   exact F7 (deps := []) h ⟨_,_,_,rfl,rfl,Nat.le_refl _,fun x => absurd rfl x⟩
  ·obtain ⟨rfl,rfl⟩ := kZ hys
   unfold VR at v2; subst v2
   exact ZF
  ·split at hys
   ·rename_i q hq
    obtain ⟨e,rfl⟩ := kZ hys
    have := kN h hq v2
    obtain ⟨qts,adW,adX⟩ := q
    dsimp only at e this ⊢
    subst e
    exact F7 h this
   ·cases hys
 obtain ⟨m,m1,m2,m3,m4⟩ := hsrc
 have ex : ∀ {Q : Next -> World -> Prop},acc P (xk o E.w) (wF o E.w) (Builtin.append_ #[t,t'] op.type #[u,u']) (fun v w => Q (.value v) w) E.w -> acc P (xk o E.w) (wF o E.w) (execOp a.eval op) Q E.w := by
  intro Q hq
  rw [lZ hop,ha,ZC h2]
  unfold builtin
  dsimp only
  rw [jS]
  exact hq
 split at hr
 ·
  obtain ⟨hc,hr⟩ := bF hr
  unfold VR at v1; subst v1
  by_cases h0 : ys = []
  ·subst h0
   obtain ⟨hs,hok⟩ := SG h row true
   refine ⟨.own ay,_,_,[],hr,ex (Ac hU Vy hi hsz m3 (Nat.le_refl _) (m4 E.w _ _ rfl ?_))⟩
   show NG X o E _ _ _ _ _ _
   refine ⟨{ E with ρ := upd E.ρ ay ⟨none,0⟩,O := (ay,.arr row [] true) :: E.O },rfl,rfl,rfl,hok.grow,hs,.inr ⟨_,rfl,?_⟩⟩
   unfold VR
   refine ⟨row,[],true,dn _ _ _,?_⟩
   show _ = Value.slice ((upd E.ρ ay _ ay).b.map _) _ (upd E.ρ ay _ ay).cap
   rw [eu]; rfl
  ·have hpos : 0 < ys.length := List.length_pos_iff.2 h0
   refine ⟨.own ay,_,_,[],hr,ex (yx hU Vy hi hsz hz (by rw [hby]; exact hb0) m3 (by omega) (by rw [Nat.zero_add,hby]; exact hc) fun newCap hnew => ?_)⟩
   rw [ah]
   show acc P _ _ (do let new <- Builtin.firstCells row.n ys.length u'; pure (#[],new)) _ _
   rw [ah]
   refine m4 _ _ _ rfl ?_
   rw [cu]
   show NG X o E _ _ _ _ _ _
   let w2 : World := { heap := E.w.heap.push (.cells (#[] ++ m.toArray ++ Builtin.zeroCells z.cells (newCap - (0 + ys.length))) ti.elem),tape := E.w.tape,drawn := E.w.drawn + 1,os := E.w.os,output := E.w.output }
   obtain ⟨hk,hs,hok⟩ := Zw (w' := w2) h rfl (.arr row ys true) newCap
   refine ⟨{ E with w := w2,ρ := upd E.ρ ay ⟨some E.w.heap.size,newCap⟩,O := (ay,.arr row ys true) :: E.O },rfl,rfl,rfl,hok ?_,hs,.inr ⟨_,rfl,?_⟩⟩
   ·unfold fE
    show match (upd E.ρ ay _ ay).b with | none => _ | some b => _
    rw [eu]
    refine ⟨_,_,_,by show (E.w.heap.push _)[_]? = _; simp; exact ⟨rfl,rfl⟩,GZ _,?_,?_,?_⟩
    ·show _ <= (upd E.ρ ay _ ay).cap
     rw [eu]; simpa using hnew
    ·show (upd E.ρ ay _ ay).cap * _ <= _
     rw [eu]
     simp only [Array.size_append,SV,hzs,List.size_toArray,m1,Nat.sub_mul]
     have := Nat.mul_le_mul_right row.n hnew
     simp only [Nat.zero_add] at this ⊢
     simp; omega
    ·have := uy [] ys [] m (Builtin.zeroCells z.cells (newCap - (0 + ys.length))).toList trivial (by simp) m2 m1
     have := eX (fun d l => cZ.jM hk.AA row d l) _ _ this
     simpa using this
   ·unfold VR
    refine ⟨row,ys,true,dn _ _ _,?_⟩
    show _ = Value.slice ((upd E.ρ ay _ ay).b.map _) _ (upd E.ρ ay _ ay).cap
    rw [eu]; simp
 ·
  rename_i id _ _
  split at hr
  case h_2 => cases hr
  rename_i ts' kC hlo
  split at hr
  case h_2 => cases hr
  rename_i rows hcast
  obtain ⟨e,rfl⟩ := kZ hcast
  subst e
  obtain ⟨hc,hr⟩ := bF hr
  unfold VR at v1
  obtain ⟨ts1,JO,wr1,g1,rfl⟩ := v1
  rw [hlo] at g1; cases g1
  have ho := h.obj id _ hlo
  unfold fE at ho
  have lt := lY (es := [.kill id]) (id := id) (a' := .arr ts' (kC ++ ys) true) (O := E.O) (fun _ => rfl) rfl
  by_cases hin : kC.length + ys.length <= (E.ρ id).cap
  ·refine ⟨.own id,_,_,[.kill id],hr,ex (Ac hU Vy hi hsz m3 hin (m4 E.w _ _ rfl ?_))⟩
   cases hb : (E.ρ id).b with
   | none =>
    rw [hb] at ho
    obtain ⟨h0,hcap0⟩ := ho
    subst h0
    have hy : ys = [] := List.eq_nil_of_length_eq_zero (by rw [hcap0] at hin; omega)
    subst hy
    obtain ⟨hok,hs⟩ := Ws h hlo hb
    show NG X o E _ _ _ _ _ _
    refine ⟨{ E with O := dh [.kill id] ((id,.arr ts' [] true) :: E.O) },rfl,rfl,rfl,hok.grow,hs,.inr ⟨_,rfl,?_⟩⟩
    unfold VR
    refine ⟨ts',[],true,lt.1,?_⟩
    show _ = Value.slice ((E.ρ id).b.map _) _ (E.ρ id).cap
    rw [hb]; rfl
   | some b =>
    rw [hb] at ho
    obtain ⟨c,tt,f,k1,k2,k3,k4,k5⟩ := ho
    show acc P _ _ (storeCells (Addr.add ⟨b,0,none⟩ (kC.length * ts'.n)) m.toArray.toList) _ _
    rw [qp,Nat.zero_add]
    have hend : kC.length * ts'.n + ys.length * ts'.n <= c.size := by
     rw [<- Nat.add_mul]; exact Nat.le_trans (Nat.mul_le_mul_right _ hin) k4
    refine oJ m _ 0 E.w c tt f _ (Ce h hlo rfl hb) k1 k2 (G9 ys m m2 m1) (by rw [m1]; omega) ?_
    intro w' c' z1 z2 z3 z4 z5
    have wo := zu (w' := w') h hlo rfl hb z1 z2 (.arr ts' (kC ++ ys) true) rfl [.kill id] (fun _ => rfl) rfl
    have hk := wo.1 rfl
    have htk : c'.toList.take (kC.length * ts'.n) = c.toList.take (kC.length * ts'.n) := by
     have hcl : c.toList.length = c.size := by simp
     rw [z5,Nat.add_zero,List.append_assoc,List.take_append_of_le_length (by simp; omega),List.take_take,Nat.min_self]
    have hs := hk.kill fun deps => abZ h hlo hb k1 z3 z2 (by simp) htk true deps
    have hok := wo.2 hs (by
     unfold fE
     show match (E.ρ id).b with | none => _ | some b => _
     rw [hb]
     refine ⟨c',tt,f,z3,fun j hj => k2 j (by omega),by simpa using hin,by rw [z4]; exact k4,?_⟩
     have q1 := eX (fun d l => cZ.jM hk.AA ts' d l) _ _ ((jO kC _ _ (Nat.le_refl _)).2 k5)
     have q2 := eX (fun d l => cZ.jM hk.AA ts' d l) _ _ m2
     have := uy kC ys (c.toList.take (kC.length * ts'.n)) m (c.toList.drop (kC.length * ts'.n + m.length)) q1 (by simp; omega) q2 m1
     rw [z5,Nat.add_zero]; exact this)
    show NG X o E _ _ _ _ _ _
    refine ⟨{ E with w := w',O := dh [.kill id] ((id,.arr ts' (kC ++ ys) true) :: E.O) },rfl,rfl,rfl,hok.grow,hs,.inr ⟨_,rfl,?_⟩⟩
    unfold VR
    refine ⟨ts',kC ++ ys,true,lt.1,?_⟩
    show _ = Value.slice ((E.ρ id).b.map _) _ (E.ρ id).cap
    rw [hb]; simp
  ·have hq : rowsOf E.O (.own id) = some ⟨ts',kC,[id]⟩ := by
    show (match look E.O id with | some (.arr ts kC _) => some (Rows.mk ts kC [id]) | _ => none) = _
    rw [hlo]
   have hown : VR E (.own id) (.slice ((E.ρ id).b.map fun b => ⟨b,0,none⟩) kC.length (E.ρ id).cap) := by
    unfold VR; exact ⟨ts',kC,true,hlo,rfl⟩
   obtain ⟨l0,l1,l2,_,l4⟩ := F7 (P := P) h (kN h hq hown)
   refine ⟨.own id,_,_,[.kill id],hr,ex (yx hU Vy hi hsz hz (by rw [hby]; exact hb0) m3 (by omega) (by rw [hby]; exact hc) fun newCap hnew => ?_)⟩
   rw [ah]
   refine l4 _ _ _ rfl ?_
   rw [ah]
   refine m4 _ _ _ rfl ?_
   rw [cu]
   show NG X o E _ _ _ _ _ _
   let w2 : World := { heap := E.w.heap.push (.cells (l0.toArray ++ m.toArray ++ Builtin.zeroCells z.cells (newCap - (kC.length + ys.length))) ti.elem),tape := E.w.tape,drawn := E.w.drawn + 1,os := E.w.os,output := E.w.output }
   obtain ⟨hs,hok⟩ := VQ (w' := w2) h hlo rfl (kC ++ ys) newCap
   have hN : vw E.N (fun b => E.N b ∨ (E.ρ id).b = some b) E.w w2 := fun b hb => ⟨.inl hb,by
    show (E.w.heap.push _)[b]? = _
    rw [Array.getElem?_push]; simp [Nat.ne_of_lt (h.zn b hb).1]⟩
   refine ⟨{ E with w := w2,N := fun b => E.N b ∨ (E.ρ id).b = some b,ρ := upd E.ρ id ⟨some E.w.heap.size,newCap⟩,O := dh [.kill id] ((id,.arr ts' (kC ++ ys) true) :: E.O) },rfl,rfl,rfl,hok ?_,hs,.inr ⟨_,rfl,?_⟩⟩
   ·unfold fE
    show match (upd E.ρ id _ id).b with | none => _ | some b => _
    rw [eu]
    refine ⟨_,_,_,by show (E.w.heap.push _)[_]? = _; simp; exact ⟨rfl,rfl⟩,GZ _,?_,?_,?_⟩
    ·show _ <= (upd E.ρ id _ id).cap
     rw [eu]; simpa using hnew
    ·show (upd E.ρ id _ id).cap * _ <= _
     rw [eu]
     have l1' : l0.length = kC.length * ts'.n := l1
     simp only [Array.size_append,SV,hzs,List.size_toArray,List.length_append,m1,l1',Nat.sub_mul]
     have := Nat.mul_le_mul_right ts'.n hnew
     simp only [Nat.add_mul] at this ⊢
     omega
    ·have := uy kC ys l0 m (Builtin.zeroCells z.cells (newCap - (kC.length + ys.length))).toList l2 l1 m2 m1
     have := eX (fun d l => cZ.jM hN ts' d l) _ _ this
     simpa using this
   ·unfold VR
    refine ⟨ts',kC ++ ys,true,lt.1,?_⟩
    show _ = Value.slice ((upd E.ρ id _ id).b.map _) _ (upd E.ρ id _ id).cap
    rw [eu]; simp
 ·cases hr
end ops
end Go.E
end
section
namespace Go.E
variable {E : Env} {tm : List (Nat × AV)} {a : Act} {R : Type} {C : kG} {Rc : ak} {P : Program} {X : Ctx} {o : Ow} {ay : Nat}
section ops
variable {op : Oper} {K : KK R} {r : R}
theorem FU {wr rd : Nat -> Prop} {w : World} (f : Value -> ByteArray -> Sem (ForInStep ByteArray)) (hf : ∀ (n : Int) (s : ByteArray) (Q : ForInStep ByteArray -> World -> Prop),Q (.yield (s.push (UInt8.ofNat n.toNat))) w -> acc P wr rd (f (.int .u8 n) s) Q w) :
  ∀ (ns : List Int) (s : ByteArray) (Q : ByteArray -> World -> Prop),Q (ns.foldl (fun r n => r.push (UInt8.ofNat n.toNat)) s) w -> acc P wr rd (forIn (ns.map (Value.int .u8)) s f) Q w := by
 intro ns
 induction ns with
 | nil => intro s Q hq; simpa [cu] using hq
 | cons n ns ih =>
  intro s Q hq
  simp only [List.map_cons,List.forIn_cons]
  rw [ah]
  exact hf n s _ (ih _ _ hq)
theorem Jy (ns : List Int) : ns.foldl (fun r n => r.push (UInt8.ofNat n.toNat)) ByteArray.empty = jr ns := by
 rw [foldl_push_bytes]
 unfold jr
 show ByteArray.mk (#[] ++ _) = _
 congr 1
 simp
theorem ER {w : World} {N : Nat -> Prop} : ∀ (ds : List Int) (l : List Value),dR 1 (cZ.rp w N (.one (.int .u8))) ds l -> l.take ds.length = ds.map (Value.int .u8)
 | [],_,_ => by simp
 | d :: ds,l,⟨h1,h2,h3⟩ => by
  obtain ⟨v,e,h2⟩ := h2
  have h2 : v = .int .u8 d := h2
  subst h2
  cases l with
  | nil => simp at h1
  | cons x l =>
   simp only [List.take_succ_cons,List.take_zero,List.cons.injEq,and_true] at e
   subst e
   have := ER ds l (by simpa using h3)
   simp [this]
theorem N9 {α : Type} (A : Array α) (x : α) (f : α -> α) : (A.push x).modify A.size f = A.push (f x) := by
 apply Array.ext
 ·simp
 ·intro i h1 h2
  rw [Array.getElem_modify]
  simp only [Array.getElem_push]
  split
  ·rename_i e; subst e; simp
  ·rename_i e
   have : i < A.size := by simp at h2; omega
   simp [this]
theorem QD (T : fV P C) {src dst : TypeId} {x : Operand} (h : OK X o E ay) (ht : kH E tm a.tmps) (hop : op.op = .convert src dst x) (hr : fA C Rc tm E.O ay op K = some r) : Does P X o E a.eval op K r := by
 have ex : ∀ {Q : Next -> World -> Prop} {ds dd : TypeDesc},P.underlying src = some ds -> P.underlying dst = some dd -> (∀ u : Value,u = a.eval x -> acc P (xk o E.w) (wF o E.w) (do
   match ds,dd,u with
   | _,.int k,.int _ n => Conv.intToInt k n
   | _,.float k,.int _ n => Conv.intToFloat k n
   | _,.int k,.float s b => Conv.floatToInt s b k
   | _,.float k,.float s b => Conv.floatToFloat s b k
   | _,.complex k,.complex s a b => Conv.complexToComplex s a b k
   | _,.string,.int _ n => Conv.intToString n
   | _,.string,.string _ => pure u
   | _,.slice e,.string s =>
    match <- underlying e with
    | .int .u8 => Conv.stringToBytes e s
    | .int .i32 => Conv.stringToRunes e s
    | _ => stuck "Convert: string to a slice of what?"
   | .slice _,.slice e,.slice (some a) _ _ =>
    match src == dst, <- underlying e with
    | true,.int .u8 => do markStringish a; pure u
    | _,_ => unsupported (.noEntry "convert/other")
   | .slice e,.string,x =>
    match <- underlying e with
    | .int .u8 => Conv.bytesToString x
    | .int .i32 => Conv.runesToString x
    | _ => stuck "Convert: a slice of what to string?"
   | .unsafePointer,_,x | _,.unsafePointer,x => Conv.unsafePointer src dst x
   | .int _,_,.pointer (some _) => unsupported .addressObserved
   | _,_,_ => unsupported (.noEntry "convert/other")) (fun u w => Q (.value u) w) E.w) -> acc P (xk o E.w) (wF o E.w) (execOp a.eval op) Q E.w := by
  intro Q ds dd hs hd hq
  unfold execOp
  rw [hop]
  dsimp only
  rw [jS]
  unfold convert
  rw [ah,aF hs,ah,aF hd]
  exact hq _ rfl
 have kdS : ∀ {t : TypeId} {ti : TI},look C.ty t = some ti -> Nat.beq ti.kd 9 = true -> P.underlying t = some .string := fun hl hk =>
  T.VW (by unfold Ap; rw [hl]; exact hk)
 have kdI : ∀ {t : TypeId} {ti : TI} {k : IntKind},look C.ty t = some ti -> Nat.beq ti.kd 11 = true -> ti.row = some (.one (.int k)) -> P.underlying t = some (.int k) := by
  intro t ti k hl hk hrow
  obtain ⟨d,h1,h2⟩ := T.under t ti hl
  have hk := Nat.eq_of_beq_eq_true hk
  have := TI.nG h2 (by rw [hk]; decide)
  rw [hk] at this
  obtain ⟨k',rfl⟩ : ∃ k,d = .int k := by simpa using this
  have := h2.2.2 _ hrow
  cases this
  exact h1
 unfold fA at hr
 rw [hop] at hr
 dsimp only at hr
 split at hr
 ·rename_i k n td ts h1 h2 h3
  split at hr
  ·rename_i k' hrow
   obtain ⟨hk,hr⟩ := bH hr
   have e1 := dO ht h1
   unfold VR at e1
   obtain ⟨d,hd,_⟩ := T.under src ts h3
   refine Does.val (u := .int k' (k'.wrap n)) h hr (by unfold VR; rfl) fun Q hq => ex hd (kdI h2 hk hrow) fun u hu => ?_
   rw [hu,e1]
   exact hq
  ·cases hr
 ·rename_i s td ts h1 h2 h3
  have e1 := dO ht h1
  unfold VR at e1
  obtain ⟨d,hd,_⟩ := T.under src ts h3
  cases hk : Nat.beq td.kd 9 with
  | true =>
   rw [hk] at hr
   refine Does.val (u := .string s) h hr (by unfold VR; rfl) fun Q hq => ex hd (kdS h2 hk) fun u hu => ?_
   rw [hu,e1]
   exact hq
  | false =>
   rw [hk] at hr
   dsimp only [cond_false] at hr
   split at hr
   ·rename_i hsl
    split at hr
    ·rename_i te hl2
     obtain ⟨hke,hr⟩ := bH hr
     obtain ⟨ti',te',f1,hU,f2,f3,_⟩ := T.DC hsl
     rw [h2] at f1; cases f1
     rw [hl2] at f2; cases f2
     have hE := kdI hl2 hke f3
     obtain ⟨q,hq⟩ : ∃ q,q = (Question.appendCap s.size 0 td.elem).cut (E.w.tape E.w.drawn (.appendCap s.size 0 td.elem)) := ⟨_,rfl⟩
     have hqs : s.size <= q := by rw [hq]; exact Nat.le_add_right _ _
     let elems : Array Value := s.data.map fun b => .int .u8 b.toNat
     let cells : Array Value := elems ++ Array.replicate (q - s.size) (.int .u8 0)
     have hcs : cells.size = q := by simp [cells,elems]; have : s.size = s.data.size := rfl; omega
     let w2 : World := { heap := E.w.heap.push (.cells cells td.elem (q,q + 1)),tape := E.w.tape,drawn := E.w.drawn + 1,os := E.w.os,output := E.w.output }
     refine Does.new (cap := q) (w' := w2) (u := .slice (some ⟨E.w.heap.size,0,none⟩) s.size q) h hr rfl ?_ ?_
     ·intro E' _ _ _ _ _ e2 e3 e4
      have hln : @List.length (cZ.one (.int .u8)).D (ug s) = s.size := EO s
      refine ⟨?_,?_⟩
      ·unfold fE
       rw [e2]
       refine ⟨_,_,_,e4,fun off ho hh => by rw [hcs] at ho; exact absurd hh.1 (Nat.not_le.2 ho),by rw [hln]; exact hqs,by rw [hcs]; simp [cZ.n],?_⟩
       have h5 := AP (w := E'.w) (N := E'.N) s.data.toList
       have h6 := uy (n := 1) (Q := cZ.rp E'.w E'.N (.one (.int .u8))) [] _ [] (s.data.toList.map fun b => Value.int .u8 b.toNat) (Array.replicate (q - s.size) (Value.int .u8 0)).toList trivial rfl h5 (by rw [Nat.mul_one]; exact (List.length_map _).trans (List.length_map _).symm)
       have h7 : cells.toList = [] ++ (s.data.toList.map fun b => Value.int .u8 b.toNat) ++ (Array.replicate (q - s.size) (Value.int .u8 0)).toList := by simp [cells,elems]
       rw [h7]; exact h6
      ·unfold VR
       exact ⟨_,_,true,by rw [e3]; exact dn _ _ _,by rw [e2,hln]; rfl⟩
     ·intro Q hQ
      refine ex hd hU fun u hu => ?_
      rw [hu,e1]
      have base : acc P (xk o E.w) (wF o E.w) (do match <- underlying td.elem with | .int .u8 => Conv.stringToBytes td.elem s | .int .i32 => Conv.stringToRunes td.elem s | _ => stuck "Convert: string to a slice of what?") (fun u w => Q (.value u) w) E.w := by
       rw [ah,aF hE]
       dsimp only
       unfold Conv.stringToBytes
       rw [ah]
       show (if (Question.appendCap s.size 0 td.elem).forced then _ else _)
       rw [if_neg (by simp [Question.forced]), <- hq,show (Sem.pure q : Sem Nat) = pure q from rfl,cu]
       dsimp only
       rw [ah,nN]
       dsimp only
       rw [ah]
       unfold markStringish
       rw [ah]
       show acc P _ _ (match (World.shape? _ _ : Option (TypeId × Nat)) with | some (_,n) => _ | _ => _) _ _
       have hsh : World.shape? { heap := E.w.heap.push (.cells cells td.elem),tape := E.w.tape,drawn := E.w.drawn + 1,os := E.w.os,output := E.w.output } E.w.heap.size = some (td.elem,q) := by
        unfold World.shape?
        simp [hcs]
       rw [hsh]
       dsimp only
       show xk o E.w E.w.heap.size ∧ _
       refine ⟨.inr (Nat.le_refl _),?_⟩
       have hfr : World.freeze { heap := E.w.heap.push (.cells cells td.elem),tape := E.w.tape,drawn := E.w.drawn + 1,os := E.w.os,output := E.w.output } ⟨E.w.heap.size,q,none⟩ 1 = w2 := by
        unfold World.freeze
        rw [if_neg (by decide)]
        dsimp only
        rw [N9]
        rfl
       show Q _ (World.freeze _ _ _)
       rw [hfr]
       exact hQ
      cases d <;> exact base
    ·cases hr
   ·cases hr
 ·rename_i v td Zq hni hns h1 h2 h3
  have e1 := dO ht h1
  split at hr
  ·rename_i hsl
   split at hr
   ·rename_i te hl2
    obtain ⟨hk,hr⟩ := bH hr
    simp only [Bool.and_eq_true] at hk
    obtain ⟨ti',te',f1,hU,f2,f3,_⟩ := T.DC hsl
    rw [h3] at f1; cases f1
    rw [hl2] at f2; cases f2
    have hE := kdI hl2 hk.1 f3
    have hD := kdS h2 hk.2
    have fin : ∀ {ad : Option Addr} {len cap : Nat} {Q : Next -> World -> Prop},a.eval x = .slice ad len cap -> acc P (xk o E.w) (wF o E.w) (Conv.bytesToString (.slice ad len cap)) (fun u w => Q (.value u) w) E.w -> acc P (xk o E.w) (wF o E.w) (execOp a.eval op) Q E.w := by
     intro ad len cap Q e hq
     refine ex hU hD fun u hu => ?_
     rw [hu,e]
     dsimp only
     rw [ah,aF hE]
     exact hq
    split at hr
    ·unfold VR at e1
     exact Does.val (u := .string .empty) h hr (by unfold VR; rfl) fun Q hq => fin e1 hq
    ·split at hr
     ·rename_i q hq
      split at hr
      ·rename_i l hcast
       have hs := kN h hq e1
       obtain ⟨e,hl⟩ := kZ hcast
       obtain ⟨qts,adW,adX⟩ := q
       dsimp only at e hs hl
       subst e
       subst hl
       refine Does.val (u := .string (jr l)) h hr (by unfold VR; rfl) fun Q hQ => ?_
       obtain ⟨m,m1,m2,m3,m4⟩ := F7 (P := P) h hs
       obtain ⟨ad,len,cap,g1,g2,g3,g4⟩ := hs
       refine fin g1 ?_
       have hm : m = l.map (Value.int .u8) := by
        have := ER l m m2
        rw [<- this,List.take_of_length_le (by rw [m1]; exact Nat.le_of_eq (Nat.mul_one _))]
       rw [g1] at m4
       cases ad with
       | none =>
        have h0 : l = [] := Classical.byContradiction fun hne => by
         obtain ⟨_,_,_,_,_,x,_⟩ := g4 hne; cases x
        subst h0
        exact hQ
       | some ad =>
        unfold Conv.bytesToString
        dsimp only
        rw [ah]
        have hl : @List.length (cZ.one (.int .u8)).D l * 1 = len := by rw [Nat.mul_one]; exact g2.symm
        have step : ∀ (Q' : Array Value -> World -> Prop),Q' m.toArray E.w -> acc P (xk o E.w) (wF o E.w) (loadCells ad len) Q' E.w := by
         intro Q' h'
         have := m4 E.w (xk o E.w) Q' rfl h'
         rw [<- hl]
         exact this
        refine step _ ?_
        rw [hm]
        simp only [List.forIn_toArray]
        rw [ah]
        refine FU _ ?_ _ _ _ ?_
        ·intro n s Q' h'; exact h'
        ·exact Eq.mpr (congrArg (fun z => Q (Next.value (Value.string z)) E.w) (Jy l)) hQ
      ·cases hr
     ·cases hr
   ·cases hr
  ·cases hr
 ·cases hr
end ops
end Go.E
end
section
namespace Go.E
variable {E : Env} {tm : List (Nat × AV)} {a : Act} {R : Type} {C : kG} {Rc : ak} {P : Program} {X : Ctx} {o : Ow} {ay : Nat}
def mR (kt : CT) {β : Type} (Rv : β -> Value -> Prop) : List (kt.D × β) -> List MapEntry -> Prop
 | [],l => l = []
 | (k,x) :: r,l => ∃ e l',l = e :: l' ∧ lH kt k e.key ∧ Rv x e.val ∧ mR kt Rv r l'
theorem Cj {kt : CT} : ∀ {es : List (kt.D × AV)} {l : List MapEntry},Qv E kt es l ↔ mR kt (fun x v => qh x = true ∧ VR E x v) es l
 | [],l => Iff.rfl
 | (k,x) :: r,l => by
  constructor
  ·rintro ⟨e,l',h1,h2,h3,h4,h5⟩; exact ⟨e,l',h1,h2,⟨h3,h4⟩,Cj.1 h5⟩
  ·rintro ⟨e,l',h1,h2,⟨h3,h4⟩,h5⟩; exact ⟨e,l',h1,h2,h3,h4,Cj.2 h5⟩
theorem uz {kt vt : CT} : ∀ {es : List (kt.D × vt.D)} {l : List MapEntry},Zu kt vt es l ↔ mR kt (lH vt) es l
 | [],l => Iff.rfl
 | (k,x) :: r,l => by
  constructor
  ·rintro ⟨e,l',h1,h2,h3,h5⟩; exact ⟨e,l',h1,h2,h3,uz.1 h5⟩
  ·rintro ⟨e,l',h1,h2,h3,h5⟩; exact ⟨e,l',h1,h2,h3,uz.2 h5⟩
theorem ES {kt : CT} {d : TypeDesc} (hd : cellT kt d) {k j : kt.D} {u v : Value} (hu : lH kt k u) (hv : lH kt j v) : Instr.sameNow d u v = some (keq kt k j) := by
 cases kt with
 | int q => have hd : d = .int q := hd; subst hd; have hu : u = .int q k := hu; have hv : v = .int q j := hv; subst hu hv; show (if q = q then some (_ == _) else none) = _; rw [if_pos rfl]; rfl
 | bool => have hd : d = .bool := hd; subst hd; have hu : u = .bool k := hu; have hv : v = .bool j := hv; subst hu hv; rfl
 | str => have hd : d = .string := hd; subst hd; have hu : u = .string k := hu; have hv : v = .string j := hv; subst hu hv; rfl
 | sl _ => exact hd.elim
theorem Wu {kt : CT} {k j : kt.D} (h : keq kt k j = true) : k = j := by
 cases kt with
 | int q => exact eq_of_beq (α := Int) h
 | bool => exact eq_of_beq (α := Bool) h
 | str =>
  have h : (show ByteArray from k) == (show ByteArray from j) := h
  rw [vH] at h
  exact h
 | sl _ => cases h
 where
 vH {x y : ByteArray} : ((x == y) = true) = (x = y) := by
  obtain ⟨⟨x⟩⟩ := x
  obtain ⟨⟨y⟩⟩ := y
  apply propext
  constructor
  ·intro h
   have h : ((⟨x⟩ : Array UInt8) == ⟨y⟩) = true := h
   rw [eq_of_beq h]
  ·intro h
   rw [h]
   show ((⟨y⟩ : Array UInt8) == ⟨y⟩) = true
   exact beq_self_eq_true _
theorem Oa {kt : CT} {k : kt.D} {u v : Value} (hu : lH kt k u) (hv : lH kt k v) : u = v := by
 cases kt with
 | sl _ => exact hu.elim
 | _ => exact Eq.trans hu (Eq.symm hv)
theorem Wv (n : Nat) (q : IntKind) (k : Int) : Instr.sameBits n (.int q k) (.int q k) = true := by unfold Instr.sameBits; simp
theorem UG (n : Nat) (k : Bool) : Instr.sameBits n (.bool k) (.bool k) = true := by unfold Instr.sameBits; simp
theorem Wx (n : Nat) (k : ByteArray) : Instr.sameBits n (.string k) (.string k) = true := by
 unfold Instr.sameBits
 show (k == k) = true
 rw [Wu.vH]
theorem Ob {kt : CT} {k : kt.D} {u : Value} (hu : lH kt k u) (n : Nat) : Instr.sameBits n u u = true := by
 cases kt with
 | int q => have hu : u = .int q k := hu; subst hu; exact Wv n q k
 | bool => have hu : u = .bool k := hu; subst hu; exact UG n k
 | str => have hu : u = .string k := hu; subst hu; exact Wx n k
 | sl _ => exact hu.elim
theorem QE {kt : CT} {d : TypeDesc} (hd : cellT kt d) {β : Type} {Rv : β -> Value -> Prop} {k : kt.D} {u : Value} (hu : lH kt k u) : ∀ (es : List (kt.D × β)) (l : List MapEntry) (i : Nat),mR kt Rv es l ->
  (match uY (keq kt) k es with
  | some x => ∃ j e,Instr.findNow d u l i = some (some (i + j,e.val)) ∧ l[j]? = some e ∧ lH kt k e.key ∧ Rv x e.val ∧ ∀ (y : β) (v : Value),Rv y v -> mR kt Rv (uf (keq kt) k y es) (l.modify j fun e => { e with key := u,val := v })
  | none => Instr.findNow d u l i = some none ∧ ∀ (y : β) (v : Value) (b : Nat),Rv y v -> mR kt Rv (uf (keq kt) k y es) (l ++ [{ key := u,val := v,born := b }]))
 | [],l,i,h => by
  have h : l = [] := h
  subst h
  exact ⟨rfl,fun y v b hv => ⟨_,[],rfl,hu,hv,rfl⟩⟩
 | (j,x) :: r,l,i,h => by
  obtain ⟨e,l',rfl,h1,h2,h3⟩ := h
  have hs := ES hd hu h1
  have ef : Instr.findNow d u (e :: l') i = match (some (keq kt k j) : Option Bool) with
   | some true => some (some (i,e.val))
   | some false => Instr.findNow d u l' (i + 1)
   | none => none := by rw [<- hs]; rfl
  show (match (bif keq kt k j then some x else uY (keq kt) k r) with | some x => _ | none => _)
  have em : ∀ y : β,uf (keq kt) k y ((j,x) :: r) = bif keq kt k j then (k,y) :: r else (j,x) :: uf (keq kt) k y r := fun _ => rfl
  cases hk : keq kt k j with
  | true =>
   rw [hk] at ef
   have := Wu hk
   subst this
   refine ⟨0,e,ef,rfl,h1,h2,fun y v hv => ?_⟩
   rw [em,hk]
   exact ⟨_,l',rfl,hu,hv,h3⟩
  | false =>
   rw [hk] at ef
   have ih := QE hd hu r l' (i + 1) h3
   show (match uY (keq kt) k r with | some x => _ | none => _)
   split at ih
   ·rename_i x' hx
    obtain ⟨q,e',g1,g2,g3,g4,g5⟩ := ih
    refine ⟨q + 1,e',by rw [ef]; show Instr.findNow d u l' (i + 1) = _; rw [g1,Nat.add_assoc,Nat.add_comm 1 q],by simpa using g2,g3,g4,fun y v hv => ?_⟩
    rw [em,hk]
    exact ⟨e,_,by simp [List.modify_succ_cons],h1,h2,g5 y v hv⟩
   ·rename_i hx
    obtain ⟨g1,g2⟩ := ih
    refine ⟨by rw [ef]; exact g1,fun y v b hv => ?_⟩
    rw [em,hk]
    exact ⟨e,_,rfl,h1,h2,g2 y v b hv⟩
theorem aaD {kt : CT} {d : TypeDesc} (hd : cellT kt d) {β : Type} {Rv : β -> Value -> Prop} {k : kt.D} {u : Value} (hu : lH kt k u) : ∀ (es : List (kt.D × β)) (l : List MapEntry) (i : Nat),mR kt Rv es l ->
  (∃ j v,Instr.findNow d u l i = some (some (i + j,v)) ∧ j < l.length ∧ mR kt Rv (Qo (keq kt) k es) (l.eraseIdx j)) ∨ (Instr.findNow d u l i = some none ∧ mR kt Rv (Qo (keq kt) k es) l)
 | [],l,i,h => by
  have h : l = [] := h
  subst h
  exact .inr ⟨rfl,rfl⟩
 | (j,x) :: r,l,i,h => by
  obtain ⟨e,l',rfl,h1,h2,h3⟩ := h
  have hs := ES hd hu h1
  have ef : Instr.findNow d u (e :: l') i = match (some (keq kt k j) : Option Bool) with
   | some true => some (some (i,e.val))
   | some false => Instr.findNow d u l' (i + 1)
   | none => none := by rw [<- hs]; rfl
  have em : Qo (keq kt) k ((j,x) :: r) = bif keq kt k j then r else (j,x) :: Qo (keq kt) k r := rfl
  cases hk : keq kt k j with
  | true =>
   rw [hk] at ef em
   exact .inl ⟨0,e.val,ef,by simp,by rw [em]; exact h3⟩
  | false =>
   rw [hk] at ef em
   rcases aaD hd hu r l' (i + 1) h3 with ⟨q,v,g1,g2,g3⟩ | ⟨g1,g2⟩
   ·refine .inl ⟨q + 1,v,by rw [ef]; show Instr.findNow d u l' (i + 1) = _; rw [g1,Nat.add_assoc,Nat.add_comm 1 q],by simpa using g2,?_⟩
    rw [em]
    exact ⟨e,_,by simp,h1,h2,g3⟩
   ·refine .inr ⟨by rw [ef]; exact g1,?_⟩
    rw [em]
    exact ⟨e,l',rfl,h1,h2,g2⟩
theorem ET {kt : CT} {k : kt.D} {z : AV} {K : AV -> Bool -> Option R} {r : R} : ∀ {es : List (kt.D × AV)},xO kt k z K es = some r -> match uY (keq kt) k es with | some v => K v true = some r | none => K z false = some r
 | [],h => h
 | (j,v) :: es,h => by
  have h : sel (keq kt k j) (K v true) (xO kt k z K es) = some r := h
  show match (bif keq kt k j then some v else uY (keq kt) k es) with | some v => _ | none => _
  cases hk : keq kt k j with
  | true => rw [hk] at h; exact h
  | false => rw [hk] at h; exact ET (es := es) h
theorem EU {kt : CT} {k : kt.D} {v : AV} {K : List (kt.D × AV) -> Option R} {r : R} : ∀ {es acc : List (kt.D × AV)},uO kt k v K acc es = some r -> K (acc ++ uf (keq kt) k v es) = some r
 | [],acc,h => h
 | (j,u) :: es,acc,h => by
  have h : sel (keq kt k j) (K (acc ++ (k,v) :: es)) (uO kt k v K (acc ++ [(j,u)]) es) = some r := h
  have em : uf (keq kt) k v ((j,u) :: es) = bif keq kt k j then (k,v) :: es else (j,u) :: uf (keq kt) k v es := rfl
  cases hk : keq kt k j with
  | true => rw [hk] at h em; rw [em]; exact h
  | false =>
   rw [hk] at h em
   have := EU (es := es) (acc := acc ++ [(j,u)]) h
   rw [em]
   simpa using this
theorem sU {t : CT} {O : bD} {x : AV} {d : t.D} {v : Value} {t' : TypeDesc} (ht : cellT t t') (h : t.je O x = some d) (hv : VR E x v) : lH t d v := by
 cases t with
 | int k => rw [yg h] at hv; unfold VR at hv; exact hv
 | bool => rw [vF h] at hv; unfold VR at hv; exact hv
 | str => rw [yh h] at hv; unfold VR at hv; exact hv
 | sl _ => exact ht.elim
theorem UH {t : CT} {d : t.D} {v : Value} (h : lH t d v) : VR E (t.av d) v := by
 cases t with
 | int k => unfold CT.av VR; exact h
 | bool => unfold CT.av VR; exact h
 | str => unfold CT.av VR; exact h
 | sl _ => exact h.elim
theorem ru {wr rd : Nat -> Prop} {w : World} {b : Bool} {t : TypeId} {v : Value} {d : TypeDesc} {kt : CT} (hu : P.underlying t = some d) (hc : cellT kt d) {Q : Unit -> World -> Prop} (hq : Q () w) : acc P wr rd (Instr.checkKey b 10000 t v) Q w := by
 show acc P wr rd (Instr.checkKey b (9999 + 1) t v) Q w
 unfold Instr.checkKey
 rw [ah,aF hu]
 cases kt with
 | int k => have hc : d = .int k := hc; subst hc; exact hq
 | bool => have hc : d = .bool := hc; subst hc; exact hq
 | str => have hc : d = .string := hc; subst hc; exact hq
 | sl _ => exact hc.elim
theorem nU {wr rd : Nat -> Prop} {w : World} {t : TypeId} {v : Value} {d : TypeDesc} {l : List MapEntry} {x : Option (Nat × Value)} (hu : P.underlying t = some d) (hf : Instr.findNow d v l 0 = some x) {Q : Option (Nat × Value) -> World -> Prop} (hq : Q x w) : acc P wr rd (Instr.findKey t v l) Q w := by
 unfold Instr.findKey
 rw [ah,aF hu,hf]
 exact hq
section ops
variable {op : Oper} {K : KK R} {r : R}
theorem QF {wr rd : Nat -> Prop} {w : World} {b : Nat} {ent : Array MapEntry} {clk : Nat} (hr : rd b) (hw : w.heap[b]? = some (.map ent clk)) {α : Type} {f : Array MapEntry -> Nat -> Sem α} {Q : α -> World -> Prop} (hq : acc P wr rd (f ent clk) Q w) {g : Obj -> Sem α} :
  (∀ e c,g (.map e c) = f e c) -> acc P wr rd (do let x <- getObj b; g x) Q w := by
 intro hg
 rw [ah]
 refine ⟨hr,_,hw,(fun _ _ _ x => by cases x),rfl,?_⟩
 show acc P wr rd (g (.map ent clk)) Q w
 rw [hg]; exact hq
theorem QG {t : TypeId} {rv : Option Operand} (h : OK X o E ay) (hop : op.op = .makeMap t rv) (hr : fA C Rc tm E.O ay op K = some r) : Does P X o E a.eval op K r := by
 unfold fA at hr
 rw [hop] at hr
 cases rv with
 | some q => cases hr
 | none =>
  dsimp only at hr
  have mk : ∀ m : Gu,xW E [] m -> (∀ E' : Env,xW E' [] m) -> K (.mp ay) ((ay,.map m) :: E.O) (ay + 1) [] = some r -> Does P X o E a.eval op K r := by
   intro m _ hm hr
   refine Does.new (cap := 0) (w' := { E.w with heap := E.w.heap.push (.map #[] 0) }) (u := .map (some E.w.heap.size)) h hr rfl ?_ ?_
   ·intro E' _ _ _ _ _ e2 e3 e4
    refine ⟨⟨_,_,_,by rw [e2],e4,hm E'⟩,?_⟩
    unfold VR
    exact ⟨_,_,by rw [e3]; exact dn _ _ _,by rw [e2],rfl⟩
   ·intro Q hq
    unfold execOp
    rw [hop]
    dsimp only
    rw [jS]
    unfold Instr.makeMap
    dsimp only [Option.map_none]
    rw [ah]
    exact hq
  split at hr
  ·exact mk (.lit _ []) rfl (fun _ => rfl) hr
  ·exact mk (.dat _ _ []) rfl (fun _ => rfl) hr
  ·cases hr
theorem Keep.ZG {E E' : Env} {id : Nat} {m : Gu} (h : Keep E E' fun i => i = id) (hl : look E.O id = some (.map m)) : Keep E E' fun _ => False :=
 { h with arr := fun i _ ts rows wr hi => h.arr i (fun e => by rw [e,hl] at hi; cases hi) ts rows wr hi }
theorem F8 {id b : Nat} {m m' : Gu} {UJ : Array MapEntry} {ZH : Nat} (h : OK X o E ay) (hl : look E.O id = some (.map m)) (hb : (E.ρ id).b = some b) (hm : ∀ E' : Env,Step E E' [] -> xW E' UJ.toList m') {v : AV} {nx : Next} (hv : nx = .skip ∧ v = .undef ∨ nx = .value (.tuple #[]) ∧ v = .BJ []) :
  NG X o E ay ((id,.map m') :: E.O) [] v nx { E.w with heap := E.w.heap.setIfInBounds b (.map UJ ZH) } := by
 have hblt := (h.own id b ⟨_,hl,rfl⟩ hb).1
 have wo := zu (w' := { E.w with heap := E.w.heap.setIfInBounds b (.map UJ ZH) }) h hl rfl hb (by simp) (fun b' hb' => by simp [Array.getElem?_setIfInBounds_ne (Ne.symm hb')]) (.map m') rfl [] (fun _ => rfl) rfl
 have hk := (wo.1 rfl).ZG hl
 have hok := wo.2 hk.step ⟨b,UJ,ZH,hb,by simp [hblt],hm _ hk.step⟩
 refine ⟨{ E with w := { E.w with heap := E.w.heap.setIfInBounds b (.map UJ ZH) },O := dh [] ((id,.map m') :: E.O) },rfl,rfl,rfl,hok.grow,hk.step,?_⟩
 rcases hv with ⟨e1,e2⟩ | ⟨e1,e2⟩
 ·exact .inl ⟨e1,e2⟩
 ·subst e2
  exact .inr ⟨_,e1,by unfold VR; exact ⟨[],rfl,by unfold dw; rfl⟩⟩
theorem Cm (T : fV P C) {t : TypeId} {x y z : Operand} (h : OK X o E ay) (ht : kH E tm a.tmps) (hop : op.op = .insert t x y z ∨ op.op = .mapUpdate t x y z) (hr : fA C Rc tm E.O ay op K = some r) : Does P X o E a.eval op K r := by
 have hr : (match BM C t,ev tm x with
  | some (kt,_,_),some (.mp id) => match look E.O id,ev tm y,ev tm z with
   | some (.map (.lit tZ es)),some k,some v => bif tZ.beq kt && qh v then match tZ.je [] k with
    | some k => uO tZ k v (fun es => K .undef ((id,.map (.lit tZ es)) :: E.O) ay []) [] es
    | none => none
    else none
   | some (.map (.dat tZ vt es)),some k,some v => bif tZ.beq kt && !jL vt then match tZ.je [] k,vt.je [] v with
    | some k,some v => K .undef ((id,.map (.dat tZ vt (uf (keq tZ) k v es))) :: E.O) ay []
    | _,_ => none
    else none
   | _,_,_ => none
  | _,_ => none) = some r := by
  unfold fA at hr; rcases hop with e | e <;> (rw [e] at hr; exact hr)
 have ex : ∀ {Q : Next -> World -> Prop},acc P (xk o E.w) (wF o E.w) (Instr.mapUpdate t (a.eval x) (a.eval y) (a.eval z)) (fun _ w => Q .skip w) E.w -> acc P (xk o E.w) (wF o E.w) (execOp a.eval op) Q E.w := by
  intro Q hq
  unfold execOp
  rcases hop with e | e <;> (rw [e]; dsimp only; rw [aaB]; exact hq)
 have go : ∀ {id b : Nat} {m : Gu} {kt : CT} {β : Type} {Rv : β -> Value -> Prop} {es : List (kt.D × β)} {k : kt.D} {kk : TypeId} {d dv : TypeDesc} {tv : TypeId} {ent : Array MapEntry} {clk : Nat} {yv : β} (mk : List (kt.D × β) -> Gu),look E.O id = some (.map m) -> (E.ρ id).b = some b -> a.eval x = .map (some b) ->
   P.underlying t = some (.map kk tv) -> P.underlying kk = some d -> cellT kt d -> E.w.heap[b]? = some (.map ent clk) -> mR kt Rv es ent.toList -> lH kt k (a.eval y) -> Rv yv (a.eval z) -> (∀ (E' : Env) l,Step E E' [] -> mR kt Rv (uf (keq kt) k yv es) l -> xW E' l (mk (uf (keq kt) k yv es))) ->
   acc P (xk o E.w) (wF o E.w) (Instr.mapUpdate t (a.eval x) (a.eval y) (a.eval z)) (fun _ w => NG X o E ay ((id,.map (mk (uf (keq kt) k yv es))) :: E.O) [] .undef .skip w) E.w := by
  intro id b m kt β Rv es k kk d dv tv ent clk yv mk hl hb hx hU hk hd hw hes hky hyv hmk
  have hwr : xk o E.w b := Ce h hl rfl hb
  have hrd : wF o E.w b := .inl (h.us _ (h.own id b ⟨_,hl,rfl⟩ hb).2.2.2)
  unfold Instr.mapUpdate
  rw [ah,aF hU,hx]
  dsimp only
  refine QF hrd hw (f := fun es clock => _) ?_ (fun _ _ => rfl)
  rw [ah]
  refine ru hk hd ?_
  rw [ah]
  have hf := QE hd hky es ent.toList 0 hes
  split at hf
  ·rename_i xv _
   obtain ⟨j,e,f1,f2,f3,f4,f5⟩ := hf
   refine nU hk f1 ?_
   dsimp only
   rw [ah]
   have hold : (((ent[0 + j]?).map (·.key)).getD (a.eval y)) = a.eval y := by
    rw [Nat.zero_add, <- Array.getElem?_toList,f2]
    exact Oa f3 hky
   rw [hold]
   unfold Instr.keyThatStays
   rw [if_pos (Ob hky 10000),cu]
   refine ⟨hwr,⟨_,hw,fun _ _ _ x => by cases x⟩,rfl,?_⟩
   refine F8 h hl hb (fun E' hs => hmk E' _ hs ?_) (.inl ⟨rfl,rfl⟩)
   have := f5 yv _ hyv
   rw [Nat.zero_add,Array.toList_modify]
   exact this
  ·obtain ⟨f1,f2⟩ := hf
   refine nU hk f1 ?_
   dsimp only
   refine ⟨hwr,⟨_,hw,fun _ _ _ x => by cases x⟩,rfl,?_⟩
   refine F8 h hl hb (fun E' hs => hmk E' _ hs ?_) (.inl ⟨rfl,rfl⟩)
   rw [Array.toList_push]
   exact f2 yv _ _ hyv
 split at hr
 ·rename_i kt tv dv id hmt h1
  have e1 := dO ht h1
  obtain ⟨kk,d,hU,hk,hd,_⟩ := T.BM hmt
  unfold VR at e1
  obtain ⟨m0,b,g1,g2,g3⟩ := e1
  obtain ⟨b',ent,clk,k1,k2,k3⟩ := h.obj id _ g1
  rw [g2] at k1; cases k1
  split at hr
  ·rename_i tZ es k v hl h2 h3
   rw [hl] at g1; cases g1
   obtain ⟨hb,hr1⟩ := bH hr
   clear hr
   rw [Bool.and_eq_true] at hb
   have := CT.beq_eq hb.1
   subst this
   split at hr1
   ·rename_i kd hkd
    have hr2 := EU hr1
    rw [List.nil_append] at hr2
    refine ⟨.undef,_,_,[],hr2,ex ?_⟩
    exact go (dv := .bool) (yv := v) (fun es => .lit tZ es) hl g2 g3 hU hk hd k2 (Cj.1 k3) (sU hd hkd (dO ht h2)) ⟨hb.2,dO ht h3⟩ fun E' l hs hm => by
     refine DU hs (Cj.2 hm)
   ·cases hr1
  ·rename_i tZ vt es k v hl h2 h3
   rw [hl] at g1; cases g1
   obtain ⟨hb,hr1⟩ := bH hr
   clear hr
   rw [Bool.and_eq_true] at hb
   have := CT.beq_eq hb.1
   subst this
   split at hr1
   ·rename_i kd vd hkd hvd
    refine ⟨.undef,_,_,[],hr1,ex ?_⟩
    refine go (dv := .bool) (yv := vd) (fun es => .dat tZ vt es) hl g2 g3 hU hk hd k2 (uz.1 k3) (sU hd hkd (dO ht h2)) ?_ fun E' l hs hm => uz.2 hm
    cases vt with
    | int q => have := dO ht h3; rw [yg hvd] at this; unfold VR at this; exact this
    | bool => have := dO ht h3; rw [vF hvd] at this; unfold VR at this; exact this
    | str => have := dO ht h3; rw [yh hvd] at this; unfold VR at this; exact this
    | sl q => cases hb.2
   ·cases hr1
  ·cases hr
 ·cases hr
theorem UK (T : fV P C) {t : TypeId} {x y : Operand} {ok : Bool} (h : OK X o E ay) (ht : kH E tm a.tmps) (hop : op.op = .lookup t x y ok) (hr : fA C Rc tm E.O ay op K = some r) : Does P X o E a.eval op K r := by
 unfold fA at hr
 rw [hop] at hr
 dsimp only at hr
 have go : ∀ {id b : Nat} {m : Gu} {kt : CT} {β : Type} {Rv : β -> Value -> Prop} {es : List (kt.D × β)} {k : kt.D} {kk : TypeId} {d : TypeDesc} {tv : TypeId} {ent : Array MapEntry} {clk : Nat} {i : TypeInfo} {zv : Value},look E.O id = some (.map m) -> (E.ρ id).b = some b -> a.eval x = .map (some b) ->
   P.underlying t = some (.map kk tv) -> P.underlying kk = some d -> cellT kt d -> E.w.heap[b]? = some (.map ent clk) -> mR kt Rv es ent.toList -> lH kt k (a.eval y) -> P.info? tv = some i -> i.zero = some zv ->
   ∃ v b,(match uY (keq kt) k es with | some xv => Rv xv v ∧ b = true | none => v = zv ∧ b = false) ∧
    ∀ Q : Next -> World -> Prop,Q (.value (if ok = true then .tuple #[v,.bool b] else v)) E.w -> acc P (xk o E.w) (wF o E.w) (execOp a.eval op) Q E.w := by
  intro id b m kt β Rv es k kk d tv ent clk i zv hl hb hx hU hk hd hw hes hky hi hz
  have hrd : wF o E.w b := .inl (h.us _ (h.own id b ⟨_,hl,rfl⟩ hb).2.2.2)
  have hf := QE hd hky es ent.toList 0 hes
  have start : ∀ {Q : Next -> World -> Prop} {f : Option (Nat × Value)},Instr.findNow d (a.eval y) ent.toList 0 = some f -> acc P (xk o E.w) (wF o E.w) (match f with
    | some (_,v) => do
     let x <- pure (v,true)
     pure (if ok = true then Value.tuple #[x.1,.bool x.2] else x.1)
    | none => do
     let z <- zeroValue tv
     let x <- pure (z,false)
     pure (if ok = true then Value.tuple #[x.1,.bool x.2] else x.1)) (fun u w => Q (.value u) w) E.w -> acc P (xk o E.w) (wF o E.w) (execOp a.eval op) Q E.w := by
   intro Q f hfn hq
   unfold execOp
   rw [hop]
   dsimp only
   rw [jS]
   unfold Instr.lookup
   rw [ah,aF hU,hx]
   dsimp only
   rw [ah]
   refine ⟨hrd,_,hw,(fun _ _ _ x => by cases x),rfl,?_⟩
   refine (cu _ _).2 ?_
   dsimp only
   rw [ah,cu,ah]
   refine ru hk hd ?_
   rw [ah]
   refine nU hk hfn ?_
   exact hq
  split at hf
  ·rename_i xv hxv
   obtain ⟨j,e,f1,f2,f3,f4,f5⟩ := hf
   refine ⟨e.val,true,⟨f4,rfl⟩,fun Q hq => start f1 ?_⟩
   rw [ah]
   exact hq
  ·rename_i hxv
   obtain ⟨f1,f2⟩ := hf
   refine ⟨zv,false,⟨rfl,rfl⟩,fun Q hq => start f1 ?_⟩
   rw [ah,iP hi hz,ah]
   exact hq
 have zero : ∀ {tv : Nat} {z : AV},JG C tv = some z -> ∃ i zv,P.info? tv = some i ∧ i.zero = some zv ∧ VR E z zv := by
  intro tv z hz
  unfold JG at hz
  split at hz
  ·rename_i ti hl
   obtain ⟨hag,hz⟩ := fP hz
   split at hz
   ·rename_i z' hz'
    obtain ⟨hs,hz⟩ := bH hz
    cases hz
    have hs := Nat.eq_of_beq_eq_true hs
    obtain ⟨i,hi,_,_,hzero,_⟩ := T.info _ ti hl
    obtain ⟨zv,z1,z2⟩ := hzero (by rw [hz',hs]; rfl)
    refine ⟨i,zv,hi,z1,?_⟩
    have hne := T.zsh _ ti i zv hl hi z1 hag
    rw [hz'] at z2
    have hc : zv.cells = #[zv] := by cases zv <;> first | rfl | exact absurd rfl (hne _)
    rw [hc] at z2
    have := nT (E := E) z2
    unfold dw at this
    obtain ⟨v,q,e1,e2,_⟩ := this
    simp at e1
    rw [e1.1]; exact e2
   ·cases hz
  ·cases hz
 have BJ : ∀ {b : Bool} {x : AV} {v : Value},VR E x v -> VR E (Gw ok x b) (if ok = true then .tuple #[v,.bool b] else v) := by
  intro b x v hv
  unfold Gw
  cases ok with
  | false => exact hv
  | true =>
   show VR E (.BJ [x,.bool b]) (.tuple #[v,.bool b])
   unfold VR
   refine ⟨[v,.bool b],rfl,?_⟩
   unfold dw
   refine ⟨_,_,rfl,hv,?_⟩
   unfold dw
   refine ⟨_,_,rfl,by unfold VR; rfl,by unfold dw; rfl⟩
 split at hr
 ·rename_i kt tv dv id hmt h1
  have e1 := dO ht h1
  obtain ⟨kk,d,hU,hk,hd,_⟩ := T.BM hmt
  unfold VR at e1
  obtain ⟨m0,b,g1,g2,g3⟩ := e1
  obtain ⟨b',ent,clk,k1,k2,k3⟩ := h.obj id _ g1
  rw [g2] at k1; cases k1
  split at hr
  ·rename_i tZ es k hl h2
   rw [hl] at g1; cases g1
   obtain ⟨hb,hr1⟩ := bH hr
   clear hr
   have := CT.beq_eq hb
   subst this
   split at hr1
   ·rename_i kd z hkd hz
    obtain ⟨i,zv,z1,z2,z3⟩ := zero hz
    obtain ⟨v,bb,c1,c2⟩ := go hl g2 g3 hU hk hd k2 (Cj.1 k3) (sU hd hkd (dO ht h2)) z1 z2
    have hg := ET hr1
    split at c1
    ·rename_i xv hxv
     rw [hxv] at hg
     obtain ⟨⟨_,c1⟩,rfl⟩ := c1
     exact Does.val h hg (BJ c1) c2
    ·rename_i hxv
     rw [hxv] at hg
     obtain ⟨rfl,rfl⟩ := c1
     exact Does.val h hg (BJ z3) c2
   ·cases hr1
  ·rename_i tZ vt es k hl h2
   rw [hl] at g1; cases g1
   obtain ⟨hb,hr1⟩ := bH hr
   clear hr
   have := CT.beq_eq hb
   subst this
   split at hr1
   ·rename_i kd z hkd hz
    split at hr1
    ·rename_i zd hzd
     obtain ⟨i,zv,z1,z2,z3⟩ := zero hz
     have zz : ∀ zd,CT.je [] vt z = some zd -> VR E (vt.av zd) zv := by
      intro zd hzd
      cases vt with
      | int q => rw [yg hzd] at z3; exact z3
      | bool => rw [vF hzd] at z3; exact z3
      | str => rw [yh hzd] at z3; exact z3
      | sl q =>
       rcases oK hzd with ⟨rfl,rfl⟩ | ⟨deps,rfl⟩ | ⟨id',wr,rfl,hx⟩
       ·show VR E (.ro q [] []) zv
        unfold VR at z3 ⊢
        exact ⟨_,_,_,z3,rfl,Nat.le_refl _,fun x => absurd rfl x⟩
       ·unfold JG at hz
        exact absurd hz (by
         intro hz
         split at hz
         ·rename_i ti hl'
          obtain ⟨_,hz⟩ := fP hz
          split at hz
          ·rename_i z' hz'
           obtain ⟨hs,hz⟩ := bH hz
           cases hz
           obtain ⟨i,hi,_,_,hzero,_⟩ := T.info _ ti hl'
           obtain ⟨zv',y1,y2⟩ := hzero (by rw [hz',Nat.eq_of_beq_eq_true hs]; rfl)
           rw [hz'] at y2
           generalize zv'.cells.toList = l at y2
           cases l with
           | nil => cases y2
           | cons c cs =>
            unfold ofValues at y2
            split at y2
            ·rename_i c1 c2 y3 y4
             cases y2
             unfold uX at y3
             split at y3 <;> cases y3
            ·cases y2
          ·cases hz
         ·cases hz)
       ·cases hx
     obtain ⟨v,bb,c1,c2⟩ := go hl g2 g3 hU hk hd k2 (uz.1 k3) (sU hd hkd (dO ht h2)) z1 z2
     split at c1
     ·rename_i xv hxv
      rw [hxv] at hr1
      obtain ⟨c1,rfl⟩ := c1
      exact Does.val h hr1 (BJ (UH c1)) c2
     ·rename_i hxv
      rw [hxv] at hr1
      obtain ⟨rfl,rfl⟩ := c1
      exact Does.val h hr1 (BJ (zz _ hzd)) c2
    ·cases hr1
   ·cases hr1
  ·cases hr
 ·rename_i kt tv dv hmt h1
  have e1 := dO ht h1
  obtain ⟨kk,d,hU,hk,hd,_⟩ := T.BM hmt
  unfold VR at e1
  split at hr
  ·rename_i k h2
   split at hr
   ·rename_i kd z hkd hz
    obtain ⟨i,zv,z1,z2,z3⟩ := zero hz
    refine Does.val h hr (BJ z3) fun Q hq => ?_
    unfold execOp
    rw [hop]
    dsimp only
    rw [jS]
    unfold Instr.lookup
    rw [ah,aF hU,e1.1]
    dsimp only
    rw [ah,cu,ah]
    refine ru hk hd ?_
    rw [ah]
    refine nU (x := none) hk rfl ?_
    dsimp only
    rw [ah,iP z1 z2,ah]
    exact hq
   ·cases hr
  ·cases hr
 ·cases hr
theorem UL (T : fV P C) {args : Array Operand} {tys : Array TypeId} (h : OK X o E ay) (ht : kH E tm a.tmps) (hop : op.op = .call ⟨.builtin .delete,args,tys⟩) (hr : fA C Rc tm E.O ay op K = some r) : Does P X o E a.eval op K r := by
 unfold fA at hr
 rw [hop] at hr
 dsimp only at hr
 split at hr
 ·rename_i id k t tr h1 h2
  obtain ⟨u,u',e1,e2,e3⟩ := Cc ht h1
  split at hr
  ·rename_i kt tv dv tZ vt es hmt hl
   obtain ⟨kk,d,hU,hk,hd,_⟩ := T.BM hmt
   obtain ⟨hb,hr1⟩ := bH hr
   clear hr
   have := CT.beq_eq hb
   subst this
   split at hr1
   ·rename_i kd hkd
    unfold VR at e2
    obtain ⟨m0,b,g1,g2,g3⟩ := e2
    rw [hl] at g1; cases g1
    obtain ⟨b',ent,clk,k1,k2,k3⟩ := h.obj id _ hl
    rw [g2] at k1; cases k1
    have hky := sU hd hkd e3
    have hwr : xk o E.w b := Ce h hl rfl g2
    have hrd : wF o E.w b := .inl (h.us _ (h.own id b ⟨_,hl,rfl⟩ g2).2.2.2)
    have agB : tys[0]? = some t := by rw [<- Array.getElem?_toList,h2]; rfl
    refine ⟨.BJ [],_,_,[],hr1,?_⟩
    rw [lZ hop,e1]
    unfold builtin
    dsimp only
    rw [jS]
    unfold Builtin.delete_
    rw [agB]
    simp only [List.getElem?_toArray,List.getElem?_cons_zero,List.getElem?_cons_succ]
    rw [ah,aF hU,g3]
    dsimp only
    rw [ah]
    refine ⟨hrd,_,k2,(fun _ _ _ x => by cases x),rfl,?_⟩
    refine (cu _ _).2 ?_
    dsimp only
    rw [ah]
    refine ru hk hd ?_
    rw [ah]
    rcases aaD hd hky es ent.toList 0 (uz.1 k3) with ⟨j,v,f1,f2,f3⟩ | ⟨f1,f2⟩
    ·refine nU hk f1 ?_
     dsimp only
     refine ⟨hwr,⟨_,k2,fun _ _ _ x => by cases x⟩,rfl,?_⟩
     refine F8 h hl g2 (fun E' hs => ?_) (.inr ⟨rfl,rfl⟩)
     have : (ent.eraseIdxIfInBounds (0 + j)).toList = ent.toList.eraseIdx j := by
      rw [Nat.zero_add,Array.toList_eraseIdxIfInBounds]
     rw [this]
     exact uz.2 f3
    ·refine nU hk f1 ?_
     dsimp only
     refine ⟨hwr,⟨_,k2,fun _ _ _ x => by cases x⟩,rfl,?_⟩
     exact F8 (m' := .dat tZ vt (Qo (keq tZ) kd es)) (UJ := ent) h hl g2 (fun E' hs => uz.2 f2) (.inr ⟨rfl,rfl⟩)
   ·cases hr1
  ·cases hr
 ·cases hr
end ops
end Go.E
end
section
namespace Go.E
variable {E : Env} {tm : List (Nat × AV)} {a : Act} {R : Type} {C : kG} {Rc : ak} {P : Program} {X : Ctx} {o : Ow} {ay : Nat}
variable {op : Oper} {K : KK R} {r : R}
theorem Wy (T : fV P C) (h : OK X o E ay) (ht : kH E tm a.tmps) (hn : callee C tm op.op = none) (hr : fA C Rc tm E.O ay op K = some r) : Does P X o E a.eval op K r := by
 have no : (∀ q,op.op = q -> fA C Rc tm E.O ay op K = none) -> Does P X o E a.eval op K r := fun q => by rw [q _ rfl] at hr; cases hr
 cases hop : op.op with
 | move x => exact SH h ht (.inl hop) hr
 | assign x => exact SH h ht (.inr hop) hr
 | pick c x y => exact Zx h ht hop hr
 | alloc t => exact V9 T h hop hr
 | box t x => exact ab6 h ht hop hr
 | build t ps => exact Wq T h ht hop hr
 | buildSlice t n ps => exact Jw T h ht hop hr
 | load t x => exact ZB T h ht hop hr
 | store t x y => exact Wj T h ht hop hr
 | nilCheck x => exact NY h ht hop hr
 | binOp f t x y yt => exact V3 T h ht hop hr
 | unOp f t x => exact ZA h ht hop hr
 | convert s d x => exact QD T h ht hop hr
 | makeInterface t x => exact DV T h ht hop hr
 | makeFunc fn x y => exact NW h ht hop hr
 | makeSlice t l c => exact LD T h ht hop hr
 | slice t x lo hi mx => cases mx with
  | none => exact V8 T h ht hop hr
  | some m => exact no fun q e => by unfold fA; rw [hop]; rfl
 | fieldAddr t x f => exact Lu T h ht hop hr
 | field t x f => exact V6 T h ht hop hr
 | sliceToArrayPointer t x => exact Jv T h ht hop hr
 | makeMap t rv => exact QG h hop hr
 | insert t x y z => exact Cm T h ht (.inl hop) hr
 | mapUpdate t x y z => exact Cm T h ht (.inr hop) hr
 | lookup t x y ok => exact UK T h ht hop hr
 | indexAddr t x i => exact Lr T h ht hop hr
 | index t x i => exact V4 T h ht hop hr
 | extract x i => exact Qz h ht hop hr
 | call c =>
  obtain ⟨callee,args,tys⟩ := c
  cases callee with
  | value f => exact no fun q e => by rw [hop] at hn; unfold fA; rw [hop]; dsimp only; rw [hn]
  | invoke x m => exact no fun q e => by rw [hop] at hn; unfold fA; rw [hop]; dsimp only; rw [hn]
  | builtin b => cases b with
   | len => exact ab3 T h ht hop hr
   | delete => exact UL T h ht hop hr
   | append => exact UF T h ht hop hr
   | min => exact ab4 h ht hop hr
   | max => exact ab5 h ht hop hr
   | _ => exact no fun q e => by unfold fA; rw [hop]; rfl
 | _ => exact no fun q e => by unfold fA; rw [hop]; rfl
end Go.E
end
section
namespace Go.E
structure EW (all : List Oper) (p x : Oper) : Prop where
 a : ∀ d,p.dst = some d -> d ∉ lD (opers x.op) ∧ gslot all x ≠ some d ∧ x.dst ≠ some d
 b : ∀ d,x.dst = some d -> d ∉ lD (opers p.op) ∧ gslot all p ≠ some d
def rC (pr : Nat -> List Nat) (D ord : List Nat) : Prop := ∀ l i r,ord = l ++ i :: r -> ∀ q ∈ pr i,q ∈ D ∨ q ∈ l
def Eager (qt : Nat -> Bool) (pr : Nat -> List Nat) (ord : List Nat) : Prop := ∀ l b r,ord = l ++ b :: r -> qt b = false -> ∀ p ∈ r,qt p = true -> ∃ q ∈ pr p,q ∈ b :: r
structure He (qt : Nat -> Bool) (all : List Oper) (an : Nat -> List Nat) (D ord σ : List Nat) : Prop where
 mem : ∀ x,x ∈ ord ↔ x ∈ σ
 nd : ord.Nodup
 nds : σ.Nodup
 out : ∀ x ∈ ord,x ∉ D
 ex : ∀ x ∈ ord,x < all.length
 t1 : rC an D ord
 t2 : rC an D σ
 t3 : rC (vk all) D σ
 t4 : rC (vk all) D ord
 eager : Eager qt (vk all) ord
 loud : eH qt ord = eH qt σ
 ind : ∀ p x,p ≠ x -> p ∉ an x -> x ∉ an p -> ∀ op ox,nth all p = some op -> nth all x = some ox -> qt p = true -> EW all op ox
def Left (pins : List Nat) (all : List Oper) (rest : List (Nat × List Nat)) (σ : List Nat) : Prop :=
 ∃ (an : Nat -> List Nat) (D : List Nat),(∀ p ∈ rest,an p.1 = p.2) ∧ He (qP pins all) all an D (idxs rest) σ
section
variable {qt : Nat -> Bool} {all : List Oper} {an : Nat -> List Nat}
theorem zA {α : Type} : ∀ (l : List α) (i : Nat),nth l i = l[i]?
 | [],i => by cases i <;> rfl
 | _ :: _,0 => rfl
 | _ :: r,i + 1 => by rw [nth,zA r i]; simp
theorem iw {i : Nat} : ∀ {l : List Nat},i ∈ eH qt l ↔ i ∈ l ∧ qt i = false
 | [] => by simp [eH]
 | x :: r => by
  show i ∈ (bif qt x then eH qt r else x :: eH qt r) ↔ _
  cases h : qt x with
  | true =>
   rw [cond_true,iw (l := r),List.mem_cons]
   constructor
   ·rintro ⟨a,b⟩; exact ⟨.inr a,b⟩
   ·rintro ⟨a | a,b⟩
    ·subst a; rw [h] at b; cases b
    ·exact ⟨a,b⟩
  | false =>
   rw [cond_false,List.mem_cons,List.mem_cons,iw (l := r)]
   constructor
   ·rintro (a | ⟨a,b⟩)
    ·subst a; exact ⟨.inl rfl,h⟩
    ·exact ⟨.inr a,b⟩
   ·rintro ⟨a | a,b⟩
    ·exact .inl a
    ·exact .inr ⟨a,b⟩
theorem vI : ∀ (l r : List Nat),eH qt (l ++ r) = eH qt l ++ eH qt r
 | [],_ => rfl
 | x :: l,r => by
  show (bif qt x then eH qt (l ++ r) else x :: eH qt (l ++ r)) = (bif qt x then eH qt l else x :: eH qt l) ++ _
  rw [vI l r]
  cases qt x <;> rfl
theorem yA : ∀ {l : List Nat},l.Nodup -> (eH qt l).Nodup
 | [],h => h
 | x :: r,h => by
  have h' := List.nodup_cons.1 h
  show (bif qt x then eH qt r else x :: eH qt r).Nodup
  cases qt x
  ·exact List.nodup_cons.2 ⟨fun y => h'.1 (iw.1 y).1,yA h'.2⟩
  ·exact yA h'.2
theorem QH {a b c d : List Nat} {i : Nat} (h : a ++ i :: b = c ++ i :: d) (h1 : i ∉ a) (h2 : i ∉ c) : a = c ∧ b = d := by
 induction a generalizing c with
 | nil =>
  cases c with
  | nil => simp at h; exact ⟨rfl,h⟩
  | cons y c => simp at h; exact absurd (by rw [h.1]; exact List.mem_cons_self) h2
 | cons x a ih =>
  cases c with
  | nil => simp at h; exact absurd (by rw [h.1]; exact List.mem_cons_self) h1
  | cons y c =>
   simp at h
   obtain ⟨e1,e2⟩ := ih h.2 (fun z => h1 (List.mem_cons_of_mem _ z)) (fun z => h2 (List.mem_cons_of_mem _ z))
   exact ⟨by rw [h.1,e1],e2⟩
theorem zB {l r : List Nat} {i : Nat} (h : (l ++ i :: r).Nodup) : i ∉ l ∧ i ∉ r ∧ l.Nodup ∧ r.Nodup ∧ ∀ x ∈ l,x ∉ r := by
 rw [List.nodup_append] at h
 obtain ⟨h1,h2,h3⟩ := h
 have h4 := List.nodup_cons.1 h2
 exact ⟨fun x => h3 i x i List.mem_cons_self rfl,h4.1,h1,h4.2,fun x hx hr => h3 x hx x (List.mem_cons_of_mem _ hr) rfl⟩
theorem CB {f : Nat -> List Nat} {D l r : List Nat} {i : Nat} (h : rC f D (l ++ i :: r)) : rC f D l := fun a x b e q hq => h a x (b ++ i :: r) (by rw [e]; simp) q hq
theorem zC {f : Nat -> List Nat} {D D2 l r : List Nat} {i : Nat} (h : rC f D (l ++ i :: r)) (hD : ∀ q,q ∈ D ∨ q ∈ l ∨ q = i -> q ∈ D2) : rC f D2 r := fun a x b e q hq => by
 rcases h (l ++ i :: a) x b (by rw [e]; simp) q hq with y | y
 ·exact .inl (hD q (.inl y))
 ·rcases List.mem_append.1 y with z | z
  ·exact .inl (hD q (.inr (.inl z)))
  ·rcases List.mem_cons.1 z with z | z
   ·exact .inl (hD q (.inr (.inr z)))
   ·exact .inr z
theorem QI {D pre post σ : List Nat} {i : Nat} (h : He qt all an D (pre ++ i :: post) σ) (hi : qt i = false) (hpost : ∀ x ∈ post,i ∈ an x ∨ qt x = false) (hpre : ∀ x ∈ pre,x ∈ an i ∨ qt x = false) :
  ∃ σ1 σ2,σ = σ1 ++ i :: σ2 ∧ He qt all an D pre σ1 ∧ He qt all an (i :: (pre ++ D)) post σ2 := by
 have him : i ∈ σ := (h.mem i).1 (by simp)
 obtain ⟨σ1,σ2,rfl⟩ := List.append_of_mem him
 obtain ⟨n1,n2,n3,n4,n5⟩ := zB h.nd
 obtain ⟨m1,m2,m3,m4,m5⟩ := zB h.nds
 have hl := h.loud
 rw [vI,vI] at hl
 have ei : ∀ r,eH qt (i :: r) = i :: eH qt r := fun r => by
  show (bif qt i then eH qt r else i :: eH qt r) = _
  rw [hi]; rfl
 rw [ei,ei] at hl
 obtain ⟨l1,l2⟩ := QH hl (fun x => n1 (iw.1 x).1) (fun x => m1 (iw.1 x).1)
 have iD : i ∉ D := h.out i (by simp)
 have e1 : ∀ x,x ∈ pre ↔ x ∈ σ1 := by
  intro x
  constructor
  ·intro hx
   rcases hpre x hx with y | y
   ·rcases h.t2 σ1 i σ2 rfl x y with z | z
    ·exact absurd z (h.out x (List.mem_append.2 (.inl hx)))
    ·exact z
   ·have : x ∈ eH qt σ1 := by rw [<- l1]; exact iw.2 ⟨hx,y⟩
    exact (iw.1 this).1
  ·intro hx
   have hm := (h.mem x).2 (List.mem_append.2 (.inl hx))
   rcases List.mem_append.1 hm with y | y
   ·exact y
   ·rcases List.mem_cons.1 y with y | y
    ·exact absurd (by rw [<- y]; exact hx) m1
    ·rcases hpost x y with z | z
     ·obtain ⟨la,lb,e⟩ := List.append_of_mem hx
      rcases h.t2 la x (lb ++ i :: σ2) (by rw [e]; simp) i z with w | w
      ·exact absurd w iD
      ·exact absurd (by rw [e]; exact List.mem_append.2 (.inl w)) m1
     ·have : x ∈ eH qt pre := by rw [l1]; exact iw.2 ⟨hx,z⟩
      exact (iw.1 this).1
 have e2 : ∀ x,x ∈ post ↔ x ∈ σ2 := by
  intro x
  constructor
  ·intro hx
   have hm := (h.mem x).1 (List.mem_append.2 (.inr (List.mem_cons_of_mem _ hx)))
   rcases List.mem_append.1 hm with y | y
   ·exact absurd hx (n5 x ((e1 x).2 y))
   ·rcases List.mem_cons.1 y with y | y
    ·exact absurd (by rw [<- y]; exact hx) n2
    ·exact y
  ·intro hx
   have hm := (h.mem x).2 (List.mem_append.2 (.inr (List.mem_cons_of_mem _ hx)))
   rcases List.mem_append.1 hm with y | y
   ·exact absurd hx (m5 x ((e1 x).1 y))
   ·rcases List.mem_cons.1 y with y | y
    ·exact absurd (by rw [<- y]; exact hx) m2
    ·exact y
 have D2 : ∀ {l : List Nat},(∀ x,x ∈ pre ↔ x ∈ l) -> ∀ q,q ∈ D ∨ q ∈ l ∨ q = i -> q ∈ i :: (pre ++ D) := fun hl q hq => by
  rcases hq with y | y | y
  ·exact List.mem_cons_of_mem _ (List.mem_append.2 (.inr y))
  ·exact List.mem_cons_of_mem _ (List.mem_append.2 (.inl ((hl q).2 y)))
  ·rw [y]; exact List.mem_cons_self
 refine ⟨σ1,σ2,rfl,⟨e1,n3,m3,fun x hx => h.out x (List.mem_append.2 (.inl hx)),fun x hx => h.ex x (List.mem_append.2 (.inl hx)),CB h.t1,CB h.t2,CB h.t3,CB h.t4,?_,l1,h.ind⟩,
  ⟨e2,n4,m4,?_,fun x hx => h.ex x (List.mem_append.2 (.inr (List.mem_cons_of_mem _ hx))),zC h.t1 (D2 fun _ => Iff.rfl),zC h.t2 (D2 e1),zC h.t3 (D2 e1),zC h.t4 (D2 fun _ => Iff.rfl),?_,l2,h.ind⟩⟩
 ·intro l b r e hb p hp hq
  obtain ⟨q,q1,q2⟩ := h.eager l b (r ++ i :: post) (by rw [e]; simp) hb p (List.mem_append.2 (.inl hp)) hq
  refine ⟨q,q1,?_⟩
  obtain ⟨ra,rb,e3⟩ := List.append_of_mem hp
  rcases h.t4 (l ++ b :: ra) p (rb ++ i :: post) (by rw [e,e3]; simp) q q1 with y | y
  ·refine absurd y (h.out q ?_)
   rw [e]
   rcases List.mem_cons.1 q2 with z | z
   ·rw [z]; simp
   ·rcases List.mem_append.1 z with z | z
    ·simp [z]
    ·exact List.mem_append.2 (.inr z)
  ·rcases List.mem_append.1 y with z | z
   ·exfalso
    have nd := h.nd
    rw [e] at nd
    rw [List.append_assoc,List.nodup_append] at nd
    exact nd.2.2 q z q (by rw [List.cons_append]; exact q2) rfl
   ·rcases List.mem_cons.1 z with z | z
    ·rw [z]; exact List.mem_cons_self
    ·rw [e3]; exact List.mem_cons_of_mem _ (List.mem_append.2 (.inl z))
 ·intro x hx y
  rcases List.mem_cons.1 y with z | z
  ·exact n2 (by rw [<- z]; exact hx)
  ·rcases List.mem_append.1 z with z | z
   ·exact n5 x z hx
   ·exact h.out x (List.mem_append.2 (.inr (List.mem_cons_of_mem _ hx))) z
 ·intro l b r e hb p hp hq
  exact h.eager (pre ++ i :: l) b r (by rw [e]; simp) hb p hp hq
end
end Go.E
end
section
namespace Go.E
inductive Via (P : Program) (main : Bool) (Rl : Ow -> World -> World -> Prop) (Stop : Ow -> Frame -> List Frame -> World -> Prop) : Ow -> Frame -> List Frame -> World -> Prop
 | stop {o : Ow} {fr : Frame} {cs : List Frame} {w : World} : Stop o fr cs w -> Via P main Rl Stop o fr cs w
 | step {o : Ow} {fr fr' : Frame} {cs cs' : List Frame} {w w' : World} {es : Array Event} : stepG P main (Conc.G fr cs) w = .go (Conc.G fr' cs') w' es -> Keeps o.u w w' ->
   (∀ w2,Rl (o.grow w.heap.size w'.heap.size) w' w2 -> Via P main Rl Stop (o.grow w.heap.size w'.heap.size) fr' cs' w2) -> Via P main Rl Stop o fr cs w
def Leaves (Rl : Ow -> World -> World -> Prop) : Prop := ∀ o w w2,Rl o w w2 -> w.heap.size <= w2.heap.size ∧ ∀ b,o.s b -> w2.heap[b]? = w.heap[b]?
theorem Via.trans {P : Program} {main : Bool} {Rl : Ow -> World -> World -> Prop} {S S' : Ow -> Frame -> List Frame -> World -> Prop} {o : Ow} {fr : Frame} {cs : List Frame} {w : World} (h : Via P main Rl S o fr cs w)
  (k : ∀ o fr cs w,S o fr cs w -> Via P main Rl S' o fr cs w) : Via P main Rl S' o fr cs w := by
 induction h with
 | stop h => exact k _ _ _ _ h
 | step a b _ ih => exact .step a b fun w2 hw => ih w2 hw
theorem Ow.ext {o o' : Ow} (hu : ∀ b,o.u b ↔ o'.u b) (hs : ∀ b,o.s b ↔ o'.s b) : o = o' := by
 cases o; cases o'
 congr <;> funext b
 ·exact propext (hu b)
 ·exact propext (hs b)
theorem Ow.lg (o : Ow) (n : Nat) : o.grow n n = o := Ow.ext JU.1 JU.2
def sV (n : Nat) (o : Oper) : Bool := match o.dst with
 | some d => Nat.blt d n
 | none => true
def codeOk (n : Nat) : Code -> Bool
 | .region _ ops _ => ops.toList.all (sV n)
 | .seq a b => codeOk n a && codeOk n b
 | .cond _ a b => codeOk n a && codeOk n b
 | .block _ b => codeOk n b
 | .loop b => codeOk n b
 | _ => true
def ItR (n : Nat) : It -> Item -> Prop
 | .code c,x => x = .code c ∧ codeOk n c = true
 | .inBlock id,x => x = .inBlock id
 | .inLoop b,x => x = .inLoop b ∧ codeOk n b = true
 | .ops all rest,x => ∃ ops idx,x = .inRegion ops idx ∧ all = ops.toList ∧ ops.toList.all (sV n) = true ∧ idx.map (ops[·]?) = rest.map some
 | .drawn ..,_ => False
 | .wait ps all i rest,x => ∃ ops σ,x = .inRegion ops (i :: σ) ∧ all = ops.toList ∧ ops.toList.all (sV n) = true ∧ i < ops.size ∧ Left ps all rest σ
def EX (n : Nat) : List It -> List Item -> Prop
 | [],l => l = []
 | x :: xs,l => ∃ y ys,l = y :: ys ∧ ItR n x y ∧ EX n xs ys
def frame (f : FuncId) (tmps : Array Value) (todo : List Item) : Frame := (Conc.base f).at ⟨tmps,[]⟩ todo
def FrR (E : Env) (fr : Fr) (f : Frame) : Prop := ∃ tmps todo,f = frame fr.fn tmps todo ∧ kH E fr.tm tmps ∧ EX tmps.size fr.td todo
def xE (E : Env) : List Fr -> List Frame -> Prop
 | [],l => l = []
 | x :: xs,l => ∃ y ys,l = y :: ys ∧ FrR E x y ∧ xE E xs ys
def lq : Fr -> List Fr -> FuncId
 | c,[] => c.fn
 | _,d :: r => lq d r
theorem yB (es : List Eff) : ∀ (c : Fr) (r : List Fr) (tm : List (Nat × AV)) (td : List It),lq { fn := c.fn,tm,td } (jH es r) = lq c r
 | _,[],_,_ => rfl
 | _,d :: r,_,_ => yB es d r (jZ es d.tm) d.td
theorem iL : ∀ (c d : Fr) (r : List Fr),c.fn = d.fn -> lq c r = lq d r
 | _,_,[],h => h
 | _,_,_ :: _,_ => rfl
structure rD (X : Ctx) (o : Ow) (E : Env) (s : St) (cs0 : List Frame) (fr : Frame) (cs : List Frame) : Prop where
 ok : OK X o E s.ay
 objs : E.O = s.objs
 cur : FrR E s.cur fr
 callers : ∃ cs1,cs = cs1 ++ cs0 ∧ xE E s.callers cs1
 bx : s.bx = X.bx.map (·.1)
 root : lq s.cur s.callers = X.fn
theorem yC : ∀ (es : List Eff) (tm : List (Nat × AV)) (t : Nat),look (jZ es tm) t = (look tm t).map (eP es)
 | [],tm,t => by show look tm t = _; cases look tm t <;> rfl
 | e :: r,tm,t => by
  show look (jZ r (e.tm tm)) t = _
  rw [yC r]
  have : ∀ tm : List (Nat × AV),look (e.tm tm) t = (look tm t).map e.av := by
   intro tm
   induction tm with
   | nil => rfl
   | cons p q ih =>
    obtain ⟨j,v⟩ := p
    show (bif Nat.beq j t then some (e.av v) else look (e.tm q) t) = (bif Nat.beq j t then some v else look q t).map _
    cases Nat.beq j t
    ·exact ih
    ·rfl
  rw [this]
  cases look tm t <;> rfl
theorem kH.step {E E' : Env} {es : List Eff} {tm : List (Nat × AV)} {tmps : Array Value} (h : kH E tm tmps) (hs : Step E E' es) : kH E' (jZ es tm) tmps := by
 intro t x hx
 rw [yC] at hx
 obtain ⟨y,hy,rfl⟩ := Option.map_eq_some_iff.1 hx
 exact hs _ _ (h t y hy)
theorem FrR.step {E E' : Env} {es : List Eff} {fr : Fr} {f : Frame} (h : FrR E fr f) (hs : Step E E' es) : FrR E' { fr with tm := jZ es fr.tm } f := by
 obtain ⟨tmps,todo,h1,h2,h3⟩ := h
 exact ⟨tmps,todo,h1,h2.step hs,h3⟩
theorem xE.step {E E' : Env} {es : List Eff} (hs : Step E E' es) : ∀ {Jq : List Fr} {l : List Frame},xE E Jq l -> xE E' (jH es Jq) l
 | [],_,h => h
 | _ :: _,_,⟨y,ys,e,h1,h2⟩ => ⟨y,ys,e,h1.step hs,xE.step hs h2⟩
theorem FrR.step0 {E E' : Env} {fr : Fr} {f : Frame} (h : FrR E fr f) (hs : Step E E' []) : FrR E' fr f := h.step hs
theorem xE.step0 {E E' : Env} (hs : Step E E' []) {Jq : List Fr} {l : List Frame} (h : xE E Jq l) : xE E' Jq l := by
 have := h.step hs
 have e : jH [] Jq = Jq := by unfold jH; induction Jq with
  | nil => rfl
  | cons a q ih => simp [jZ]
 rwa [e] at this
theorem kH.put {E : Env} {tm : List (Nat × AV)} {tmps : Array Value} {v : AV} {u : Value} {dst : Option Nat} (h : kH E tm tmps) (hv : VR E v u) (hd : ∀ d,dst = some d -> d < tmps.size) : kH E (putDst dst v tm) ((Act.put ⟨tmps,[]⟩ dst u).tmps) := by
 cases dst with
 | none => exact h
 | some d =>
  have hd := hd d rfl
  intro t x hx
  show VR E x ((tmps.setIfInBounds d u).getD t undef)
  have hx : (bif Nat.beq d t then some v else look tm t) = some x := hx
  by_cases e : d = t
  ·subst e
   rw [Nat.beq_refl] at hx
   cases hx
   simpa [Array.getD,hd] using hv
  ·rw [cO e] at hx
   have := h t x hx
   rwa [show (tmps.setIfInBounds d u).getD t undef = tmps.getD t undef by simp [Array.getD_eq_getD_getElem?,Array.getElem?_setIfInBounds_ne e]]
theorem OK.rely {Rl : Ow -> World -> World -> Prop} (hR : Leaves Rl) {X : Ctx} {o : Ow} {E : Env} {ay : Nat} (h : OK X o E ay) {w2 : World} (hw : Rl o E.w w2) : OK X o { E with w := w2 } ay ∧ Step E { E with w := w2 } [] := by
 obtain ⟨h1,h2⟩ := hR o E.w w2 hw
 have same : ∀ i b,Live E i -> (E.ρ i).b = some b -> w2.heap[b]? = E.w.heap[b]? := fun i b l hb => h2 b (h.us b (h.own i b l hb).2.2.2)
 have hk : Keep E { E with w := w2 } fun _ => False := by
  refine ⟨fun b hb => ⟨hb,h2 b (h.zn b hb).2.1⟩,fun b hb => ⟨hb,h2 b (h.kept b (h.fg b hb)).2.2⟩,fun i _ ts rows wr hl => ⟨hl,rfl,fun b hb => same i b ⟨_,hl,rfl⟩ hb⟩,fun i cs hl => ⟨cs,hl,rfl⟩,fun i m hl => ⟨m,hl,rfl⟩⟩
 refine ⟨h.next hk.step (fun _ => False) (fun b hb => hb.elim (fun x => h2 b (h.zn b x).2.1) fun x => h2 b (h.kept b x).2.2) h1 (fun _ hb => hb) rfl (fun _ hb => hb) (fun _ hb => hb) h.us (Nat.le_refl _) ?_ (fun _ _ x => x.elim) (fun _ _ x => x.elim)
  (fun b hb => ⟨Nat.lt_of_lt_of_le (h.zn b hb).1 h1,(h.zn b hb).2⟩),hk.step⟩
 intro i a' hi _
 exact ⟨a',hi,(lX a').symm,fun l => ⟨rfl,fun b hb => ⟨(h.own i b ⟨a',hi,l⟩ hb).2.1,same i b ⟨a',hi,l⟩ hb⟩⟩⟩
theorem rD.rely {Rl : Ow -> World -> World -> Prop} (hR : Leaves Rl) {X : Ctx} {o : Ow} {E : Env} {s : St} {cs0 : List Frame} {fr : Frame} {cs : List Frame} (h : rD X o E s cs0 fr cs) {w2 : World} (hw : Rl o E.w w2) : rD X o { E with w := w2 } s cs0 fr cs := by
 obtain ⟨h1,h2⟩ := h.ok.rely hR hw
 obtain ⟨cs1,e,hc⟩ := h.callers
 exact ⟨h1,h.objs,h.cur.step0 h2,⟨cs1,e,hc.step0 h2⟩,h.bx,h.root⟩
end Go.E
end
section
namespace Go.E
variable {P : Program} {main : Bool} {Rl : Ow -> World -> World -> Prop} {C : kG} {X : Ctx} {o : Ow} {E : Env} {cs0 : List Frame}
theorem zD (T : fV P C) {s : St} {tmps : Array Value} {ay : Nat} (h : OK X o E ay) (ho : E.O = s.objs) (ht : kH E s.cur.tm tmps) : ∀ (l : List ResultVar) (vs : List AV),sK.go C s l = some vs ->
  ∃ vals : List Value,dw E vs vals ∧ ∀ (Q : List Value -> World -> Prop),Q vals E.w -> acc P (xk o E.w) (wF o E.w) (l.mapM fun
   | .tmp t => pure (tmps.getD t undef)
   | .cell a t => do loadVar t (<- asAddr (tmps.getD a undef))) Q E.w
 | [],vs,hg => by
  cases hg
  exact ⟨[],by unfold dw; rfl,fun Q hq => by simpa [cu] using hq⟩
 | .tmp t :: l,vs,hg => by
  unfold sK.go at hg
  split at hg
  ·rename_i v vs' h1 h2
   cases hg
   obtain ⟨vals,k1,k2⟩ := zD T h ho ht l vs' h2
   refine ⟨tmps.getD t undef :: vals,by unfold dw; exact ⟨_,_,rfl,ht t v h1,k1⟩,fun Q hq => ?_⟩
   rw [List.mapM_cons,ah]
   dsimp only
   rw [cu,ah]
   exact k2 _ hq
  ·cases hg
 | .cell a t :: l,vs,hg => by
  unfold sK.go at hg
  split at hg
  ·rename_i id off ti vs' h1 h2 h3
   split at hg
   ·rename_i cs hlo
    split at hg
    ·rename_i v hp
     cases hg
     obtain ⟨vals,k1,k2⟩ := zD T h ho ht l vs' h3
     have e := ht a _ h1
     unfold VR at e
     rw [<- ho] at hlo
     obtain ⟨cs',b,g1,g2,g3⟩ := e
     rw [hlo] at g1; cases g1
     obtain ⟨b',c,tt,f,m1,m2,m3,m4⟩ := h.obj id _ hlo
     rw [g2] at m1; cases m1
     obtain ⟨u,n1,n2⟩ := qw (P := P) (base := 0) T h2 hp m2 (by simpa [List.take_of_length_le (Nat.le_of_eq (lV m4))] using m4)
     refine ⟨u :: vals,by unfold dw; exact ⟨_,_,rfl,n1,k1⟩,fun Q hq => ?_⟩
     rw [List.mapM_cons,ah]
     dsimp only
     rw [ah,g3]
     show acc P _ _ (loadVar t ⟨b,off,none⟩) _ _
     have := n2 (xk o E.w) (wF o E.w) (fun x w => acc P (xk o E.w) (wF o E.w) (do let y <- l.mapM (fun | .tmp t => pure (tmps.getD t undef) | .cell a t => do loadVar t (<- asAddr (tmps.getD a undef))); pure (x :: y)) Q w) (.inl (h.us _ (h.own id b ⟨_,hlo,rfl⟩ g2).2.2.2)) (by
      rw [ah]; exact k2 _ hq)
     rw [Nat.zero_add] at this
     exact this
    ·cases hg
   ·cases hg
  ·rename_i id i off ti vs' h1 h2 h3
   split at hg
   ·rename_i ts rows wr ts' n hlo ha
    obtain ⟨hb,hg⟩ := bH hg
    cases hg
    simp only [Bool.and_eq_true] at hb
    obtain ⟨⟨hm,hoff⟩,hle⟩ := hb
    have hle := Nat.le_of_ble_eq_true hle
    obtain ⟨vals,k1,k2⟩ := zD T h ho ht l vs' h3
    have e := ht a _ h1
    unfold VR at e
    rw [<- ho] at hlo
    obtain ⟨ts1,JO,wr1,b,g1,g2,g3,g4,g5⟩ := e
    rw [hlo] at g1; cases g1
    have hob := h.obj id _ hlo
    unfold fE at hob
    rw [g2] at hob
    obtain ⟨c,tt,f,q1,q2,q3,q4,q5⟩ := hob
    obtain ⟨u,m1,m2⟩ := xY (P := P) (E := E) (y := 0) T ha (Nat.eq_of_beq_eq_true hm) q1 rfl (by simpa using q5) hle
    rw [Nat.eq_of_beq_eq_true hoff,Nat.add_zero] at g5
    refine ⟨u :: vals,by unfold dw; exact ⟨_,_,rfl,m1,k1⟩,fun Q hq => ?_⟩
    rw [List.mapM_cons,ah]
    dsimp only
    rw [ah,g5]
    show acc P _ _ (loadVar t ⟨b,i.toNat * ts.n,none⟩) _ _
    have := m2 (xk o E.w) (wF o E.w) (fun x w => acc P (xk o E.w) (wF o E.w) (do let y <- l.mapM (fun | .tmp t => pure (tmps.getD t undef) | .cell a t => do loadVar t (<- asAddr (tmps.getD a undef))); pure (x :: y)) Q w) (.inl (h.us _ (h.own id b ⟨_,hlo,rfl⟩ g2).2.2.2)) (by
     rw [ah]; exact k2 _ hq)
    rw [Nat.zero_add] at this
    exact this
   ·cases hg
  ·cases hg
theorem ab8 {vs : List AV} {vals : List Value} (h : dw E vs vals) : VR E (jy vs) (if h : vals.toArray.size = 1 then vals.toArray[0] else .tuple vals.toArray) := by
 match vs,vals,h with
 | [],vals,h =>
  unfold dw at h; subst h
  unfold jy VR
  exact ⟨[],by simp,by unfold dw; rfl⟩
 | [v],vals,h =>
  unfold dw at h
  obtain ⟨u,q,rfl,h1,h2⟩ := h
  unfold dw at h2; subst h2
  simpa [jy] using h1
 | v :: v' :: vs,vals,h =>
  have hl := lV h
  have : ¬ vals.toArray.size = 1 := by simp at hl ⊢; omega
  rw [dif_neg this]
  unfold jy VR
  exact ⟨vals,rfl,h⟩
theorem yD (T : fV P C) {s : St} {fn : Func} {tmps : Array Value} {ay : Nat} {vs : List AV} (h : OK X o E ay) (ho : E.O = s.objs) (ht : kH E s.cur.tm tmps) (hd : sK C fn s = some vs) :
  ∃ v,VR E (jy vs) v ∧ ∀ (Q : Value -> World -> Prop),Q v E.w -> acc P (xk o E.w) (wF o E.w) (results fn tmps) Q E.w := by
 obtain ⟨vals,h1,h2⟩ := zD (P := P) T h ho ht fn.results.toList vs hd
 refine ⟨_,ab8 h1,fun Q hq => ?_⟩
 unfold results
 rw [ah,Array.mapM_eq_mapM_toList]
 show acc P _ _ (List.toArray <$> List.mapM _ fn.results.toList) _ _
 rw [map_eq_pure_bind,ah]
 exact h2 _ hq
theorem stepG_ret {f : FuncId} {fn : Func} {tmps : Array Value} {todo : List Item} {c : Frame} {cs : List Frame} {v : Value} {w w' : World} (hf : P.funcs[f]? = some fn) (hr : (results fn tmps).run P w = .ok v w') :
  ∃ es,stepG P main (Conc.G { frame f tmps todo with mode := .returning } (c :: cs)) w = .go (Conc.G (c.finish v) cs) w' es := by
 refine ⟨seen P f ((results fn tmps).events P w #[]),?_⟩
 simp [Conc.G,stepG,unwind,doReturn,Frame.at,frame,Conc.base,hf,hr,GStep.after]
theorem yE {α : Type} {wr rd : Nat -> Prop} {s : Sem α} {w : World} {v : α} (h : acc P wr rd s (fun a w' => a = v ∧ w' = w) w) : s.run P w = .ok v w := by
 obtain ⟨a,w',h1,⟨rfl,rfl⟩,_⟩ := Lm h
 exact h1
end Go.E
end
section
namespace Go.E
section
variable {P : Program} {main : Bool} {Rl : Ow -> World -> World -> Prop} {C : kG} {Rc : ak} {R : Type} {X : Ctx} {cs0 : List Frame} {Stop : R -> Ow -> Frame -> List Frame -> World -> Prop}
def Goes (P : Program) (main : Bool) (Rl : Ow -> World -> World -> Prop) (X : Ctx) (cs0 : List Frame) (Stop : Ow -> Frame -> List Frame -> World -> Prop) (s : St) : Prop :=
 ∀ o E fr cs,rD X o E s cs0 fr cs -> Via P main Rl Stop o fr cs E.w
theorem lI {n : Nat} {x : It} {xs : List It} {y : Item} {ys : List Item} (h : ItR n x y) (h' : EX n xs ys) : EX n (x :: xs) (y :: ys) := ⟨y,ys,rfl,h,h'⟩
theorem qc (hR : Leaves Rl) {S : Ow -> Frame -> List Frame -> World -> Prop} {s : St} {td : List It} (hn : Goes P main Rl X cs0 S (qj s td))
  (hst : ∀ (tmps : Array Value) (todo : List Item),EX tmps.size s.cur.td todo -> ∃ todo',EX tmps.size td todo' ∧ ∀ cs w,∃ es,stepG P main (Conc.G (frame s.cur.fn tmps todo) cs) w = .go (Conc.G (frame s.cur.fn tmps todo') cs) w es) : Goes P main Rl X cs0 S s := by
 intro o E fr cs h
 obtain ⟨tmps,todo,rfl,h1,h2⟩ := h.cur
 obtain ⟨todo',h3,h4⟩ := hst tmps todo h2
 obtain ⟨es,h5⟩ := h4 cs E.w
 refine .step h5 (Keeps.refl _ _) fun w2 hw => ?_
 rw [Ow.lg] at hw ⊢
 have h' : rD X o E (qj s td) cs0 (frame s.cur.fn tmps todo') cs := ⟨h.ok,h.objs,⟨tmps,todo',rfl,h1,h3⟩,h.callers,h.bx,(iL { s.cur with td } s.cur s.callers rfl).trans h.root⟩
 exact hn _ _ _ _ (h'.rely hR hw)
theorem DW {n id : Nat} : ∀ {k k' : List It} {todo : List Item},wu id k = some k' -> EX n k todo -> ∃ todo',exitTo id todo = some todo' ∧ EX n k' todo'
 | [],k',todo,h,_ => by cases h
 | .inBlock j :: k,k',todo,h,ht => by
  obtain ⟨y,ys,rfl,e,h2⟩ := ht
  have e : y = .inBlock j := e
  subst e
  have h : (bif Nat.beq j id then some k else wu id k) = some k' := h
  show ∃ todo',(if j == id then some ys else exitTo id ys) = some todo' ∧ _
  by_cases x : j = id
  ·subst x
   rw [Nat.beq_refl] at h; cases h
   exact ⟨ys,by simp,h2⟩
  ·rw [cO x] at h
   obtain ⟨t,k1,k2⟩ := DW h h2
   exact ⟨t,by simp [x,k1],k2⟩
 | .code c :: k,k',todo,h,ht => by
  obtain ⟨y,ys,rfl,⟨rfl,_⟩,h2⟩ := ht
  obtain ⟨t,k1,k2⟩ := DW (k := k) h h2
  exact ⟨t,k1,k2⟩
 | .inLoop c :: k,k',todo,h,ht => by
  obtain ⟨y,ys,rfl,⟨rfl,_⟩,h2⟩ := ht
  obtain ⟨t,k1,k2⟩ := DW (k := k) h h2
  exact ⟨t,k1,k2⟩
 | .drawn _ _ _ _ _ :: k,k',todo,h,ht => by
  obtain ⟨y,ys,rfl,e,h2⟩ := ht
  exact e.elim
 | .wait _ _ _ _ :: k,k',todo,h,ht => by
  obtain ⟨y,ys,rfl,⟨_,_,rfl,_⟩,h2⟩ := ht
  obtain ⟨t,k1,k2⟩ := DW (k := k) h h2
  exact ⟨t,k1,k2⟩
 | .ops a b :: k,k',todo,h,ht => by
  obtain ⟨y,ys,rfl,⟨_,_,rfl,_⟩,h2⟩ := ht
  obtain ⟨t,k1,k2⟩ := DW (k := k) h h2
  exact ⟨t,k1,k2⟩
theorem QJ {o : Ow} {E : Env} {s : St} {fr : Frame} {cs : List Frame} {d : Nat} {b : Bool} (h : rD X o E s cs0 fr cs) (hb : look s.cur.tm d = some (.bool b)) : rD X o E (know s d b) cs0 fr cs := by
 obtain ⟨tmps,todo,h1,h2,h3⟩ := h.cur
 refine ⟨h.ok,h.objs,⟨tmps,todo,h1,fun t x hx => ?_,h3⟩,h.callers,h.bx,(iL { s.cur with tm := (d,.bool b) :: s.cur.tm } s.cur s.callers rfl).trans h.root⟩
 have hx : (bif Nat.beq d t then some (AV.bool b) else look s.cur.tm t) = some x := hx
 by_cases e : d = t
 ·subst e; rw [Nat.beq_refl] at hx; cases hx; exact h2 d _ hb
 ·rw [cO e] at hx; exact h2 t x hx
theorem WA {o : Ow} {E : Env} {s : St} {fr : Frame} {cs : List Frame} {c : Operand} {b : Bool} (h : rD X o E s cs0 fr cs) (hb : ev s.cur.tm c = some (.bool b)) : rD X o E (pF s c b) cs0 fr cs := by
 cases c with
 | tmp t => exact QJ h hb
 | _ => exact h
theorem UM (ops : Array Oper) : (List.range ops.size).map (ops[·]?) = ops.toList.map some := by
 apply List.ext_getElem
 ·simp
 ·intro i h1 h2
  have : i < ops.size := by simpa using h1
  simp [this]
theorem Oe {E : Env} {tm : List (Nat × AV)} {tmps : Array Value} {ops : Array Oper} {o : Oper} (ht : kH E tm tmps) (hops : ops.toList.all (sV tmps.size) = true) :
  (∀ {d : Nat} {b w : Bool},wanted ops.toList tm o = some (.hang d b w) -> look tm d = some (.bool b) ∧ Region.wanted o (yielded ops tmps) = (b == w)) ∧ (wanted ops.toList tm o = some .yes -> Region.wanted o (yielded ops tmps) = true) ∧ (wanted ops.toList tm o = some .no -> Region.wanted o (yielded ops tmps) = false) := by
 have ab9 : ∀ (l : List Oper) (j : Nat),nth l j = l[j]? := by
  intro l; induction l with
  | nil => intro j; cases j <;> rfl
  | cons a l ih => intro j; cases j with
   | zero => rfl
   | succ j => exact ih j
 unfold wanted Region.wanted
 cases hg : o.guard with
 | none => exact ⟨fun h => (by cases h),fun _ => rfl,fun h => (by cases h)⟩
 | some g =>
  obtain ⟨j,w'⟩ := g
  dsimp only
  rw [ab9]
  have ey : ∀ (oj : Oper) (d : Nat) (v : AV),ops.toList[j]? = some oj -> oj.dst = some d -> look tm d = some v -> ∃ u,VR E v u ∧ yielded ops tmps j = match u with | .bool b => some b | _ => none := by
   intro oj d v h1 h2 h3
   have hd : d < tmps.size := by
    have := List.all_eq_true.1 hops oj (List.mem_of_getElem? h1)
    unfold sV at this
    rw [h2] at this
    exact Nat.le_of_ble_eq_true this
   refine ⟨_,ht d v h3,?_⟩
   unfold yielded
   rw [<- Array.getElem?_toList,h1]
   have hget : tmps.getD d undef = tmps[d] := by simp [Array.getD,hd]
   rw [hget]
   simp only [Option.bind_some,h2]
   rw [Array.getElem?_eq_getElem hd]
   cases tmps[d] <;> rfl
  split
  ·rename_i oj h1
   split
   ·rename_i d h2
    split
    ·rename_i b h3
     obtain ⟨u,k1,k2⟩ := ey oj d _ h1 h2 h3
     unfold VR at k1; subst k1
     refine ⟨fun h => ?_,fun h => (by cases h),fun h => (by cases h)⟩
     cases h
     refine ⟨h3,?_⟩
     rw [k2]
     cases b <;> cases w' <;> rfl
    ·rename_i h3
     obtain ⟨u,k1,k2⟩ := ey oj d _ h1 h2 h3
     unfold VR at k1; subst k1
     refine ⟨fun h => (by cases h),fun h => (by cases h),fun _ => ?_⟩
     rw [k2]; rfl
    ·exact ⟨fun h => (by cases h),fun h => (by cases h),fun h => (by cases h)⟩
   ·exact ⟨fun h => (by cases h),fun h => (by cases h),fun h => (by cases h)⟩
  ·exact ⟨fun h => (by cases h),fun h => (by cases h),fun h => (by cases h)⟩
end
end Go.E
end
section
namespace Go.E
section
variable {P : Program} {main : Bool} {Rl : Ow -> World -> World -> Prop} {C : kG} {Rc : ak} {R : Type} {X : Ctx} {cs0 : List Frame} {S : Ow -> Frame -> List Frame -> World -> Prop}
theorem F9 {o' : Ow} {E E' : Env} {s : St} {cs : List Frame} {tmps : Array Value} {todo : List Item} {dst : Option Nat} {rest : List It} {v : AV} {u : Value} {O1 : bD} {dP : Nat} {es : List Eff}
  (ht : kH E s.cur.tm tmps) (hcs : ∃ cs1,cs = cs1 ++ cs0 ∧ xE E s.callers cs1) (hbx : s.bx = X.bx.map (·.1)) (hroot : lq s.cur s.callers = X.fn) (hO : E'.O = dh es O1) (hok : OK X o' E' dP) (hs : Step E E' es) (hv : VR E' v u) (hd : ∀ d,dst = some d -> d < tmps.size)
  (htd : EX ((Act.put ⟨tmps,[]⟩ dst u).tmps).size rest todo) : rD X o' E' (after s dst rest v O1 dP es) cs0 (frame s.cur.fn ((Act.put ⟨tmps,[]⟩ dst u).tmps) todo) cs := by
 obtain ⟨cs1,e,hc⟩ := hcs
 cases es with
 | nil => exact ⟨hok,hO,⟨_,_,rfl,kH.put (E := E') (ht.step hs) hv hd,htd⟩,⟨cs1,e,hc.step0 hs⟩,hbx,(iL { s.cur with tm := putDst dst v s.cur.tm,td := rest } s.cur s.callers rfl).trans hroot⟩
 | cons x r => exact ⟨hok,hO,⟨_,_,rfl,kH.put (ht.step hs) hv hd,htd⟩,⟨cs1,e,hc.step hs⟩,hbx,(yB (x :: r) s.cur s.callers _ _).trans hroot⟩
theorem put_defers (tmps : Array Value) (dst : Option Nat) (u : Value) : Act.put ⟨tmps,[]⟩ dst u = ⟨(Act.put ⟨tmps,[]⟩ dst u).tmps,[]⟩ := by cases dst <;> rfl
theorem yF (tmps : Array Value) (dst : Option Nat) (u : Value) : (Act.put ⟨tmps,[]⟩ dst u).tmps.size = tmps.size := by cases dst <;> simp [Act.put]
theorem SX {n : Nat} {all : List Oper} {op : Oper} {rest : List Oper} {k : List It} {todo : List Item} (h : EX n (.ops all (op :: rest) :: k) todo) :
  ∃ ops i idx todo',todo = .inRegion ops (i :: idx) :: todo' ∧ all = ops.toList ∧ ops.toList.all (sV n) = true ∧ ops[i]? = some op ∧ (∀ d,op.dst = some d -> d < n) ∧ EX n (.ops all rest :: k) (.inRegion ops idx :: todo') ∧ EX n k todo' := by
 obtain ⟨y,ys,rfl,⟨ops,idx,rfl,rfl,hok,hi⟩,h2⟩ := h
 cases idx with
 | nil => simp at hi
 | cons i idx =>
  simp only [List.map_cons,List.cons.injEq] at hi
  refine ⟨ops,i,idx,ys,rfl,rfl,hok,hi.1,fun d hd => ?_,⟨_,_,rfl,⟨ops,idx,rfl,rfl,hok,hi.2⟩,h2⟩,h2⟩
  have hm : op ∈ ops.toList := by
   have := hi.1
   rw [<- Array.getElem?_toList] at this
   exact List.mem_of_getElem? this
  have := List.all_eq_true.1 hok op hm
  unfold sV at this
  rw [hd] at this
  exact Nat.le_of_ble_eq_true this
theorem adY (hR : Leaves Rl) {s : St} {all : List Oper} {op : Oper} {rest : List Oper} {k : List It} {o : Ow} {E : Env} {tmps : Array Value} {todo : List Item} {cs : List Frame} {ops : Array Oper} {i : Nat} {idx : List Nat} {todo' : List Item}
  (h : rD X o E s cs0 (frame s.cur.fn tmps todo) cs) (ht : kH E s.cur.tm tmps) (e : todo = .inRegion ops (i :: idx) :: todo') (hi : ops[i]? = some op) (hd : ∀ d,op.dst = some d -> d < tmps.size) (htd : EX tmps.size (.ops all rest :: k) (.inRegion ops idx :: todo'))
  (hw : Region.wanted op (yielded ops tmps) = true) {K : KK R} {r : R} (hdo : Does P X o E (Act.eval ⟨tmps,[]⟩) op K r)
  (hK : ∀ v O1 dP es,K v O1 dP es = some r -> Goes P main Rl X cs0 S (after s op.dst (.ops all rest :: k) v O1 dP es)) : Via P main Rl S o (frame s.cur.fn tmps todo) cs E.w := by
 obtain ⟨v,O1,dP,es,hk,hacc⟩ := hdo
 obtain ⟨nx,w',hrun,⟨E',hE,hF,hO,hok,hs,hv⟩,hkeep⟩ := Lm hacc
 subst e
 have keep : Keeps o.u E.w w' := hkeep.weaken fun b hb hw => hw.elim id fun x => absurd hb (Nat.not_lt.2 x)
 have fin : ∀ u,VR E' v u -> (∃ evs,stepG P main (Conc.G (frame s.cur.fn tmps (.inRegion ops (i :: idx) :: todo')) cs) E.w = .go (Conc.G (frame s.cur.fn ((Act.put ⟨tmps,[]⟩ op.dst u).tmps) (.inRegion ops idx :: todo')) cs) w' evs) -> Via P main Rl S o (frame s.cur.fn tmps (.inRegion ops (i :: idx) :: todo')) cs E.w := by
  intro u hu ⟨evs,hst⟩
  refine .step hst keep fun w2 hw2 => ?_
  have hst' := F9 (cs0 := cs0) (todo := .inRegion ops idx :: todo') (rest := .ops all rest :: k) (v := v) (u := u) (dst := op.dst) ht h.callers h.bx h.root hO hok hs hu hd (by rw [yF]; exact htd)
  subst hE
  exact hK v O1 dP es hk _ _ _ _ (hst'.rely hR hw2)
 rcases hv with ⟨rfl,rfl⟩ | ⟨u,rfl,hu⟩
 ·have := Conc.stepG_none (main := main) (b := Conc.base s.cur.fn) (a := ⟨tmps,[]⟩) (k := todo') (cs := cs) (rest := idx) hi hw (fun x => by cases x) hrun
  rw [put_defers] at this
  exact fin undef (by unfold VR; rfl) ⟨_,this⟩
 ·have := Conc.stepG_value (main := main) (b := Conc.base s.cur.fn) (a := ⟨tmps,[]⟩) (k := todo') (cs := cs) (rest := idx) hi hw (fun x => by cases x) hrun
  rw [put_defers] at this
  exact fin u hu ⟨_,this⟩
theorem Gf (hR : Leaves Rl) {s : St} {all : List Oper} {op : Oper} {rest : List Oper} {k : List It} {o : Ow} {E : Env} {tmps : Array Value} {todo : List Item} {cs : List Frame} {ops : Array Oper} {i : Nat} {idx : List Nat} {todo' : List Item}
  (h : rD X o E s cs0 (frame s.cur.fn tmps todo) cs) (ht : kH E s.cur.tm tmps) (e : todo = .inRegion ops (i :: idx) :: todo') (hi : ops[i]? = some op) (hd : ∀ d,op.dst = some d -> d < tmps.size) (htd : EX tmps.size (.ops all rest :: k) (.inRegion ops idx :: todo'))
  (hw : Region.wanted op (yielded ops tmps) = false) (hK : Goes P main Rl X cs0 S (after s op.dst (.ops all rest :: k) .undef s.objs s.ay [])) : Via P main Rl S o (frame s.cur.fn tmps todo) cs E.w := by
 subst e
 have hst : stepG P main (Conc.G (frame s.cur.fn tmps (.inRegion ops (i :: idx) :: todo')) cs) E.w = .go (Conc.G (frame s.cur.fn ((Act.put ⟨tmps,[]⟩ op.dst undef).tmps) (.inRegion ops idx :: todo')) cs) E.w #[] := by
  have hf : (frame s.cur.fn tmps (.inRegion ops (i :: idx) :: todo')).finish undef = frame s.cur.fn ((Act.put ⟨tmps,[]⟩ op.dst undef).tmps) (.inRegion ops idx :: todo') := by
   unfold frame
   rw [Frame.finish_at,hi]
   show (Conc.base s.cur.fn).at (Act.put ⟨tmps,[]⟩ op.dst undef) _ = _
   rw [put_defers]
  rw [<- hf]
  have hw' : ((ops[i]?).map (Region.wanted · (yielded ops tmps))).getD false = false := by rw [hi]; exact hw
  simp [Conc.G,stepG,stepG.exec,frame,Frame.at,Conc.base,hw']
 refine .step hst (Keeps.refl _ _) fun w2 hw2 => ?_
 rw [Ow.lg] at hw2 ⊢
 have hst' := F9 (cs0 := cs0) (E' := E) (o' := o) (todo := .inRegion ops idx :: todo') (rest := .ops all rest :: k) (v := .undef) (u := undef) (dst := op.dst) (O1 := s.objs) (es := []) ht h.callers h.bx h.root (h.objs) h.ok (Step.refl E) (by unfold VR; rfl) hd (by rw [yF]; exact htd)
 exact hK _ _ _ _ (hst'.rely hR hw2)
theorem jP {n m : Nat} (h : n <= m) : ∀ (c : Code),codeOk n c = true -> codeOk m c = true
 | .region _ ops dr,hc => by
  unfold codeOk at hc ⊢
  rw [List.all_eq_true] at hc ⊢
  intro o ho
  have := hc o ho
  unfold sV at this ⊢
  cases hd : o.dst with
  | none => rfl
  | some d =>
   rw [hd] at this
   exact Nat.ble_eq_true_of_le (Nat.le_trans (Nat.le_of_ble_eq_true this) h)
 | .seq a b,hc => by
  unfold codeOk at hc ⊢
  simp only [Bool.and_eq_true] at hc ⊢
  exact ⟨jP h a hc.1,jP h b hc.2⟩
 | .cond _ a b,hc => by
  unfold codeOk at hc ⊢
  simp only [Bool.and_eq_true] at hc ⊢
  exact ⟨jP h a hc.1,jP h b hc.2⟩
 | .block _ b,hc => by unfold codeOk at hc ⊢; exact jP h b hc
 | .loop b,hc => by unfold codeOk at hc ⊢; exact jP h b hc
 | .skip,_ | .rangeFunc ..,_ | .exit _,_ | .scope _,_ | .label _,_ | .goto _,_ | .ret,_ | .refuse _,_ => rfl
theorem Hf : ∀ (vs : List AV) (n t : Nat),look (vg vs n) t = if n <= t then vs[t - n]? else none
 | [],n,t => by show none = _; split <;> simp
 | v :: r,n,t => by
  show (bif Nat.beq n t then some v else look (vg r (n + 1)) t) = _
  by_cases e : n = t
  ·subst e; simp
  ·rw [cO e,cond_false,Hf r]
   by_cases h : n <= t
   ·rw [if_pos h,if_pos (by omega),show t - n = (t - (n + 1)) + 1 by omega]; rfl
   ·rw [if_neg h,if_neg (by omega)]
theorem LG {E : Env} {vs : List AV} {vals : List Value} {pad : Array Value} (h : dw E vs vals) : kH E (vg vs 0) (vals.toArray ++ pad) := by
 intro t x hx
 rw [Hf,if_pos (Nat.zero_le _),Nat.sub_zero] at hx
 have ab9 : nth vs t = some x := by
  clear h
  induction vs generalizing t with
  | nil => simp at hx
  | cons a l ih => cases t with
   | zero => simpa [nth] using hx
   | succ t => exact ih t (by simpa using hx)
 obtain ⟨v,h1,h2⟩ := Lp h ab9
 have hlt : t < vals.length := by
  rcases Nat.lt_or_ge t vals.length with q | q
  ·exact q
  ·rw [List.getElem?_eq_none q] at h1; cases h1
 have : (vals.toArray ++ pad).getD t undef = v := by
  rw [List.getElem?_eq_getElem hlt] at h1
  cases h1
  have hs : t < vals.toArray.size := by simpa using hlt
  simp [Array.getD,hlt]
  omega
 rw [this]; exact h2
end
end Go.E
end
section
namespace Go.E
section
variable {P : Program} {main : Bool} {Rl : Ow -> World -> World -> Prop} {C : kG} {Rc : ak} {R : Type} {X : Ctx} {cs0 : List Frame} {Stop : R -> Ow -> Frame -> List Frame -> World -> Prop} {Rt : St -> Option R} {fin : List AV -> St -> Option R}
theorem Hg {s : St} {o : Oper} {g : FuncId} {vs : List AV} {body : Code} (h : SA C s o = some (g,vs,body)) : ∃ fn,callee C s.cur.tm o.op = some (g,vs) ∧ look C.fns g = some fn ∧ fn.body = some body := by
 unfold SA at h
 split at h
 ·rename_i g' vs' hc
  split at h
  ·cases h
  ·split at h
   ·rename_i fn h3
    split at h
    ·rename_i c h4
     cases h
     exact ⟨fn,hc,h3,h4⟩
    ·cases h
   ·cases h
 ·cases h
theorem CG {wr rd : Nat -> Prop} {w : World} {g : FuncId} {fn : Func} {body : Code} {args : Array Value} (f1 : P.funcs[g]? = some fn) (f2 : (fn.name == "runtime.NumGoroutine") = false) (hb : fn.body = some body) {Q : Next -> World -> Prop} (hq : Q (.enter g args) w) : acc P wr rd (callFunc g args) Q w := by
 unfold callFunc
 rw [ah]
 show acc P _ _ (match P.funcs[g]? with | none => _ | some fn => _) _ _
 rw [f1]
 dsimp only
 rw [f2]
 simp only [Bool.false_eq_true,if_false,hb,Option.isNone]
 exact hq
theorem QK {wr rd : Nat -> Prop} {w : World} {t : TypeId} {m : String} {g : FuncId} (h : GU P t m g = true) {v : Value} {Q : FuncId × Value -> World -> Prop} (hq : Q (g,v) w) (n : Nat) : acc P wr rd (method (n + 1) t v m) Q w := by
 unfold GU at h
 split at h
 ·rename_i i hi
  split at h
  ·rename_i r hr
   rw [Bool.and_eq_true] at h
   obtain ⟨hp,h⟩ := h
   have hp : r.path.toList = [] := List.isEmpty_iff.1 hp
   split at h
   ·rename_i f pr hf
    rw [Bool.and_eq_true] at h
    obtain ⟨hg,h⟩ := h
    have hg := Nat.eq_of_beq_eq_true hg
    subst hg
    unfold method
    rw [ah,kM hi,hr]
    dsimp only
    rw [hp]
    unfold follow
    rw [ah,cu]
    dsimp only
    rw [hf]
    dsimp only
    rw [ah]
    unfold receiverAt
    split at h
    ·rename_i e hu
     subst h
     rw [ah,aF hu]
     exact hq
    ·rename_i d hne hu
     have h : pr = false := by simpa using h
     subst h
     rw [ah,aF hu]
     cases d <;> first | exact hq | exact absurd rfl (hne _)
    ·cases h
   ·cases h
  ·cases h
 ·cases h
theorem WB (a : Value) (b : Array Value) : (#[a] ++ b)[0]? = some a := by simp [Array.getElem?_append]
theorem UN (a : Value) (b : Array Value) : (#[a] ++ b).extract 1 (#[a] ++ b).size = b := by
 have : #[a] ++ b = ⟨a :: b.toList⟩ := by apply Array.ext'; simp
 rw [this]
 apply Array.ext'
 simp only [Array.toList_extract,List.extract_eq_take_drop,List.drop_succ_cons,List.drop_zero]
 exact List.take_of_length_le (by simp)
theorem Og (T : fV P C) {tm : List (Nat × AV)} {tmps : Array Value} {op : Oper} {g : FuncId} {vs : List AV} (h : callee C tm op.op = some (g,vs)) {E0 : Env} (ht0 : kH E0 tm tmps) {fn : Func} {body : Code} (hfn : look C.fns g = some fn) (hb : fn.body = some body) :
  ∃ vals : List Value,(∀ w,(execOp (Act.eval ⟨tmps,[]⟩) op).run P w = .ok (.enter g vals.toArray) w) ∧ ∀ E,kH E tm tmps -> dw E vs vals := by
 obtain ⟨f1,f2⟩ := T.fns g fn hfn
 unfold callee at h
 split at h
 ·rename_i f args tys hop
  split at h
  ·rename_i g' a b us h1 h2
   cases h
   have e1 := dO (a := ⟨tmps,[]⟩) ht0 h1
   unfold VR at e1
   obtain ⟨x,y,e1,_,_⟩ := e1
   refine ⟨x ++ (args.toList.map (Act.eval ⟨tmps,[]⟩) ++ y),fun w => ?_,fun E ht => ?_⟩
   ·have hl : (x.toArray ++ args.map (Act.eval ⟨tmps,[]⟩) ++ y.toArray) = (x ++ (args.toList.map (Act.eval ⟨tmps,[]⟩) ++ y)).toArray := by
     apply Array.ext'; simp
    rw [<- hl]
    refine yE (wr := fun _ => False) (rd := fun _ => False) ?_
    unfold execOp
    rw [hop]
    dsimp only
    rw [ah]
    unfold resolve
    dsimp only
    rw [e1]
    unfold Deferred.ofValue
    dsimp only
    rw [cu]
    unfold invoke
    dsimp only
    exact CG f1 f2 hb ⟨rfl,rfl⟩
   ·have q1 := dO (a := ⟨tmps,[]⟩) ht h1
    have q2 := AB (a := ⟨tmps,[]⟩) ht h2
    unfold VR at q1
    obtain ⟨x',y',q1,ex',ey'⟩ := q1
    rw [e1] at q1
    have hxx : x = x' ∧ y = y' := by
     simp only [Value.func.injEq] at q1
     exact ⟨by simpa using congrArg Array.toList q1.2.1,by simpa using congrArg Array.toList q1.2.2⟩
    obtain ⟨rfl,rfl⟩ := hxx
    exact pK ex' (pK q2 ey')
  ·cases h
 ·rename_i x m args tys hop
  split at h
  ·rename_i t v us h1 h2
   split at h
   ·rename_i g' hm
    cases h
    have e1 := dO (a := ⟨tmps,[]⟩) ht0 h1
    unfold VR at e1
    obtain ⟨v',e1,_⟩ := e1
    refine ⟨v' :: args.toList.map (Act.eval ⟨tmps,[]⟩),fun w => ?_,fun E ht => ?_⟩
    ·refine yE (wr := fun _ => False) (rd := fun _ => False) ?_
     unfold execOp
     rw [hop]
     dsimp only
     rw [ah]
     unfold resolve
     dsimp only
     rw [cu,e1]
     dsimp only
     unfold invoke
     dsimp only
     rw [WB]
     dsimp only
     unfold callMethod
     dsimp only
     rw [ah]
     show acc P _ _ (program) _ _
     show acc P (fun _ => False) (fun _ => False) (method (P.types.size + Made.depth) t v' m >>= _) _ _
     rw [ah]
     refine QK (T.meth t m g hm) ?_ (P.types.size + 99)
     dsimp only
     rw [UN]
     have eb : #[v'] ++ args.map (Act.eval ⟨tmps,[]⟩) = (v' :: args.toList.map (Act.eval ⟨tmps,[]⟩)).toArray := by
      apply Array.ext'
      simp
     rw [eb]
     exact CG f1 f2 hb ⟨rfl,rfl⟩
    ·have q1 := dO (a := ⟨tmps,[]⟩) ht h1
     have q2 := AB (a := ⟨tmps,[]⟩) ht h2
     unfold VR at q1
     obtain ⟨v1,q1,q3⟩ := q1
     rw [e1] at q1
     cases q1
     unfold dw
     exact ⟨_,_,rfl,q3,q2⟩
   ·cases h
  ·cases h
 ·cases h
theorem SY (T : fV P C) (hcode : ∀ g fn c,look C.fns g = some fn -> fn.body = some c -> codeOk fn.ntmps c = true) (hR : Leaves Rl) {S : Ow -> Frame -> List Frame -> World -> Prop} {s : St} {op : Oper} {o : Ow} {E : Env} {tmps : Array Value} {todo : List Item} {cs : List Frame} {ops : Array Oper} {i : Nat} {idx : List Nat} {todo' : List Item}
  (h : rD X o E s cs0 (frame s.cur.fn tmps todo) cs) (ht : kH E s.cur.tm tmps) (e : todo = .inRegion ops (i :: idx) :: todo') (hi : ops[i]? = some op) (htd : EX tmps.size s.cur.td todo) (hw : Region.wanted op (yielded ops tmps) = true) {g : FuncId} {vs : List AV} {body : Code} (hg : SA C s op = some (g,vs,body))
  (hK : Goes P main Rl X cs0 S { s with cur := { fn := g,tm := vg vs 0,td := [.code body] },callers := s.cur :: s.callers }) : Via P main Rl S o (frame s.cur.fn tmps todo) cs E.w := by
 obtain ⟨fn,FV,h3,h4⟩ := Hg hg
 obtain ⟨f1,f2⟩ := T.fns g fn h3
 obtain ⟨vals,hrun,hvs⟩ := Og T FV ht h3 h4
 have hvs := hvs E ht
 subst e
 have hst := Conc.stepG_enter (main := main) (b := Conc.base s.cur.fn) (a := ⟨tmps,[]⟩) (k := todo') (cs := cs) (rest := idx) hi hw (fun x => by cases x) (hrun E.w)
 rw [Conc.enter_at _ f1 h4] at hst
 refine .step hst (Keeps.refl _ _) fun w2 hw2 => ?_
 rw [Ow.lg] at hw2 ⊢
 obtain ⟨cs1,ec,hc⟩ := h.callers
 have h' : rD X o E { s with cur := { fn := g,tm := vg vs 0,td := [.code body] },callers := s.cur :: s.callers } cs0
   (frame g (vals.toArray ++ Array.replicate (fn.ntmps - vals.toArray.size) undef) [.code body])
   (frame s.cur.fn tmps (.inRegion ops (i :: idx) :: todo') :: cs) := by
  refine ⟨h.ok,h.objs,⟨_,_,rfl,LG hvs,?_⟩,⟨frame s.cur.fn tmps (.inRegion ops (i :: idx) :: todo') :: cs1,by rw [ec]; rfl,?_⟩,h.bx,h.root⟩
  ·refine lI ⟨rfl,jP ?_ body (hcode g fn body h3 h4)⟩ rfl
   simp only [Array.size_append,Array.size_replicate]; omega
  ·exact ⟨_,_,rfl,⟨tmps,_,rfl,ht,htd⟩,hc⟩
 exact hK _ _ _ _ (h'.rely hR hw2)
theorem WC (T : fV P C) (hR : Leaves Rl) {S : Ow -> Frame -> List Frame -> World -> Prop} {s : St} {o : Ow} {E : Env} {tmps : Array Value} {todo : List Item} {cs : List Frame} {fn : Func} {vs : List AV} (h : rD X o E s cs0 (frame s.cur.fn tmps todo) cs) (ht : kH E s.cur.tm tmps)
  (hend : todo = [] ∨ ∃ k,todo = .code .ret :: k) (hfn : look C.fns s.cur.fn = some fn) (hd : sK C fn s = some vs) {c : Fr} {xu : List Fr} {all : List Oper} {op : Oper} {rest : List Oper} {k : List It} (hcs : s.callers = c :: xu) (LH : c.td = .ops all (op :: rest) :: k)
  (hK : Goes P main Rl X cs0 S { s with cur := { c with tm := putDst op.dst (jy vs) c.tm,td := .ops all rest :: k },callers := xu }) : Via P main Rl S o (frame s.cur.fn tmps todo) cs E.w := by
 have hst : stepG P main (Conc.G (frame s.cur.fn tmps todo) cs) E.w = .go (Conc.G { frame s.cur.fn tmps todo with mode := .returning } cs) E.w #[] := by
  rcases hend with rfl | ⟨k,rfl⟩ <;> simp [Conc.G,stepG,stepG.exec,frame,Frame.at,Conc.base]
 refine .step hst (Keeps.refl _ _) fun w2 hw2 => ?_
 rw [Ow.lg] at hw2 ⊢
 have h2 := h.rely hR hw2
 obtain ⟨_,hs2⟩ := h.ok.rely hR hw2
 have ht2 : kH { E with w := w2 } s.cur.tm tmps := by have := ht.step hs2; simpa [jZ] using this
 obtain ⟨v,hv,hacc⟩ := yD (P := P) T h2.ok h2.objs ht2 hd
 have hrun := yE (hacc _ ⟨rfl,rfl⟩)
 obtain ⟨f1,_⟩ := T.fns _ fn hfn
 obtain ⟨cs1,ec,hc⟩ := h2.callers
 rw [hcs] at hc
 obtain ⟨y,ys,rfl,hy,hys⟩ := hc
 obtain ⟨ct,ctd,rfl,hct,Oh⟩ := hy
 rw [LH] at Oh
 obtain ⟨ops,i,idx,todo',rfl,rfl,hok,hi,hdst,htd,akt⟩ := SX Oh
 rw [List.cons_append] at ec
 subst ec
 obtain ⟨es,hst2⟩ := stepG_ret (main := main) (todo := todo) (c := frame c.fn ct (.inRegion ops (i :: idx) :: todo')) (cs := ys ++ cs0) f1 hrun
 have hf : (frame c.fn ct (.inRegion ops (i :: idx) :: todo')).finish v = frame c.fn ((Act.put ⟨ct,[]⟩ op.dst v).tmps) (.inRegion ops idx :: todo') := by
  unfold frame
  rw [Frame.finish_at,hi]
  show (Conc.base c.fn).at (Act.put ⟨ct,[]⟩ op.dst v) _ = _
  rw [put_defers]
 rw [hf] at hst2
 refine .step hst2 (Keeps.refl _ _) fun w3 hw3 => ?_
 rw [Ow.lg] at hw3 ⊢
 have h3 : rD X o { E with w := w2 } { s with cur := { c with tm := putDst op.dst (jy vs) c.tm,td := .ops ops.toList rest :: k },callers := xu } cs0 (frame c.fn ((Act.put ⟨ct,[]⟩ op.dst v).tmps) (.inRegion ops idx :: todo')) (ys ++ cs0) :=
  ⟨h2.ok,h2.objs,⟨_,_,rfl,hct.put hv hdst,by rw [yF]; exact htd⟩,⟨ys,rfl,hys⟩,h2.bx,by have := h2.root; rw [hcs] at this; exact (iL { c with tm := putDst op.dst (jy vs) c.tm,td := .ops ops.toList rest :: k } c xu rfl).trans this⟩
 exact hK _ _ _ _ (h3.rely hR hw3)
end
end Go.E
end
section
namespace Go.E
section
variable {P : Program} {main : Bool} {Rl : Ow -> World -> World -> Prop} {C : kG} {Rc : ak} {R : Type} {X : Ctx} {cs0 : List Frame} {Stop : R -> Ow -> Frame -> List Frame -> World -> Prop} {Rt : St -> Option R} {fin : List AV -> St -> Option R}
structure Hl (P : Program) (main : Bool) (Rl : Ow -> World -> World -> Prop) (C : kG) (Rc : ak) (X : Ctx) (cs0 : List Frame) (Stop : R -> Ow -> Frame -> List Frame -> World -> Prop) (Rt : St -> Option R) (fin : List AV -> St -> Option R) : Prop where
 tys : fV P C
 code : ∀ g fn c,look C.fns g = some fn -> fn.body = some c -> codeOk fn.ntmps c = true
 draws : ∀ g fn c,look C.fns g = some fn -> fn.body = some c -> gJ C g c = true
 rely : Leaves Rl
 canon : ∀ t s s',canon t s = some s' -> ∀ o E fr cs,rD X o E s cs0 fr cs -> ∃ E' : Env,E'.w = E.w ∧ rD X o E' s' cs0 fr cs
 back : ∀ s r,Rt s = some r -> FT C s -> Goes P main Rl X cs0 (Stop r) s
 fin : ∀ vs s r fn,fin vs s = some r -> s.callers = [] -> look C.fns s.cur.fn = some fn -> sK C fn s = some vs -> ∀ o E tmps todo,rD X o E s cs0 (frame s.cur.fn tmps todo) cs0 -> kH E s.cur.tm tmps ->
  Via P main Rl (Stop r) o { frame s.cur.fn tmps todo with mode := .returning } cs0 E.w
 call : ∀ (K : KK R) s all op rest k r q,callee C s.cur.tm op.op = some q -> s.cur.td = .ops all (op :: rest) :: k -> fA C Rc s.cur.tm s.objs s.ay op K = some r ->
  (∀ v O1 dP es,K v O1 dP es = some r -> Goes P main Rl X cs0 (Stop r) (after s op.dst (.ops all rest :: k) v O1 dP es)) -> ∀ o E tmps todo cs ops i idx todo',rD X o E s cs0 (frame s.cur.fn tmps todo) cs -> kH E s.cur.tm tmps -> todo = .inRegion ops (i :: idx) :: todo' ->
  ops[i]? = some op -> (∀ d,op.dst = some d -> d < tmps.size) -> EX tmps.size (.ops all rest :: k) (.inRegion ops idx :: todo') -> Region.wanted op (yielded ops tmps) = true -> Via P main Rl (Stop r) o (frame s.cur.fn tmps todo) cs E.w
def WE (C : kG) (fin : List AV -> St -> Option R) (k : St -> Option R) (s : St) : Option R := match look C.fns s.cur.fn with
 | some fn => match sK C fn s with
  | some vs => match s.callers with
   | [] => fin vs s
   | c :: cs => match c.td with
    | .ops all (o :: rest) :: kk => k { s with cur := { c with tm := putDst o.dst (jy vs) c.tm,td := .ops all rest :: kk },callers := cs }
    | .wait ps all i rest :: kk => match nth all i with
     | some o => k { s with cur := { c with tm := putDst o.dst (jy vs) c.tm,td := .drawn (some ps) all rest [] s.ay :: kk },callers := cs,ay := s.ay + all.length }
     | none => none
    | _ => none
  | none => none
 | none => none
theorem WG {fn : Func} {s : St} {l : List Fr} : sK C fn { s with callers := l } = sK C fn s := by
 unfold sK
 generalize fn.results.toList = r
 induction r with
 | nil => rfl
 | cons x r ih => cases x <;> (unfold sK.go; rw [ih])
theorem acd {n : Nat} {ps : List Nat} {all : List Oper} {i : Nat} {rest : List (Nat × List Nat)} {k : List It} {todo : List Item} (h : EX n (.wait ps all i rest :: k) todo) :
  ∃ (ops : Array Oper) (σ : List Nat) (op : Oper) (rest' : List Oper),all = ops.toList ∧ nth all i = some op ∧ Left ps all rest σ ∧ σ.map (ops[·]?) = rest'.map some ∧ EX n (.ops all (op :: rest') :: k) todo := by
 obtain ⟨y,ys,rfl,⟨ops,σ,rfl,rfl,hok,hi,hl⟩,h2⟩ := h
 obtain ⟨an,D,ha,hp⟩ := hl
 have hex : ∀ x ∈ σ,x < ops.size := fun x hx => by
  have := hp.ex x ((hp.mem x).2 hx)
  rwa [Array.length_toList] at this
 have hr : ∃ rest' : List Oper,σ.map (ops[·]?) = rest'.map some := by
  have : ∀ l : List Nat,(∀ x ∈ l,x < ops.size) -> ∃ rest' : List Oper,l.map (ops[·]?) = rest'.map some := by
   intro l
   induction l with
   | nil => intro _; exact ⟨[],rfl⟩
   | cons x l ih =>
    intro hl
    obtain ⟨r,e⟩ := ih fun y hy => hl y (List.mem_cons_of_mem _ hy)
    exact ⟨ops[x]'(hl x List.mem_cons_self) :: r,by rw [List.map_cons,List.map_cons,e,Array.getElem?_eq_getElem (hl x List.mem_cons_self)]⟩
  exact this σ hex
 obtain ⟨rest',er⟩ := hr
 refine ⟨ops,σ,ops[i],rest',rfl,?_,⟨an,D,ha,hp⟩,er,lI ⟨ops,i :: σ,rfl,rfl,hok,?_⟩ h2⟩
 ·rw [zA,Array.getElem?_toList,Array.getElem?_eq_getElem hi]
 ·rw [List.map_cons,List.map_cons,er,Array.getElem?_eq_getElem hi]
theorem Ho (L : Hl P main Rl C Rc X cs0 Stop Rt fin) {k : St -> Option R} {s : St} {r : R} (hr : WE C fin k s = some r) (hsd : FT C s) (hk : ∀ s,k s = some r -> FT C s -> Goes P main Rl X cs0 (Stop r) s)
  (hkw : ∀ (s2 : St) (ps : List Nat) (ops : Array Oper) (rest : List (Nat × List Nat)) (kk : List It) (σ : List Nat) (rest' : List Oper),k (pG s2 (some ps) ops.toList rest kk) = some r -> FT C (qj s2 kk) -> Left ps ops.toList rest σ -> σ.map (ops[·]?) = rest'.map some -> Goes P main Rl X cs0 (Stop r) (qj s2 (.ops ops.toList rest' :: kk)))
  (hend : s.cur.td = [] ∨ ∃ q,s.cur.td = .code .ret :: q) : Goes P main Rl X cs0 (Stop r) s := by
 intro o E fr cs h
 obtain ⟨tmps,todo,rfl,ht,htd⟩ := h.cur
 have hend' : todo = [] ∨ ∃ k,todo = .code .ret :: k := by
  rcases hend with e | ⟨q,e⟩
  ·rw [e] at htd; exact .inl htd
  ·rw [e] at htd; obtain ⟨y,ys,rfl,⟨rfl,_⟩,_⟩ := htd; exact .inr ⟨ys,rfl⟩
 unfold WE at hr
 split at hr
 ·rename_i fn hfn
  split at hr
  ·rename_i vs hd
   split at hr
   ·rename_i hcs
    have hst : stepG P main (Conc.G (frame s.cur.fn tmps todo) cs) E.w = .go (Conc.G { frame s.cur.fn tmps todo with mode := .returning } cs) E.w #[] := by
     rcases hend' with rfl | ⟨k,rfl⟩ <;> simp [Conc.G,stepG,stepG.exec,frame,Frame.at,Conc.base]
    refine .step hst (Keeps.refl _ _) fun w2 hw2 => ?_
    rw [Ow.lg] at hw2 ⊢
    have h2 := h.rely L.rely hw2
    obtain ⟨_,hs2⟩ := h.ok.rely L.rely hw2
    have ht2 : kH { E with w := w2 } s.cur.tm tmps := by have := ht.step hs2; simpa [jZ] using this
    obtain ⟨cs1,ec,hc⟩ := h.callers
    rw [hcs] at hc
    obtain rfl : cs1 = [] := hc
    obtain rfl : cs = cs0 := by simpa using ec
    exact L.fin vs s r fn hr hcs hfn hd o _ tmps todo h2 ht2
   ·rename_i c xu hcs
    split at hr
    ·rename_i all op rest kk LH
     exact WC L.tys L.rely h ht hend' hfn hd hcs LH (hk _ hr fun p hp => by
      have hc : fO C c.fn c.td = true := hsd (c.fn,c.td) (by unfold fd; rw [hcs]; exact List.mem_cons_of_mem _ List.mem_cons_self)
      rcases List.mem_cons.1 hp with e | hp
      ·subst e
       rw [LH] at hc
       exact hc
      ·exact hsd p (by unfold fd; rw [hcs]; exact List.mem_cons_of_mem _ (List.mem_cons_of_mem _ hp)))
    ·rename_i ps all i rest kk LH
     split at hr
     ·rename_i op hop
      obtain ⟨cs1,ec,hc⟩ := h.callers
      have hc' := hc
      rw [hcs] at hc'
      obtain ⟨y,ys,rfl,⟨ct,ctd,rfl,hct,Oh⟩,hys⟩ := hc'
      rw [LH] at Oh
      obtain ⟨ops,σ,op',rest',rfl,hop',hl,hm,adZ⟩ := acd Oh
      rw [hop] at hop'; cases hop'
      let s' : St := { s with callers := { c with td := .ops ops.toList (op :: rest') :: kk } :: xu }
      have h' : rD X o E s' cs0 (frame s'.cur.fn tmps todo) cs := ⟨h.ok,h.objs,h.cur,⟨_,ec,⟨_,_,rfl,⟨ct,ctd,rfl,hct,adZ⟩,hys⟩⟩,h.bx,by
       have := h.root
       rw [hcs] at this
       show lq s.cur ({ c with td := .ops ops.toList (op :: rest') :: kk } :: xu) = _
       rw [<- this]
       show lq { c with td := .ops ops.toList (op :: rest') :: kk } xu = lq c xu
       exact iL _ _ _ rfl⟩
      have hd' : sK C fn s' = some vs := WG.trans hd
      refine WC (s := s') L.tys L.rely h' ht hend' hfn hd' (c := { c with td := .ops ops.toList (op :: rest') :: kk }) (xu := xu) rfl rfl ?_
      refine hkw { s with cur := { c with tm := putDst op.dst (jy vs) c.tm,td := [] },callers := xu } ps ops rest kk σ rest' hr (fun p hp => ?_) hl hm
      have hc2 : fO C c.fn c.td = true := hsd (c.fn,c.td) (by unfold fd; rw [hcs]; exact List.mem_cons_of_mem _ List.mem_cons_self)
      rcases List.mem_cons.1 hp with e | hp
      ·subst e
       rw [LH] at hc2
       exact hc2
      ·exact hsd p (by unfold fd; rw [hcs]; exact List.mem_cons_of_mem _ (List.mem_cons_of_mem _ hp))
     ·cases hr
    ·cases hr
  ·cases hr
 ·cases hr
theorem uT {n : Nat} {x : It} {k : List It} {todo : List Item} (h : EX n (x :: k) todo) : ∃ y ys,todo = y :: ys ∧ ItR n x y ∧ EX n k ys := h
theorem rD.at {o : Ow} {E : Env} {s : St} {fr : Frame} {cs : List Frame} (h : rD X o E s cs0 fr cs) : ∃ tmps todo,fr = frame s.cur.fn tmps todo ∧ kH E s.cur.tm tmps ∧ EX tmps.size s.cur.td todo := h.cur
theorem WH (s : St) (dst : Option Nat) (td : List It) (v : AV) (O1 : bD) (dP : Nat) (es : List Eff) : fd (after s dst td v O1 dP es) = (s.cur.fn,td) :: s.callers.map fun f => (f.fn,f.td) := by
 cases es with
 | nil => rfl
 | cons e r =>
  show _ :: List.map (fun f => (f.fn,f.td)) (jH (e :: r) s.callers) = _
  unfold jH
  rw [List.map_map]; rfl
theorem CJ {s : St} {dst : Option Nat} {td : List It} {v : AV} {O1 : bD} {dP : Nat} {es : List Eff} (h : FT C s) (ht : fO C s.cur.fn s.cur.td = true -> fO C s.cur.fn td = true) : FT C (after s dst td v O1 dP es) := by
 intro p hp
 rw [WH] at hp
 rcases List.mem_cons.1 hp with e | hp
 ·subst e; exact ht (h (s.cur.fn,s.cur.td) List.mem_cons_self)
 ·exact h p (List.mem_cons_of_mem _ hp)
theorem sW (L : Hl P main Rl C Rc X cs0 Stop Rt fin) {k : St -> Option R} {s : St} {r : R} {all : List Oper} {op : Oper} {rest : List Oper} {kk : List It} (ad1 : s.cur.td = .ops all (op :: rest) :: kk)
  (hsd : FT C s) (hk : ∀ s,k s = some r -> FT C s -> Goes P main Rl X cs0 (Stop r) s) :
  (∀ {o E tmps todo cs ops i idx todo'},rD X o E s cs0 (frame s.cur.fn tmps todo) cs -> kH E s.cur.tm tmps -> todo = .inRegion ops (i :: idx) :: todo' -> ops[i]? = some op -> (∀ d,op.dst = some d -> d < tmps.size) -> EX tmps.size (.ops all rest :: kk) (.inRegion ops idx :: todo') -> EX tmps.size s.cur.td todo ->
   Region.wanted op (yielded ops tmps) = true -> (match SA C s op with
    | some (g,vs,body) => k { s with cur := { fn := g,tm := vg vs 0,td := [.code body] },callers := s.cur :: s.callers }
    | none => fA C Rc s.cur.tm s.objs s.ay op fun v O ay iF => k (after s op.dst (.ops all rest :: kk) v O ay iF)) = some r -> Via P main Rl (Stop r) o (frame s.cur.fn tmps todo) cs E.w) := by
 intro o E tmps todo cs ops i idx todo' h ht e hi hd htd agD hw hr
 have WI : ∀ v O1 dP es,FT C (after s op.dst (.ops all rest :: kk) v O1 dP es) := fun v O1 dP es => CJ hsd (by rw [ad1]; exact fun h => h)
 split at hr
 ·rename_i g vs body hg
  obtain ⟨fn,_,hfn,hbody⟩ := Hg hg
  refine SY L.tys L.code L.rely h ht e hi agD hw hg (hk _ hr fun p hp => ?_)
  rcases List.mem_cons.1 hp with e | hp
  ·subst e
   show (gJ C g body && true) = true
   rw [Bool.and_true]; exact L.draws g fn body hfn hbody
  ·exact hsd p hp
 ·cases hc : callee C s.cur.tm op.op with
  | some q =>
   exact L.call _ s all op rest kk r q hc ad1 hr (fun v O1 dP es hkk => hk _ hkk (WI v O1 dP es)) o E tmps todo cs ops i idx todo' h ht e hi hd htd hw
  | none =>
   rw [<- h.objs] at hr
   exact adY L.rely h ht e hi hd htd hw (Wy L.tys h.ok (a := ⟨tmps,[]⟩) ht hc hr) fun v O1 dP es hkk => hk _ hkk (WI v O1 dP es)
end
end Go.E
end
