/- Regions whose order is left open. -/
import Derived.Conc.CompanyDraw
import Derived.Orders
import Derived.Test.YtmceeioelenigaaGreatEd
section
namespace Go.E
section
variable {C : kG} {Rc : ak} {R : Type}
theorem bU {p : Prop} [Decidable p] {x : Option R} {r : R} (h : chk p x = some r) : p ∧ x = some r ∧ ∀ {R' : Type} (y : Option R'),chk p y = y := by
 unfold chk at h
 split at h
 ·rename_i hp; exact ⟨hp,h,fun y => by unfold chk; rw [if_pos hp]⟩
 ·cases h
theorem Oi {op : BinOp} {k : IntKind} {x y : Int} {K : AV -> Option R} {r : R} (h : Gv op k x y K = some r) : ∃ v,K v = some r ∧ v.ids = [] ∧ ∀ {R' : Type} (K' : AV -> Option R'),Gv op k x y K' = K' v := by
 cases op <;> unfold Gv at h <;> first | exact ⟨_,h,rfl,fun K' => rfl⟩ | (cases h; done) | (obtain ⟨hp,h,hc⟩ := bU h; exact ⟨_,h,rfl,fun K' => by unfold Gv; exact hc _⟩)
theorem Hq {l : Bool} {k : IntKind} {x y : Int} {K : AV -> Option R} {r : R} (h : rZ l k x y K = some r) : ∃ v,K v = some r ∧ v.ids = [] ∧ ∀ {R' : Type} (K' : AV -> Option R'),rZ l k x y K' = K' v := by
 unfold rZ at h
 obtain ⟨hp,h,hc⟩ := bU h
 cases l
 ·exact ⟨_,h,rfl,fun K' => by unfold rZ; rw [hc]; rfl⟩
 ·exact ⟨_,h,rfl,fun K' => by unfold rZ; rw [hc]; rfl⟩
theorem WJ {op : BinOp} {x y : ByteArray} {K : AV -> Option R} {r : R} (h : KY op x y K = some r) : ∃ v,K v = some r ∧ v.ids = [] ∧ ∀ {R' : Type} (K' : AV -> Option R'),KY op x y K' = K' v := by
 cases op <;> unfold KY at h <;> first | exact ⟨_,h,rfl,fun K' => rfl⟩ | (cases h; done) | (obtain ⟨hp,h,hc⟩ := bU h; exact ⟨_,h,rfl,fun K' => by unfold KY; exact hc _⟩)
theorem eU {b : Bool} {x : Option R} {r : R} (h : (bif b then x else none) = some r) : b = true ∧ x = some r := by
 cases b
 ·cases h
 ·exact ⟨rfl,h⟩
theorem fZ {b : Bool} {x : Option R} {r : R} (h : (bif b then none else x) = some r) : b = false ∧ x = some r := by
 cases b
 ·exact ⟨rfl,h⟩
 ·cases h
theorem S9 {kd : Nat} {cmp : List CT} {lit : Bool} {O : bD} {x y : AV} {K : Bool -> Option R} {r : R} (h : aeq kd cmp lit O x y K = some r) : ∃ b,K b = some r ∧ ∀ {R' : Type} (K' : Bool -> Option R') (O' : bD),(∀ i ∈ x.ids,look O' i = look O i) -> aeq kd cmp lit O' x y K' = K' b := by
 unfold aeq at h
 split at h <;> first
  | (obtain ⟨hb,h⟩ := eU h; exact ⟨_,h,fun K' O' _ => by unfold aeq; rw [hb]; rfl⟩)
  | (cases h; done)
  | skip
 ·rename_i xs ys
  cases cmp with
  | nil => cases h
  | cons c cs =>
   dsimp only at h
   split at h
   ·rename_i b hb
    exact ⟨b,h,fun K' O' _ => by unfold aeq; dsimp only; rw [hb]⟩
   ·cases h
 ·rename_i id
  split at h
  ·rename_i ts rows wr hl
   obtain ⟨hb,h⟩ := eU h
   obtain ⟨hp,h,hc⟩ := bU h
   refine ⟨_,h,fun K' O' hO => ?_⟩
   unfold aeq
   dsimp only
   rw [hO id List.mem_cons_self,hl]
   dsimp only
   rw [hb,cond_true,hc]
  ·cases h
 ·obtain ⟨hb,h⟩ := eU h
  obtain ⟨hp,h,hc⟩ := bU h
  exact ⟨_,h,fun K' O' _ => by unfold aeq; dsimp only; rw [hb,cond_true,hc]⟩
theorem WL {kd : Nat} {cmp : List CT} {lit : Bool} {O : bD} {op : BinOp} {x y : AV} {K : AV -> Option R} {r : R} (h : BL kd cmp lit O op x y K = some r) :
  ∃ v,K v = some r ∧ v.ids = [] ∧ ∀ {R' : Type} (K' : AV -> Option R') (O' : bD),(∀ i ∈ x.ids,look O' i = look O i) -> BL kd cmp lit O' op x y K' = K' v := by
 unfold BL at h
 split at h
 ·obtain ⟨v,h1,h2,h3⟩ := Hq h
  exact ⟨v,h1,h2,fun K' O' _ => by unfold BL; exact h3 K'⟩
 ·obtain ⟨v,h1,h2,h3⟩ := Hq h
  exact ⟨v,h1,h2,fun K' O' _ => by unfold BL; exact h3 K'⟩
 ·rename_i n1 n2
  obtain ⟨hb,h⟩ := eU h
  obtain ⟨v,h1,h2,h3⟩ := Oi h
  exact ⟨v,h1,h2,fun K' O' _ => by rw [BL.eq_3 _ _ _ _ _ _ _ _ _ _ n1 n2,hb,cond_true]; exact h3 K'⟩
 ·obtain ⟨v,h1,h2,h3⟩ := WJ h
  exact ⟨v,h1,h2,fun K' O' _ => by rw [BL.eq_4]; exact h3 K'⟩
 ·rename_i n1 n2
  obtain ⟨b,h1,h3⟩ := S9 h
  exact ⟨_,h1,rfl,fun K' O' hO => by rw [BL.eq_5 _ _ _ _ _ _ _ n1 n2]; exact h3 _ O' hO⟩
 ·rename_i n1 n2
  obtain ⟨b,h1,h3⟩ := S9 h
  exact ⟨_,h1,rfl,fun K' O' hO => by rw [BL.eq_6 _ _ _ _ _ _ _ n1 n2]; exact h3 _ O' hO⟩
 ·cases h
theorem yG {α : Type} {rows : List α} {lo hi : Option AV} {K : List α -> Option R} {r : R} (h : kJ rows lo hi K = some r) : ∃ l,K l = some r ∧ ∀ {R' : Type} (K' : List α -> Option R'),kJ rows lo hi K' = K' l := by
 unfold kJ at h
 split at h
 ·exact ⟨_,h,fun K' => rfl⟩
 ·obtain ⟨_,h,c1⟩ := bU h
  obtain ⟨_,h,c2⟩ := bU h
  exact ⟨_,h,fun K' => by unfold kJ; dsimp only; rw [c1,c2]⟩
 ·obtain ⟨_,h,c1⟩ := bU h
  obtain ⟨_,h,c2⟩ := bU h
  exact ⟨_,h,fun K' => by unfold kJ; dsimp only; rw [c1,c2]⟩
 ·obtain ⟨_,h,c1⟩ := bU h
  obtain ⟨_,h,c2⟩ := bU h
  obtain ⟨_,h,c3⟩ := bU h
  exact ⟨_,h,fun K' => by unfold kJ; dsimp only; rw [c1,c2,c3]⟩
 ·cases h
theorem Jz {n : Nat} {lo hi : Option AV} {K : Int -> Int -> Option R} {r : R} (h : jY n lo hi K = some r) : ∃ l m,K l m = some r ∧ ∀ {R' : Type} (K' : Int -> Int -> Option R'),jY n lo hi K' = K' l m := by
 unfold jY at h
 split at h
 ·exact ⟨_,_,h,fun K' => rfl⟩
 ·obtain ⟨_,h,c1⟩ := bU h
  obtain ⟨_,h,c2⟩ := bU h
  exact ⟨_,_,h,fun K' => by unfold jY; dsimp only; rw [c1,c2]⟩
 ·obtain ⟨_,h,c1⟩ := bU h
  obtain ⟨_,h,c2⟩ := bU h
  exact ⟨_,_,h,fun K' => by unfold jY; dsimp only; rw [c1,c2]⟩
 ·obtain ⟨_,h,c1⟩ := bU h
  obtain ⟨_,h,c2⟩ := bU h
  obtain ⟨_,h,c3⟩ := bU h
  exact ⟨_,_,h,fun K' => by unfold jY; dsimp only; rw [c1,c2,c3]⟩
 ·cases h
theorem QL {s : ByteArray} {lo hi : Option AV} {K : ByteArray -> Option R} {r : R} (h : su s lo hi K = some r) : ∃ l,K l = some r ∧ ∀ {R' : Type} (K' : ByteArray -> Option R'),su s lo hi K' = K' l := by
 unfold su at h
 split at h
 ·exact ⟨_,h,fun K' => rfl⟩
 ·obtain ⟨_,h,c1⟩ := bU h
  obtain ⟨_,h,c2⟩ := bU h
  exact ⟨_,h,fun K' => by unfold su; dsimp only; rw [c1,c2]⟩
 ·obtain ⟨_,h,c1⟩ := bU h
  obtain ⟨_,h,c2⟩ := bU h
  exact ⟨_,h,fun K' => by unfold su; dsimp only; rw [c1,c2]⟩
 ·obtain ⟨_,h,c1⟩ := bU h
  obtain ⟨_,h,c2⟩ := bU h
  obtain ⟨_,h,c3⟩ := bU h
  exact ⟨_,h,fun K' => by unfold su; dsimp only; rw [c1,c2,c3]⟩
 ·cases h
end
end Go.E
end
section
namespace Go.E
section
variable {C : kG} {Rc : ak} {R : Type} {tm tm' : List (Nat × AV)} {O O' : bD}
theorem qJ : ∀ {l : List Operand},(∀ x ∈ l,ev tm' x = ev tm x) -> evs tm' l = evs tm l
 | [],_ => rfl
 | x :: r,h => by
  unfold evs
  rw [h x List.mem_cons_self,qJ fun y hy => h y (List.mem_cons_of_mem _ hy)]
theorem Gg : ∀ {l : List (Nat × Operand)},(∀ x ∈ l.map (·.2),ev tm' x = ev tm x) -> Js tm' l = Js tm l
 | [],_ => rfl
 | (i,x) :: r,h => by
  unfold Js
  rw [h x List.mem_cons_self,Gg fun y hy => h y (List.mem_cons_of_mem _ hy)]
theorem mW {x : Option Operand} (h : ∀ y ∈ x.toList,ev tm' y = ev tm y) : wZ tm' x = wZ tm x := by
 cases x with
 | none => rfl
 | some y => show (ev tm' y).map some = (ev tm y).map some; rw [h y (by simp)]
theorem dM : ∀ {l : List Operand} {x : Operand} {v : AV} {i : Nat},x ∈ l -> ev tm x = some v -> i ∈ v.ids -> i ∈ dV tm l
 | y :: r,x,v,i,hx,hv,hi => by
  show i ∈ (match ev tm y with | some v => v.ids | none => []) ++ dV tm r
  rcases List.mem_cons.1 hx with e | hx
  ·subst e; rw [hv]; exact List.mem_append.2 (.inl hi)
  ·exact List.mem_append.2 (.inr (dM hx hv hi))
theorem Gh : ∀ {l : List Operand} {vs : List AV} {v : AV},evs tm l = some vs -> v ∈ vs -> ∃ x ∈ l,ev tm x = some v
 | [],vs,v,h,hv => by cases h; cases hv
 | x :: r,vs,v,h,hv => by
  unfold evs at h
  split at h
  ·rename_i u us h1 h2
   cases h
   rcases List.mem_cons.1 hv with e | hv
   ·subst e; exact ⟨x,List.mem_cons_self,h1⟩
   ·obtain ⟨y,hy,e⟩ := Gh h2 hv
    exact ⟨y,List.mem_cons_of_mem _ hy,e⟩
  ·cases h
def Again (C : kG) (tm : List (Nat × AV)) (O : bD) (o : Oper) (v : AV) : Prop :=
 ∀ {R' : Type} (K' : KK R') (pU : ak) (tm' : List (Nat × AV)) (O' : bD) (fF : Nat),(∀ x ∈ opers o.op,ev tm' x = ev tm x) -> (∀ i ∈ dB tm o,look O' i = look O i) -> fA C pU tm' O' fF o K' = K' v O' fF []
theorem lJ {v : AV} (h : ∀ i ∈ v.ids,look O' i = look O i) : rowsOf O' v = rowsOf O v := by
 cases v with
 | own id => show (match look O' id with | some (.arr ts rows _) => some (Rows.mk ts rows [id]) | _ => none) = _; rw [h id List.mem_cons_self]; rfl
 | sub id lo hi => show (match look O' id with | some (.arr ts rows _) => some (Rows.mk ts ((rows.take hi.toNat).drop lo.toNat) [id]) | _ => none) = _; rw [h id List.mem_cons_self]; rfl
 | _ => rfl
theorem Oj {o : Oper} (hq : quiet C o = true) {K : KK R} {r : R} {ay : Nat} (h : fA C Rc tm O ay o K = some r) : ∃ v,K v O ay [] = some r ∧ Again C tm O o v := by
 obtain ⟨dst,op,ty,pos,aft,guard⟩ := o
 unfold Again
 cases op with
 | move x =>
  unfold fA at h ⊢; dsimp only [opers,dB] at h ⊢
  split at h
  ·rename_i v hx
   exact ⟨v,h,fun K' pU tm' O' fF he _ => by rw [he x List.mem_cons_self,hx]⟩
  ·cases h
 | assign x =>
  unfold fA at h ⊢; dsimp only [opers,dB] at h ⊢
  split at h
  ·rename_i v hx
   exact ⟨v,h,fun K' pU tm' O' fF he _ => by rw [he x List.mem_cons_self,hx]⟩
  ·cases h
 | pick c a b =>
  unfold fA at h ⊢; dsimp only [opers,dB] at h ⊢
  split at h
  ·rename_i t x y hc ha hb
   cases t
   ·exact ⟨y,h,fun K' pU tm' O' fF he _ => by rw [he c (by simp),he a (by simp),he b (by simp),hc,ha,hb]; rfl⟩
   ·exact ⟨x,h,fun K' pU tm' O' fF he _ => by rw [he c (by simp),he a (by simp),he b (by simp),hc,ha,hb]; rfl⟩
  ·cases h
 | extract x i =>
  unfold fA at h ⊢; dsimp only [opers,dB] at h ⊢
  split at h
  ·rename_i vs hx
   split at h
   ·rename_i v hv
    exact ⟨v,h,fun K' pU tm' O' fF he _ => by rw [he x List.mem_cons_self,hx]; dsimp only; rw [hv]⟩
   ·cases h
  ·cases h
 | binOp op t x y yt =>
  unfold fA at h ⊢; dsimp only [opers,dB] at h ⊢
  split at h
  ·rename_i a b hx hy
   obtain ⟨v,h1,_,h2⟩ := WL h
   refine ⟨v,h1,fun K' pU tm' O' fF he hO => ?_⟩
   rw [he x (by simp),he y (by simp),hx,hy]
   exact h2 (fun v => K' v O' fF []) O' fun i hi => hO i (dM (by simp) hx hi)
  ·cases h
 | unOp op t x =>
  unfold fA at h ⊢; dsimp only [opers,dB] at h ⊢
  split at h
  ·rename_i k n hx
   exact ⟨_,h,fun K' pU tm' O' fF he _ => by rw [he x List.mem_cons_self,hx]⟩
  ·rename_i k n hx
   obtain ⟨v,h1,_,h2⟩ := Oi h
   exact ⟨v,h1,fun K' pU tm' O' fF he _ => by rw [he x List.mem_cons_self,hx]; exact h2 _⟩
  ·rename_i b hx
   exact ⟨_,h,fun K' pU tm' O' fF he _ => by rw [he x List.mem_cons_self,hx]⟩
  ·cases h
 | fieldAddr t x f =>
  unfold fA at h ⊢; dsimp only [opers,dB] at h ⊢
  split at h
  ·rename_i ti v hl hx
   split at h
   ·rename_i q ft id off hf
    obtain ⟨hb,h⟩ := fZ h
    exact ⟨_,h,fun K' pU tm' O' fF he _ => by rw [he x List.mem_cons_self,hl,hx]; dsimp only; rw [hf]; dsimp only; rw [hb]; rfl⟩
   ·rename_i q ft id i off hf
    obtain ⟨hb,h⟩ := fZ h
    exact ⟨_,h,fun K' pU tm' O' fF he _ => by rw [he x List.mem_cons_self,hl,hx]; dsimp only; rw [hf]; dsimp only; rw [hb]; rfl⟩
   ·rename_i q ft ts rows deps i off hf
    obtain ⟨hb,h⟩ := fZ h
    exact ⟨_,h,fun K' pU tm' O' fF he _ => by rw [he x List.mem_cons_self,hl,hx]; dsimp only; rw [hf]; dsimp only; rw [hb]; rfl⟩
   ·cases h
  ·cases h
 | field t x f =>
  unfold fA at h ⊢; dsimp only [opers,dB] at h ⊢
  split at h
  ·rename_i ti cs hl hx
   split at h
   ·rename_i q ft hf
    split at h
    ·rename_i tf htf
     split at h
     ·rename_i v hv
      exact ⟨_,h,fun K' pU tm' O' fF he _ => by rw [he x List.mem_cons_self,hl,hx]; dsimp only; rw [hf]; dsimp only; rw [htf]; dsimp only; rw [hv]⟩
     ·cases h
    ·cases h
   ·cases h
  ·cases h
 | indexAddr t x i =>
  unfold fA at h ⊢; dsimp only [opers,dB] at h ⊢
  split at h
  ·rename_i hs
   split at h
   ·cases h
   ·rename_i ts' n ha
    split at h
    ·rename_i id j off k m hx hi
     split at h
     ·rename_i ts rows wr hl
      obtain ⟨hb,h⟩ := eU h
      obtain ⟨_,h,c1⟩ := bU h
      obtain ⟨_,h,c2⟩ := bU h
      obtain ⟨_,h,c3⟩ := bU h
      refine ⟨_,h,fun K' pU tm' O' fF he hO => ?_⟩
      rw [he x (by simp),he i (by simp),hx,hi]; dsimp only
      rw [hO id (dM (x := x) (by simp) hx List.mem_cons_self),hl]; dsimp only
      rw [hb,cond_true,c1,c2,c3]
     ·cases h
    ·rename_i ts rows deps j off k m hx hi
     obtain ⟨hb,h⟩ := eU h
     obtain ⟨_,h,c1⟩ := bU h
     obtain ⟨_,h,c2⟩ := bU h
     obtain ⟨_,h,c3⟩ := bU h
     refine ⟨_,h,fun K' pU tm' O' fF he hO => ?_⟩
     rw [he x (by simp),he i (by simp),hx,hi]; dsimp only
     rw [hb,cond_true,c1,c2,c3]
    ·cases h
  ·rename_i ts' hs
   split at h
   ·rename_i id k n hx hi
    split at h
    ·rename_i ts rows wr hl
     obtain ⟨hb,h⟩ := fZ h
     obtain ⟨_,h,c1⟩ := bU h
     obtain ⟨_,h,c2⟩ := bU h
     refine ⟨_,h,fun K' pU tm' O' fF he hO => ?_⟩
     rw [he x (by simp),he i (by simp),hx,hi]; dsimp only
     rw [hO id (dM (x := x) (by simp) hx List.mem_cons_self),hl]; dsimp only
     rw [hb,cond_false,c1,c2]
    ·cases h
   ·rename_i ts rows deps k n hx hi
    obtain ⟨hb,h⟩ := fZ h
    obtain ⟨_,h,c1⟩ := bU h
    obtain ⟨_,h,c2⟩ := bU h
    refine ⟨_,h,fun K' pU tm' O' fF he hO => ?_⟩
    rw [he x (by simp),he i (by simp),hx,hi]; dsimp only
    rw [hb,cond_false,c1,c2]
   ·rename_i id lo hi' k n hx hi
    split at h
    ·rename_i ts rows wr hl
     obtain ⟨hb,h⟩ := fZ h
     obtain ⟨_,h,c1⟩ := bU h
     obtain ⟨_,h,c2⟩ := bU h
     refine ⟨_,h,fun K' pU tm' O' fF he hO => ?_⟩
     rw [he x (by simp),he i (by simp),hx,hi]; dsimp only
     rw [hO id (dM (x := x) (by simp) hx List.mem_cons_self),hl]; dsimp only
     rw [hb,cond_false,c1,c2]
    ·cases h
   ·cases h
 | index t x i =>
  unfold fA at h ⊢; dsimp only [opers,dB] at h ⊢
  split at h
  ·rename_i s k n hx hi
   obtain ⟨hb,h⟩ := fZ h
   obtain ⟨_,h,c1⟩ := bU h
   obtain ⟨_,h,c2⟩ := bU h
   refine ⟨_,h,fun K' pU tm' O' fF he hO => ?_⟩
   rw [he x (by simp),he i (by simp),hx,hi]; dsimp only
   rw [hb,cond_false,c1,c2]
  ·cases h
 | slice t x lo hi mx =>
  cases mx with
  | some _ => unfold fA at h; cases h
  | none =>
   unfold fA at h ⊢; dsimp only [opers,dB] at h ⊢
   cases hsub : dJ t C.subs with
   | true =>
   rw [hsub,cond_true] at h
   split at h
   ·rename_i id l hh hx hl hhh
    split at h
    ·rename_i ts rows wr ts' hlo hts
     obtain ⟨hb,h⟩ := eU h
     obtain ⟨q1,q2,h1,h2⟩ := Jz h
     refine ⟨_,h1,fun K' pU tm' O' fF he hO => ?_⟩
     rw [cond_true,he x (by simp),mW (x := lo) (fun y hy => he y (by simp only [List.mem_cons,List.mem_append]; exact .inr (.inl hy))),mW (x := hi) (fun y hy => he y (by simp only [List.mem_cons,List.mem_append]; exact .inr (.inr hy))),hx,hl,hhh]
     dsimp only
     rw [hO id (dM (x := x) (by simp) hx List.mem_cons_self),hlo,hts]; dsimp only
     rw [hb,cond_true,h2]
    ·cases h
   ·rename_i v l hh hnx hx hl hhh
    split at h
    ·rename_i rr ts' hr hts
     obtain ⟨hb,h⟩ := fZ h
     obtain ⟨q,h1,h2⟩ := yG h
     refine ⟨_,h1,fun K' pU tm' O' fF he hO => ?_⟩
     rw [cond_true,he x (by simp),mW (x := lo) (fun y hy => he y (by simp only [List.mem_cons,List.mem_append]; exact .inr (.inl hy))),mW (x := hi) (fun y hy => he y (by simp only [List.mem_cons,List.mem_append]; exact .inr (.inr hy))),hx,hl,hhh]
     have e := lJ (O := O) (O' := O') fun i hi => hO i (dM (x := x) (by simp) hx hi)
     cases v <;> first | exact absurd rfl (hnx _) | (dsimp only; rw [e,hr,hts]; dsimp only; rw [hb,cond_false,h2])
    ·cases h
   ·cases h
   | false =>
   rw [hsub,cond_false] at h
   simp only [cond_false]
   split at h
   ·rename_i ts' n ha
    split at h
    ·rename_i id i off l hh hx hl hhh
     split at h
     ·rename_i ts rows wr hlo
      obtain ⟨hb,h⟩ := eU h
      obtain ⟨_,h,c1⟩ := bU h
      obtain ⟨_,h,c2⟩ := bU h
      obtain ⟨q,h1,h2⟩ := yG h
      refine ⟨_,h1,fun K' pU tm' O' fF he hO => ?_⟩
      rw [he x (by simp),mW (x := lo) (fun y hy => he y (by simp only [List.mem_cons,List.mem_append]; exact .inr (.inl hy))),mW (x := hi) (fun y hy => he y (by simp only [List.mem_cons,List.mem_append]; exact .inr (.inr hy))),hx,hl,hhh]
      dsimp only
      rw [hO id (dM (x := x) (by simp) hx List.mem_cons_self),hlo]; dsimp only
      rw [hb,cond_true,c1,c2,h2]
     ·cases h
    ·cases h
   split at h
   ·rename_i s l hh hx hl hhh
    obtain ⟨hb,h⟩ := fZ h
    obtain ⟨q,h1,h2⟩ := QL h
    refine ⟨_,h1,fun K' pU tm' O' fF he hO => ?_⟩
    rw [he x (by simp),mW (x := lo) (fun y hy => he y (by simp only [List.mem_cons,List.mem_append]; exact .inr (.inl hy))),mW (x := hi) (fun y hy => he y (by simp only [List.mem_cons,List.mem_append]; exact .inr (.inr hy))),hx,hl,hhh]
    dsimp only
    rw [hb,cond_false,h2]
   ·rename_i v l hh hnx hx hl hhh
    split at h
    ·rename_i rr ts' hr hts
     obtain ⟨hb,h⟩ := fZ h
     obtain ⟨q,h1,h2⟩ := yG h
     refine ⟨_,h1,fun K' pU tm' O' fF he hO => ?_⟩
     rw [he x (by simp),mW (x := lo) (fun y hy => he y (by simp only [List.mem_cons,List.mem_append]; exact .inr (.inl hy))),mW (x := hi) (fun y hy => he y (by simp only [List.mem_cons,List.mem_append]; exact .inr (.inr hy))),hx,hl,hhh]
     have e := lJ (O := O) (O' := O') fun i hi => hO i (dM (x := x) (by simp) hx hi)
     cases v <;> first | exact absurd rfl (hnx _) | (dsimp only; rw [e,hr,hts]; dsimp only; rw [hb,cond_false,h2])
    ·cases h
   ·cases h
 | sliceToArrayPointer t x =>
  unfold fA at h ⊢; dsimp only [opers,dB] at h ⊢
  split at h
  ·rename_i ts' n v ha hx
   split at h
   ·rename_i q hq'
    obtain ⟨hb,h⟩ := eU h
    obtain ⟨_,h,c1⟩ := bU h
    refine ⟨_,h,fun K' pU tm' O' fF he hO => ?_⟩
    rw [he x List.mem_cons_self,ha,hx]; dsimp only
    rw [lJ (O := O) (O' := O') fun i hi => hO i (dM (x := x) List.mem_cons_self hx hi),hq']; dsimp only
    rw [hb,cond_true,c1]
   ·cases h
  ·cases h
 | makeInterface t x =>
  unfold fA at h ⊢; dsimp only [opers,dB] at h ⊢
  split at h
  ·rename_i v hx
   obtain ⟨hb,h⟩ := fZ h
   exact ⟨_,h,fun K' pU tm' O' fF he _ => by rw [he x List.mem_cons_self,hx]; dsimp only; rw [hb]; rfl⟩
  ·cases h
 | makeFunc fn a b =>
  unfold fA at h ⊢; dsimp only [opers,dB] at h ⊢
  split at h
  ·rename_i x y hx hy
   refine ⟨_,h,fun K' pU tm' O' fF he _ => ?_⟩
   rw [qJ (tm := tm) (fun z hz => he z (List.mem_append.2 (.inl hz))),qJ (tm := tm) (fun z hz => he z (List.mem_append.2 (.inr hz))),hx,hy]
  ·cases h
 | nilCheck x =>
  unfold fA at h ⊢; dsimp only [opers,dB] at h ⊢
  split at h <;> first | (cases h; done) | (rename_i hx; exact ⟨_,h,fun K' pU tm' O' fF he _ => by rw [he x List.mem_cons_self,hx]⟩)
 | build t ps =>
  unfold fA at h ⊢; dsimp only [opers,dB] at h ⊢
  split at h
  ·rename_i ti vs hl hps
   split at h
   ·rename_i cs hcs
    obtain ⟨hb,h⟩ := eU h
    refine ⟨_,h,fun K' pU tm' O' fF he _ => ?_⟩
    rw [Gg (tm := tm) he,hl,hps]; dsimp only
    rw [hcs]; dsimp only
    rw [hb,cond_true]
   ·rename_i hcs
    obtain ⟨hb,h⟩ := eU h
    split at h
    ·rename_i te hte
     split at h
     ·rename_i cs hcs2
      refine ⟨_,h,fun K' pU tm' O' fF he _ => ?_⟩
      rw [Gg (tm := tm) he,hl,hps]; dsimp only
      rw [hcs]; dsimp only
      rw [hb,cond_true,hte]; dsimp only
      rw [hcs2]
     ·cases h
    ·cases h
  ·cases h
 | load t x =>
  unfold fA at h ⊢; dsimp only [opers,dB] at h ⊢
  split at h
  ·rename_i ti id off hl hx
   split at h
   ·rename_i cs hlo
    split at h
    ·rename_i v hv
     refine ⟨v,h,fun K' pU tm' O' fF he hO => ?_⟩
     rw [he x List.mem_cons_self,hl,hx]; dsimp only
     rw [hO id (dM List.mem_cons_self hx List.mem_cons_self),hlo]; dsimp only
     rw [hv]
    ·cases h
   ·cases h
  ·rename_i ti id i off hl hx
   split at h
   ·rename_i ts rows wr hlo
    split at h
    ·rename_i ts' n ha
     obtain ⟨hb,h⟩ := eU h
     obtain ⟨_,h,c1⟩ := bU h
     refine ⟨_,h,fun K' pU tm' O' fF he hO => ?_⟩
     rw [he x List.mem_cons_self,hl,hx]; dsimp only
     rw [hO id (dM List.mem_cons_self hx List.mem_cons_self),hlo]; dsimp only
     rw [hb,cond_true,c1]
    split at h
    ·rename_i v hv
     refine ⟨v,h,fun K' pU tm' O' fF he hO => ?_⟩
     rw [he x List.mem_cons_self,hl,hx]; dsimp only
     rw [hO id (dM List.mem_cons_self hx List.mem_cons_self),hlo]; dsimp only
     rw [hv]
    ·cases h
   ·cases h
  ·rename_i ti ts rows deps i off hl hx
   split at h
   ·rename_i ts' n ha
    obtain ⟨hb,h⟩ := eU h
    obtain ⟨_,h,c1⟩ := bU h
    refine ⟨_,h,fun K' pU tm' O' fF he hO => ?_⟩
    rw [he x List.mem_cons_self,hl,hx]; dsimp only
    rw [hb,cond_true,c1]
   split at h
   ·rename_i v hv
    refine ⟨v,h,fun K' pU tm' O' fF he hO => ?_⟩
    rw [he x List.mem_cons_self,hl,hx]; dsimp only
    rw [hv]
   ·cases h
  ·cases h
 | convert src dst' x =>
  have hk : Nat.beq (qU C dst') 11 = true ∨ (Nat.beq (qU C dst') 9 = true ∧ Nat.beq (qU C src) 9 = true) := by
   have hq : (Nat.beq (qU C dst') 11 || (Nat.beq (qU C dst') 9 && Nat.beq (qU C src) 9)) = true := hq
   rw [Bool.or_eq_true,Bool.and_eq_true] at hq; exact hq
  unfold fA at h ⊢; dsimp only [opers,dB] at h ⊢
  split at h
  ·rename_i k n td Zq hx hd hs
   split at h
   ·rename_i k' hrow
    obtain ⟨hb,h⟩ := eU h
    exact ⟨_,h,fun K' pU tm' O' fF he _ => by rw [he x List.mem_cons_self,hx,hd,hs]; dsimp only; rw [hrow]; dsimp only; rw [hb]; rfl⟩
   ·cases h
  ·rename_i s td Zq hx hd hs
   cases hb : Nat.beq td.kd 9 with
   | true =>
    rw [hb,cond_true] at h
    exact ⟨_,h,fun K' pU tm' O' fF he _ => by rw [he x List.mem_cons_self,hx,hd,hs]; dsimp only; rw [hb]; rfl⟩
   | false =>
    exfalso
    have e : qU C dst' = td.kd := by unfold qU; rw [hd]
    rcases hk with hk | ⟨hk,_⟩
    ·rw [hb,cond_false] at h
     have hns : DC C dst' = none := by
      unfold DC; rw [hd]; dsimp only
      rw [<- e,Nat.eq_of_beq_eq_true hk]; rfl
     rw [hns] at h; cases h
    ·rw [e,hb] at hk; cases hk
  ·rename_i v td Zq hnx1 hnx2 hx hd hs
   exfalso
   split at h
   ·rename_i hsl
    have e : qU C dst' = td.kd := by unfold qU; rw [hd]
    rcases hk with hk | ⟨_,hk⟩
    ·split at h
     ·rename_i te hte
      obtain ⟨hb,h⟩ := eU h
      rw [Bool.and_eq_true] at hb
      rw [<- e,Nat.eq_of_beq_eq_true hk] at hb
      exact absurd hb.2 (by decide)
     ·cases h
    ·have e2 : qU C src = Zq.kd := by unfold qU; rw [hs]
     unfold DC at hsl
     rw [hs] at hsl
     dsimp only at hsl
     rw [<- e2,Nat.eq_of_beq_eq_true hk] at hsl
     cases hsl
   ·cases h
  ·cases h
 | call c =>
  obtain ⟨cal,args,tys⟩ := c
  cases cal with
  | builtin b =>
   cases b <;> first | (cases hq; done) | skip
   case len =>
    unfold fA at h ⊢; dsimp only [opers,dB] at h ⊢
    split at h
    ·rename_i s t ha ht
     obtain ⟨hb,h⟩ := fZ h
     exact ⟨_,h,fun K' pU tm' O' fF he _ => by rw [qJ (tm := tm) he,ha,ht]; dsimp only; rw [hb]; rfl⟩
    ·rename_i id t ha ht
     split at h
     ·rename_i q hq'
      split at h
      ·rename_i kt vt es hlo
       refine ⟨_,h,fun K' pU tm' O' fF he hO => ?_⟩
       rw [qJ (tm := tm) he,ha,ht]; dsimp only
       rw [hq']; dsimp only
       have e := hO id (by
        obtain ⟨x,hx1,hx2⟩ := Gh ha List.mem_cons_self
        exact dM hx1 hx2 List.mem_cons_self)
       rw [e,hlo]
      ·cases h
     ·cases h
    ·rename_i v t hnx hnx2 ha ht
     split at h
     ·rename_i ts hts
      split at h
      ·refine ⟨_,h,fun K' pU tm' O' fF he _ => ?_⟩
       rw [qJ (tm := tm) he,ha,ht]; dsimp only
       rw [hts]
      ·rename_i hnn
       split at h
       ·rename_i rr hr
        refine ⟨_,h,fun K' pU tm' O' fF he hO => ?_⟩
        rw [qJ (tm := tm) he,ha,ht]
        have e := lJ (v := v) (O := O) (O' := O') fun i hi => by
         obtain ⟨x,hx1,hx2⟩ := Gh ha List.mem_cons_self
         exact hO i (dM hx1 hx2 hi)
        cases v <;> first | exact absurd rfl (hnx _) | exact absurd rfl (hnx2 _) | exact absurd rfl hnn | (dsimp only; rw [hts]; dsimp only; rw [e,hr])
       ·cases h
     ·cases h
    ·cases h
   case min =>
    unfold fA at h ⊢; dsimp only [opers,dB] at h ⊢
    split at h
    ·rename_i k a k' b ha
     obtain ⟨hb,h⟩ := eU h
     exact ⟨_,h,fun K' pU tm' O' fF he _ => by rw [qJ (tm := tm) he,ha]; dsimp only; rw [hb]; rfl⟩
    ·cases h
   case max =>
    unfold fA at h ⊢; dsimp only [opers,dB] at h ⊢
    split at h
    ·rename_i k a k' b ha
     obtain ⟨hb,h⟩ := eU h
     exact ⟨_,h,fun K' pU tm' O' fF he _ => by rw [qJ (tm := tm) he,ha]; dsimp only; rw [hb]; rfl⟩
    ·cases h
  | _ => cases hq
 | _ => cases hq
end
end Go.E
end
section
namespace Go.E
section
variable {C : kG} {Rc : ak} {R : Type} {tm tm' : List (Nat × AV)} {O O' : bD}
theorem Hr (m : Md) (t : CT) (d : t.D) (n : Nat) : n <= (dA m t d n).2.2 ∧ ∀ q ∈ (dA m t d n).2.1,n <= q.1 := by
 cases t with
 | sl ts =>
  cases m with
  | mv => exact ⟨Nat.le_succ n,fun q hq => by obtain rfl := List.mem_singleton.1 hq; exact Nat.le_refl n⟩
  | ro => exact ⟨Nat.le_refl n,fun q hq => by cases hq⟩
  | leak => exact ⟨Nat.le_refl n,fun q hq => by cases hq⟩
 | _ => cases m <;> exact ⟨Nat.le_refl n,fun q hq => by cases hq⟩
theorem jA : ∀ (ts : cZ) (ms : List Md) (d : ts.D) (n : Nat),n <= (putCells ts ms d n).2.2 ∧ ∀ q ∈ (putCells ts ms d n).2.1,n <= q.1
 | .one t,ms,d,n => Hr _ t d n
 | .cons t ts,ms,d,n => by
  cases ht : jL t with
  | false =>
   have e : putCells (.cons t ts) ms d n = (t.av d.1 :: (putCells ts ms d.2 n).1,(putCells ts ms d.2 n).2.1,(putCells ts ms d.2 n).2.2) := by
    show (bif jL t then _ else _) = _
    rw [ht]; rfl
   rw [e]
   exact jA ts ms d.2 n
  | true =>
   have e : ∃ m ms',putCells (.cons t ts) ms d n = ((dA m t d.1 n).1 :: (putCells ts ms' d.2 (dA m t d.1 n).2.2).1,(putCells ts ms' d.2 (dA m t d.1 n).2.2).2.1 ++ (dA m t d.1 n).2.1,(putCells ts ms' d.2 (dA m t d.1 n).2.2).2.2) := by
    cases ms with
    | nil => exact ⟨.ro,[],by show (bif jL t then _ else _) = _; rw [ht]; rfl⟩
    | cons m ms' => exact ⟨m,ms',by show (bif jL t then _ else _) = _; rw [ht]; rfl⟩
   obtain ⟨m,ms',e⟩ := e
   rw [e]
   have h1 := Hr m t d.1 n
   have h2 := jA ts ms' d.2 (dA m t d.1 n).2.2
   exact ⟨Nat.le_trans h1.1 h2.1,fun q hq => (List.mem_append.1 hq).elim (fun x => Nat.le_trans h1.1 (h2.2 q x)) (h1.2 q)⟩
theorem zF {boxes : List Nat} {p : PT} {d : p.sh.D} {n : Nat} : n <= (dY boxes p d n).2.2 ∧ ∀ q ∈ (dY boxes p d n).2.1,q.1 ∈ boxes ∨ n <= q.1 := by
 match p,d with
 | ⟨.one t,ms⟩,d =>
  have e : dY boxes ⟨.one t,ms⟩ d n = putCells (.one t) ms d n := by cases ms <;> rfl
  rw [e]
  exact ⟨(jA (.one t) ms d n).1,fun q hq => .inr ((jA (.one t) ms d n).2 q hq)⟩
 | ⟨.agg ts,ms⟩,d => exact ⟨(jA ts ms d n).1,fun q hq => .inr ((jA ts ms d n).2 q hq)⟩
 | ⟨.pz,ms⟩,d => exact ⟨Nat.le_refl n,fun q hq => by cases hq⟩
 | ⟨.st ts,ms⟩,d =>
  cases boxes with
  | nil => exact ⟨(jA ts ms d n).1,fun q hq => .inr ((jA ts ms d n).2 q hq)⟩
  | cons b bs =>
   refine ⟨(jA ts ms d n).1,fun q hq => ?_⟩
   have hq : q ∈ (b,AO.box (putCells ts ms d n).1) :: (putCells ts ms d n).2.1 := hq
   rcases List.mem_cons.1 hq with e | hq
   ·subst e; exact .inl List.mem_cons_self
   ·exact .inr ((jA ts ms d n).2 q hq)
theorem JX : ∀ (ps : List PT) (boxes : List Nat) (d : FX ps) (n : Nat),∀ q ∈ (bZ boxes ps d n).2.1,q.1 ∈ boxes ∨ n <= q.1
 | [],boxes,d,n,q,hq => by cases hq
 | [p],boxes,d,n,q,hq => (zF (p := p) (d := d)).2 q hq
 | p :: p' :: r,boxes,d,n,q,hq => by
  have hq : q ∈ (bZ (bif fB p then mJ boxes else boxes) (p' :: r) d.2 (dY boxes p d.1 n).2.2).2.1 ++ (dY boxes p d.1 n).2.1 := hq
  have k := zF (boxes := boxes) (p := p) (d := d.1) (n := n)
  rcases List.mem_append.1 hq with hq | hq
  ·rcases JX (p' :: r) _ d.2 _ q hq with h | h
   ·left
    cases hp : fB p <;> rw [hp] at h
    ·exact h
    ·cases boxes with
     | nil => cases h
     | cons b bs => exact List.mem_cons_of_mem _ h
   ·exact .inr (Nat.le_trans k.1 h)
  ·exact k.2 q hq
theorem UO {l : bD} {i : Nat} (h : ∀ q ∈ l,q.1 ≠ i) : look l i = none := by
 induction l with
 | nil => rfl
 | cons p r ih =>
  obtain ⟨j,a⟩ := p
  show (bif Nat.beq j i then some a else look r i) = none
  rw [cO (h (j,a) List.mem_cons_self),cond_false]
  exact ih fun q hq => h q (List.mem_cons_of_mem _ hq)
theorem Ad : ∀ {l : List Nat} {i : Nat},i ∉ l -> look (iG l) i = none
 | [],_,_ => rfl
 | j :: r,i,h => by
  show (bif Nat.beq j i then some AO.dead else look (iG r) i) = none
  rw [cO fun e => h (by rw [e]; exact List.mem_cons_self),cond_false]
  exact Ad fun x => h (List.mem_cons_of_mem _ x)
theorem mX : ∀ {l : List Operand},(∀ x ∈ l,ev tm' x = ev tm x) -> dV tm' l = dV tm l
 | [],_ => rfl
 | x :: r,h => by
  unfold dV
  rw [h x List.mem_cons_self,mX fun y hy => h y (List.mem_cons_of_mem _ hy)]
theorem vJ : ∀ (t : CT) (x : AV),(∀ i ∈ x.ids,look O' i = look O i) -> t.je O' x = t.je O x
 | .sl ts,.own id,h => by
  show (match look O' id with | some (.arr ts' rows _) => jX ts' ts rows | _ => none) = _
  rw [h id List.mem_cons_self]; rfl
 | .int _,x,_ | .bool,x,_ | .str,x,_ => by cases x <;> rfl
 | .sl ts,.int ..,_ | .sl ts,.bool _,_ | .sl ts,.str _,_ | .sl ts,.aO,_ | .sl ts,.ro ..,_ | .sl ts,.fH,_ | .sl ts,.ptr ..,_ | .sl ts,.iJ ..,_ | .sl ts,.iY ..,_ | .sl ts,.aQ,_ | .sl ts,.func ..,_
 | .sl ts,.o7,_ | .sl ts,.iface ..,_ | .sl ts,.agg _,_ | .sl ts,.BJ _,_ | .sl ts,.undef,_ | .sl ts,.dead,_ | .sl ts,.mp _,_ | .sl ts,.raw _,_ | .sl ts,.sub ..,_ => rfl
theorem sZ : ∀ (ts : cZ) (xs : List AV),(∀ i ∈ AV.iK xs,look O' i = look O i) -> ts.iC O' xs = ts.iC O xs
 | .one t,[],_ => rfl
 | .one t,[x],h => vJ t x fun i hi => h i (List.mem_append.2 (.inl hi))
 | .one t,x :: y :: r,_ => rfl
 | .cons t ts,[],_ => rfl
 | .cons t ts,x :: xs,h => by
  show (match t.je O' x,ts.iC O' xs with | some d,some e => some (d,e) | _,_ => none) = _
  rw [vJ t x fun i hi => h i (List.mem_append.2 (.inl hi)),sZ ts xs fun i hi => h i (List.mem_append.2 (.inr hi))]; rfl
theorem Ol : ∀ (ts : cZ) (d : ts.D) (n : Nat) (x : AV),(∀ i ∈ x.ids,look O' i = look O i) -> ts.put O' d n x = ts.put O d n x
 | .one t,d,0,x,h => vJ t x h
 | .one t,d,n + 1,x,_ => rfl
 | .cons t ts,d,0,x,h => by show (t.je O' x).map _ = _; rw [vJ t x h]; rfl
 | .cons t ts,d,n + 1,x,h => by show (ts.put O' d.2 n x).map _ = _; rw [Ol ts d.2 n x h]; rfl
theorem JY (ts : cZ) : ∀ (xs : List AV) (d : ts.D) (n : Nat),(∀ i ∈ AV.iK xs,look O' i = look O i) -> ts.puts O' d n xs = ts.puts O d n xs
 | [],d,n,_ => rfl
 | x :: xs,d,n,h => by
  show (match ts.put O' d n x with | some e => ts.puts O' e (n + 1) xs | none => none) = _
  rw [Ol ts d n x fun i hi => h i (List.mem_append.2 (.inl hi))]
  show _ = (match ts.put O d n x with | some e => ts.puts O e (n + 1) xs | none => none)
  cases ts.put O d n x with
  | none => rfl
  | some e => exact JY ts xs e (n + 1) fun i hi => h i (List.mem_append.2 (.inr hi))
theorem Ae (ts : cZ) : ∀ (n : Nat) (xs : List AV),(∀ i ∈ AV.iK xs,look O' i = look O i) -> mQ O' ts n xs = mQ O ts n xs
 | 0,[],_ => rfl
 | 0,_ :: _,_ => rfl
 | n + 1,xs,h => by
  have tk : ∀ (k : Nat) (xs l : List AV),takeN k xs = some l -> (∀ i ∈ AV.iK l,i ∈ AV.iK xs) := by
   intro k
   induction k with
   | zero => intro xs l hl i hi; cases hl; cases hi
   | succ k ih =>
    intro xs l hl i hi
    cases xs with
    | nil => cases hl
    | cons y ys =>
     obtain ⟨z,hz,rfl⟩ := Option.map_eq_some_iff.1 (show (takeN k ys).map (y :: ·) = some l from hl)
     rcases List.mem_append.1 (show i ∈ y.ids ++ AV.iK z from hi) with hi | hi
     ·exact List.mem_append.2 (.inl hi)
     ·exact List.mem_append.2 (.inr (ih ys z hz i hi))
  have dk : ∀ (k : Nat) (xs : List AV),(∀ i ∈ AV.iK (rY k xs),i ∈ AV.iK xs) := by
   intro k
   induction k with
   | zero => intro xs i hi; cases xs <;> exact hi
   | succ k ih =>
    intro xs i hi
    cases xs with
    | nil => exact hi
    | cons y ys => exact List.mem_append.2 (.inr (ih ys i hi))
  have e : ∀ O : bD,mQ O ts (n + 1) xs = match takeN ts.n xs with
   | some l => match ts.iC O l,mQ O ts n (rY ts.n xs) with
    | some d,some ds => some (d :: ds)
    | _,_ => none
   | none => none := fun O => by cases xs <;> rfl
  rw [e,e]
  cases hl : takeN ts.n xs with
  | none => rfl
  | some l =>
   dsimp only
   rw [sZ ts l fun i hi => h i (tk _ _ _ hl i hi),Ae ts n _ fun i hi => h i (dk _ _ i hi)]
theorem wH : ∀ (l : List Nat),(∀ i ∈ l,look O' i = look O i) -> lC O' l = lC O l
 | [],_ => rfl
 | i :: r,h => by
  unfold lC
  rw [h i List.mem_cons_self,wH r fun j hj => h j (List.mem_cons_of_mem _ hj)]
theorem EY (x : AV) (h : ∀ i ∈ x.ids,look O' i = look O i) : DJ O' x = DJ O x := by
 cases x with
 | own id => exact wH [id] h
 | ro ts rows deps => exact wH deps h
 | _ => rfl
theorem rE : ∀ (xs : List AV),(∀ i ∈ AV.iK xs,look O' i = look O i) -> oD O' xs = oD O xs
 | [],_ => rfl
 | x :: xs,h => by
  unfold oD
  rw [EY x fun i hi => h i (List.mem_append.2 (.inl hi)),rE xs fun i hi => h i (List.mem_append.2 (.inr hi))]
theorem QM (m : Md) (x : AV) (h : ∀ i ∈ x.ids,look O' i = look O i) : sD m O' x = sD m O x := by
 cases m with
 | leak => unfold sD; rw [EY x h]
 | _ => rfl
theorem uD : ∀ (ts : List CT) (ms : List Md) (xs : List AV),(∀ i ∈ AV.iK xs,look O' i = look O i) -> gX O' ts ms xs = gX O ts ms xs
 | [],_,[],_ => rfl
 | [],_,_ :: _,_ => rfl
 | _ :: _,_,[],_ => rfl
 | t :: ts,ms,x :: xs,h => by
  unfold gX
  have h1 : ∀ ms,gX O' ts ms xs = gX O ts ms xs := fun ms => uD ts ms xs fun i hi => h i (List.mem_append.2 (.inr hi))
  have h2 : ∀ m,sD m O' x = sD m O x := fun m => QM m x fun i hi => h i (List.mem_append.2 (.inl hi))
  cases ms with
  | nil => rw [h1]
  | cons m ms => dsimp only; rw [h1,h1,h2]
def Alike (O O' : bD) (l : List Nat) : Prop := (∀ i ∈ l,look O' i = look O i) ∧ ∀ i ∈ l,∀ cs,look O i = some (.box cs) -> ∀ j ∈ AV.iK cs,look O' j = look O j
theorem EZ (p : PT) (x : AV) (h : Alike O O' x.ids) : getArg O' p x = getArg O p x := by
 match p with
 | ⟨.one t,ms⟩ =>
  show (match t.je O' x,gX O' [t] ms [x] with | some d,some (a,b,c) => some (d,a,b,c,([] : List Nat)) | _,_ => none) = _
  rw [vJ t x h.1,uD [t] ms [x] fun i hi => h.1 i (by simpa [AV.iK] using hi)]; rfl
 | ⟨.agg ts,ms⟩ =>
  cases x with
  | agg cs =>
   show (match ts.iC O' cs,gX O' ts.list ms cs with | some d,some (a,b,c) => some (d,a,b,c,([] : List Nat)) | _,_ => none) = _
   rw [sZ ts cs h.1,uD ts.list ms cs h.1]; rfl
  | _ => rfl
 | ⟨.pz,ms⟩ => rfl
 | ⟨.st ts,ms⟩ =>
  cases x with
  | ptr id off =>
   cases off with
   | succ _ => rfl
   | zero =>
    show (match look O' id with
     | some (.box cs) => match ts.iC O' cs,gX O' ts.list ms cs with
      | some d,some (a,b,c) => some (d,a,b,c,[id])
      | _,_ => none
     | _ => none) = (match look O id with
     | some (.box cs) => match ts.iC O cs,gX O ts.list ms cs with
      | some d,some (a,b,c) => some (d,a,b,c,[id])
      | _,_ => none
     | _ => none)
    rw [h.1 id List.mem_cons_self]
    cases hl : look O id with
    | none => rfl
    | some a =>
     cases a with
     | box cs =>
      have hc := h.2 id List.mem_cons_self cs hl
      dsimp only
      rw [sZ ts cs hc,uD ts.list ms cs hc]
     | _ => rfl
  | _ => rfl
theorem Alike.left {a b : List Nat} (h : Alike O O' (a ++ b)) : Alike O O' a := ⟨fun i hi => h.1 i (List.mem_append.2 (.inl hi)),fun i hi => h.2 i (List.mem_append.2 (.inl hi))⟩
theorem Alike.right {a b : List Nat} (h : Alike O O' (a ++ b)) : Alike O O' b := ⟨fun i hi => h.1 i (List.mem_append.2 (.inr hi)),fun i hi => h.2 i (List.mem_append.2 (.inr hi))⟩
theorem rF : ∀ (ps : List PT) (xs : List AV),Alike O O' (AV.iK xs) -> getArgs O' ps xs = getArgs O ps xs
 | [],[],_ => rfl
 | [],_ :: _,_ => rfl
 | [p],[],_ => rfl
 | [p],[x],h => EZ p x (Alike.left (b := []) h)
 | [p],_ :: _ :: _,_ => rfl
 | _ :: _ :: _,[],_ => rfl
 | _ :: _ :: _,[_],_ => rfl
 | p :: q :: r,x :: y :: xs,h => by
  show (match getArg O' p x,getArgs O' (q :: r) (y :: xs) with
   | some (d,a,b,c,e),some (d',a',b',c',e') => some ((d,d'),a ++ a',b ++ b',c ++ c',e ++ e')
   | _,_ => none) = _
  rw [EZ p x (Alike.left (a := x.ids) (b := AV.iK (y :: xs)) h),rF (q :: r) (y :: xs) (Alike.right (a := x.ids) (b := AV.iK (y :: xs)) h)]; rfl
theorem uF : ∀ (a b : List AV),AV.iK (a ++ b) = AV.iK a ++ AV.iK b
 | [],b => rfl
 | x :: a,b => by show x.ids ++ AV.iK (a ++ b) = (x.ids ++ AV.iK a) ++ AV.iK b; rw [uF a b,List.append_assoc]
theorem Af (ts : cZ) : ∀ (vs : List (Nat × AV)) (rs : List ts.D),(∀ i ∈ AV.iK (vs.map (·.2)),look O' i = look O i) -> oG O' ts rs vs = oG O ts rs vs
 | [],rs,_ => rfl
 | (j,v) :: r,rs,h => by
  have hv : ∀ i ∈ AV.iK v.cells,look O' i = look O i := fun i hi => h i (List.mem_append.2 (.inl (by
   cases v <;> first | exact hi | (simpa [AV.cells,AV.iK,AV.ids] using hi))))
  have hr : ∀ rs,oG O' ts rs r = oG O ts rs r := fun rs => Af ts r rs fun i hi => h i (List.mem_append.2 (.inr hi))
  unfold oG
  rw [sZ ts v.cells hv]
  cases ts.iC O v.cells with
  | none => rfl
  | some d => dsimp only; rw [hr]
theorem DX (v : AV) {i : Nat} (h : i ∈ AV.iK v.cells) : i ∈ v.ids := by
 cases v <;> first | exact h | (simpa [AV.cells,AV.iK,AV.ids] using h)
theorem Om : ∀ {ps : List (Nat × Operand)} {vs : List (Nat × AV)} {i : Nat},Js tm ps = some vs -> i ∈ AV.iK (vs.map (·.2)) -> i ∈ dV tm (ps.map (·.2))
 | [],vs,i,h,hi => by cases h; cases hi
 | (j,x) :: r,vs,i,h,hi => by
  unfold Js at h
  split at h
  ·rename_i v us h1 h2
   cases h
   show i ∈ (match ev tm x with | some v => v.ids | none => []) ++ dV tm (r.map (·.2))
   rw [h1]
   rcases List.mem_append.1 hi with hi | hi
   ·exact List.mem_append.2 (.inl hi)
   ·exact List.mem_append.2 (.inr (Om h2 hi))
  ·cases h
theorem Tc {l : List Operand} {vs : List AV} {i : Nat} (h : evs tm l = some vs) (hi : i ∈ AV.iK vs) : i ∈ dV tm l := by
 induction l generalizing vs with
 | nil => cases h; cases hi
 | cons x r ih =>
  unfold evs at h
  split at h
  ·rename_i u us h1 h2
   cases h
   show i ∈ (match ev tm x with | some v => v.ids | none => []) ++ dV tm r
   rw [h1]
   rcases List.mem_append.1 hi with hi | hi
   ·exact List.mem_append.2 (.inl hi)
   ·exact List.mem_append.2 (.inr (ih h2 hi))
  ·cases h
theorem vK {op : Op} (h : ∀ x ∈ opers op,ev tm' x = ev tm x) : callee C tm' op = callee C tm op := by
 cases op with
 | call c =>
  obtain ⟨cal,args,tys⟩ := c
  cases cal with
  | builtin b => rfl
  | value f => unfold callee; dsimp only; rw [h f List.mem_cons_self,qJ (tm := tm) fun x hx => h x (List.mem_cons_of_mem _ hx)]
  | invoke x m => unfold callee; dsimp only; rw [h x List.mem_cons_self,qJ (tm := tm) fun x hx => h x (List.mem_cons_of_mem _ hx)]
 | _ => rfl
theorem QN {op : Op} {g : FuncId} {vs : List AV} (hc : callee C tm op = some (g,vs)) {i : Nat} (hi : i ∈ AV.iK vs) : i ∈ dV tm (opers op) := by
 unfold callee at hc
 split at hc
 ·rename_i f args tys
  split at hc
  ·rename_i g' a b us hf ha
   cases hc
   show i ∈ (match ev tm f with | some v => v.ids | none => []) ++ dV tm args.toList
   rw [hf]
   rw [uF,uF] at hi
   rcases List.mem_append.1 hi with hi | hi
   ·exact List.mem_append.2 (.inl (List.mem_append.2 (.inl hi)))
   ·rcases List.mem_append.1 hi with hi | hi
    ·exact List.mem_append.2 (.inr (Tc ha hi))
    ·exact List.mem_append.2 (.inl (List.mem_append.2 (.inr hi)))
  ·cases hc
 ·rename_i x m args tys
  split at hc
  ·rename_i t v us hf ha
   split at hc
   ·cases hc
    show i ∈ (match ev tm x with | some v => v.ids | none => []) ++ dV tm args.toList
    rw [hf]
    rcases List.mem_append.1 (show i ∈ v.ids ++ AV.iK us from hi) with hi | hi
    ·exact List.mem_append.2 (.inl hi)
    ·exact List.mem_append.2 (.inr (Tc ha hi))
   ·cases hc
  ·cases hc
 ·cases hc
theorem kP {o : Oper} (h : ∀ i ∈ kK tm O o,look O' i = look O i) : Alike O O' (dV tm (opers o.op)) := by
 refine ⟨fun i hi => h i (List.mem_append.2 (.inl hi)),fun i hi cs hl j hj => h j (List.mem_append.2 (.inr ?_))⟩
 have : ∀ (l : List Nat),i ∈ l -> j ∈ iR O l := by
  intro l
  induction l with
  | nil => intro h; cases h
  | cons k r ih =>
   intro hk
   show j ∈ (match look O k with | some (.box cs) => AV.iK cs | _ => []) ++ iR O r
   rcases List.mem_cons.1 hk with e | hk
   ·subst e; rw [hl]; exact List.mem_append.2 (.inl hj)
   ·exact List.mem_append.2 (.inr (ih hk))
 exact this _ hi
theorem Alike.sub {a b : List Nat} (h : Alike O O' b) (k : ∀ i ∈ a,i ∈ b) : Alike O O' a := ⟨fun i hi => h.1 i (k i hi),fun i hi => h.2 i (k i hi)⟩
end
end Go.E
end
section
namespace Go.E
section
variable {C : kG} {Rc : ak} {R : Type} {tm tm' : List (Nat × AV)} {O O' : bD}
theorem DY : ∀ (ps : List PT) (boxes : List Nat) (d : FX ps) (n : Nat),n <= (bZ boxes ps d n).2.2
 | [],boxes,d,n => Nat.le_refl n
 | [p],boxes,d,n => (zF (p := p) (d := d)).1
 | p :: p' :: r,boxes,d,n => Nat.le_trans (zF (boxes := boxes) (p := p) (d := d.1) (n := n)).1 (DY (p' :: r) _ d.2 _)
structure UQ (C : kG) (Rc : ak) (tm : List (Nat × AV)) (O : bD) (ay : Nat) (o : Oper) (v : AV) (pre : bD) (dP : Nat) (es : List Eff) : Prop where
 again : ∀ {R' : Type} (K' : KK R') (tm' : List (Nat × AV)) (O' : bD),(∀ x ∈ opers o.op,ev tm' x = ev tm x) -> (∀ i ∈ kK tm O o,look O' i = look O i) -> fA C Rc tm' O' ay o K' = K' v (pre ++ O') dP es
 frame : ∀ i,i < ay -> i ∉ touched C tm O o -> look pre i = none
 le : ay <= dP
theorem AQ {o : Oper} (he : ∀ x ∈ opers o.op,ev tm' x = ev tm x) (hO : ∀ i ∈ kK tm O o,look O' i = look O i) : kK tm' O' o = kK tm O o := by
 unfold kK at hO ⊢
 rw [mX he]
 have : ∀ (l : List Nat),(∀ i ∈ l,look O' i = look O i) -> iR O' l = iR O l := by
  intro l
  induction l with
  | nil => intro _; rfl
  | cons k r ih =>
   intro h
   unfold iR
   rw [h k List.mem_cons_self,ih fun i hi => h i (List.mem_cons_of_mem _ hi)]
 rw [this _ fun i hi => hO i (List.mem_append.2 (.inl hi))]
theorem oL {o : Oper} {g : FuncId} {vs : List AV} (hf : callee C tm o.op = some (g,vs)) (hO : ∀ i ∈ kK tm O o,look O' i = look O i) : Alike O O' (AV.iK vs) :=
 (kP hO).sub fun _ hi => QN hf hi
theorem CO {o : Oper} (h : ∀ x ∈ opers o.op,ev tm' x = ev tm x) (hO : ∀ i ∈ kK tm O o,look O' i = look O i) :
  (match callee C tm' o.op with
  | some (g,vs) => match look C.sig g with
   | some s => match getArgs O' s.ps vs with
    | some (_,_,moved,_,boxes) => bif s.lk then [] else moved ++ boxes
    | none => []
   | none => []
  | none => []) = (match callee C tm o.op with
  | some (g,vs) => match look C.sig g with
   | some s => match getArgs O s.ps vs with
    | some (_,_,moved,_,boxes) => bif s.lk then [] else moved ++ boxes
    | none => []
   | none => []
  | none => []) := by
 rw [vK h]
 split
 ·rename_i g vs hc
  have hal := oL hc hO
  cases look C.sig g with
  | none => rfl
  | some s => dsimp only; rw [rF s.ps _ hal]
 ·rfl
theorem UR {α : Type} {l : List α} {y : α} (h : y ∈ VH l) : y ∈ l := by
 cases l with
 | nil => exact h
 | cons x r => obtain rfl := List.mem_singleton.1 h; exact List.mem_cons_self
theorem AU {o : Oper} (h : ∀ x ∈ opers o.op,ev tm' x = ev tm x) (hO : ∀ i ∈ kK tm O o,look O' i = look O i) : touched C tm' O' o = touched C tm O o := by
 obtain ⟨dst,op,ty,pos,aft,guard⟩ := o
 cases op with
 | store t a x => exact mX fun y hy => h y (by obtain rfl := List.mem_singleton.1 hy; exact List.mem_cons_self)
 | call c =>
  obtain ⟨cal,args,tys⟩ := c
  cases cal with
  | builtin b => exact mX fun y hy => h y (UR hy)
  | value f => exact CO h hO
  | invoke x m => exact CO h hO
 | _ => rfl
theorem rG : ∀ (cs cs' : List AV) {x : Option R} {r : R},jk cs cs' x = some r -> cs = cs' ∧ x = some r ∧ ∀ {R' : Type} (y : Option R'),jk cs cs' y = y
 | [],[],x,r,h => ⟨rfl,h,fun y => rfl⟩
 | .int k a :: l,.int k' b :: l',x,r,h => by
  have h : (bif xM k k' then chk (a = b) (jk l l' x) else none) = some r := h
  obtain ⟨hb,h⟩ := eU h
  obtain ⟨hp,h,hc⟩ := bU h
  obtain ⟨e,h,hd⟩ := rG l l' h
  refine ⟨by rw [hp,e,vY hb],h,fun y => ?_⟩
  show (bif xM k k' then chk (a = b) (jk l l' y) else none) = y
  rw [hb,cond_true,hc,hd]
 | .bool a :: l,.bool b :: l',x,r,h => by
  have h : chk (a = b) (jk l l' x) = some r := h
  obtain ⟨hp,h,hc⟩ := bU h
  obtain ⟨e,h,hd⟩ := rG l l' h
  refine ⟨by rw [hp,e],h,fun y => ?_⟩
  show chk (a = b) (jk l l' y) = y
  rw [hc,hd]
 | .str a :: l,.str b :: l',x,r,h => by
  have h : chk (a = b) (jk l l' x) = some r := h
  obtain ⟨hp,h,hc⟩ := bU h
  obtain ⟨e,h,hd⟩ := rG l l' h
  refine ⟨by rw [hp,e],h,fun y => ?_⟩
  show chk (a = b) (jk l l' y) = y
  rw [hc,hd]
theorem wI {bs : List Nat} {O : bD} : ∀ (o : bD) {x : Option R} {r : R},kR bs O o x = some r -> x = some r ∧ ∀ {R' : Type} (y : Option R') (O' : bD),(∀ b ∈ bs,look O' b = look O b) -> (∀ q ∈ o,look O' q.1 = some q.2) ∧ kR bs O' o y = y
 | [],x,r,h => ⟨h,fun y O' _ => ⟨fun q hq => (by cases hq),rfl⟩⟩
 | (b,.box cs) :: l,x,r,h => by
  have h : (match look O b with
   | some (.box cs') => bif dJ b bs then jk cs cs' (kR bs O l x) else none
   | _ => none) = some r := h
  split at h
  ·rename_i cs' hl
   obtain ⟨hb,h⟩ := eU h
   obtain ⟨e,h0,hc⟩ := rG cs cs' h
   obtain ⟨h1,hd⟩ := wI l h0
   subst e
   refine ⟨h1,fun y O' hO => ?_⟩
   obtain ⟨g1,g2⟩ := hd y O' hO
   have hl' : look O' b = some (.box cs) := (hO b (dZ.1 hb)).trans hl
   refine ⟨fun q hq => ?_,?_⟩
   ·rcases List.mem_cons.1 hq with z | hq
    ·rw [z]; exact hl'
    ·exact g1 q hq
   ·show (match look O' b with
     | some (.box cs') => bif dJ b bs then jk cs cs' (kR bs O' l y) else none
     | _ => none) = y
    rw [hl']
    dsimp only
    rw [hb,cond_true,hc,g2]
  ·cases h
 | (b,.arr _ _ _) :: l,x,r,h => by cases h
 | (b,.map _) :: l,x,r,h => by cases h
 | (b,.dead) :: l,x,r,h => by cases h
theorem CP {O : bD} {p : PT} {x : AV} {d : p.sh.D} {es : List Eff} {mo us bs : List Nat} (h : getArg O p x = some (d,es,mo,us,bs)) : ∀ b ∈ bs,b ∈ x.ids := by
 match p,d,h with
 | ⟨.one t,ms⟩,d,h =>
  have h : (match t.je O x,gX O [t] ms [x] with | some d,some (a,b,c) => some (d,a,b,c,([] : List Nat)) | _,_ => none) = some (d,es,mo,us,bs) := h
  split at h
  ·cases h; intro b hb; cases hb
  ·cases h
 | ⟨.agg ts,ms⟩,d,h =>
  cases x with
  | agg cs =>
   have h : (match ts.iC O cs,gX O ts.list ms cs with | some d,some (a,b,c) => some (d,a,b,c,([] : List Nat)) | _,_ => none) = some (d,es,mo,us,bs) := h
   split at h
   ·cases h; intro b hb; cases hb
   ·cases h
  | _ => cases h
 | ⟨.pz,ms⟩,d,h =>
  cases x with
  | agg cs =>
   cases cs with
   | nil => cases h; intro b hb; cases hb
   | cons _ _ => cases h
  | _ => cases h
 | ⟨.st ts,ms⟩,d,h =>
  cases x with
  | ptr id off =>
   cases off with
   | succ _ => cases h
   | zero =>
    have h : (match look O id with
     | some (.box cs) => match ts.iC O cs,gX O ts.list ms cs with
      | some d,some (a,b,c) => some (d,a,b,c,[id])
      | _,_ => none
     | _ => none) = some (d,es,mo,us,bs) := h
    split at h
    ·split at h
     ·cases h; intro b hb; exact hb
     ·cases h
    ·cases h
  | _ => cases h
theorem Ag {O : bD} : ∀ (ps : List PT) (xs : List AV) {d : FX ps} {es : List Eff} {mo us bs : List Nat},getArgs O ps xs = some (d,es,mo,us,bs) -> ∀ b ∈ bs,b ∈ AV.iK xs
 | [],[],_,_,_,_,_,h => by cases h; intro b hb; cases hb
 | [p],[x],d,es,mo,us,bs,h => fun b hb => by
  have := CP (p := p) h b hb
  show b ∈ x.ids ++ []
  rw [List.append_nil]; exact this
 | p :: q :: r,x :: y :: xs,d,es,mo,us,bs,h => by
  have h : (match getArg O p x,getArgs O (q :: r) (y :: xs) with
   | some (d,a,b,c,e),some (d',a',b',c',e') => some ((d,d'),a ++ a',b ++ b',c ++ c',e ++ e')
   | _,_ => none) = some (d,es,mo,us,bs) := h
  split at h
  ·rename_i h1 h2
   cases h
   intro b hb
   rcases List.mem_append.1 hb with z | z
   ·exact List.mem_append.2 (.inl (CP h1 b z))
   ·exact List.mem_append.2 (.inr (Ag (q :: r) (y :: xs) h2 b z))
  ·cases h
theorem Oo {o : Oper} {K : KK R} {r : R} {ay : Nat} (hA : ∀ {R' : Type} (tm : List (Nat × AV)) (O : bD) (ay : Nat) (K : KK R'),fA C Rc tm O ay o K = match callee C tm o.op with
  | some (g,vs) => match look C.sig g with
   | some s => qN Rc g s O ay vs K
   | none => none
  | none => none) (hT : touched C tm O o = match callee C tm o.op with
  | some (g,vs) => match look C.sig g with
   | some s => match getArgs O s.ps vs with
    | some (_,_,moved,_,boxes) => bif s.lk then [] else moved ++ boxes
    | none => []
   | none => []
  | none => []) (h : fA C Rc tm O ay o K = some r) : ∃ v pre dP es,K v (pre ++ O) dP es = some r ∧ UQ C Rc tm O ay o v pre dP es := by
 rw [hA] at h
 split at h
 ·rename_i g vs FV
  split at h
  ·rename_i s hs
   unfold qN at h
   split at h
   ·rename_i d iF moved used boxes hg
    obtain ⟨hb,h⟩ := eU h
    cases hrc : Rc g s d with
    | none => rw [hrc] at h; cases h
    | some rr =>
     rw [hrc] at h
     have h : (bif s.lk then (bif iF.isEmpty && moved.isEmpty then kR boxes O (bZ boxes s.rs rr ay).2.1 (K (jy (bZ boxes s.rs rr ay).1) O (bZ boxes s.rs rr ay).2.2 []) else none)
      else K (jy (bZ boxes s.rs rr ay).1) ((bZ boxes s.rs rr ay).2.1 ++ (iG moved ++ O)) (bZ boxes s.rs rr ay).2.2 iF) = some r := h
     cases hlk : s.lk with
     | true =>
      rw [hlk,cond_true] at h
      obtain ⟨hem,h⟩ := eU h
      ·obtain ⟨h1,h2⟩ := wI (bZ boxes s.rs rr ay).2.1 h
       refine ⟨_,[],_,_,h1,fun K' tm' O' he hO => ?_,fun i hi hni => rfl,DY s.rs boxes rr ay⟩
       rw [hA,vK he,FV]; dsimp only
       rw [hs]; dsimp only
       unfold qN
       rw [rF s.ps _ (oL FV hO),hg]; dsimp only
       rw [hb,cond_true,hrc]
       show (bif s.lk then (bif iF.isEmpty && moved.isEmpty then kR boxes O' (bZ boxes s.rs rr ay).2.1 (K' (jy (bZ boxes s.rs rr ay).1) O' (bZ boxes s.rs rr ay).2.2 []) else none) else _) = _
       rw [hlk,cond_true,hem,cond_true]
       exact (h2 _ O' fun b hb => (oL FV hO).1 b (Ag s.ps vs hg b hb)).2
     | false =>
     rw [hlk,cond_false] at h
     rw [<- List.append_assoc] at h
     refine ⟨_,_,_,_,h,fun K' tm' O' he hO => ?_,fun i hi hni => ?_,DY s.rs boxes rr ay⟩
     ·rw [hA,vK he,FV]; dsimp only
      rw [hs]; dsimp only
      unfold qN
      rw [rF s.ps _ (oL FV hO),hg]; dsimp only
      rw [hb,cond_true,hrc,List.append_assoc]
      show (bif s.lk then _ else K' (jy (bZ boxes s.rs rr ay).1) ((bZ boxes s.rs rr ay).2.1 ++ (iG moved ++ O')) (bZ boxes s.rs rr ay).2.2 iF) = _
      rw [hlk,cond_false]
     ·rw [hT,FV] at hni
      dsimp only at hni
      rw [hs] at hni; dsimp only at hni
      rw [hg] at hni
      dsimp only at hni
      rw [hlk,cond_false] at hni
      have hm : i ∉ moved := fun x => hni (List.mem_append.2 (.inl x))
      have hbx : i ∉ boxes := fun x => hni (List.mem_append.2 (.inr x))
      have h1 : look (bZ boxes s.rs rr ay).2.1 i = none := UO fun q hq e => by
       rcases JX s.rs boxes rr ay q hq with x | x
       ·exact hbx (by rw [<- e]; exact x)
       ·omega
      rw [iH,h1]
      exact Ad hm
   ·cases h
  ·cases h
 ·cases h
theorem WM {o : Oper} (hmo : NP o = false) (hq : quiet C o = false) (hn : xQ o = false) {K : KK R} {r : R} {ay : Nat} (h : fA C Rc tm O ay o K = some r) : ∃ v pre dP es,K v (pre ++ O) dP es = some r ∧ UQ C Rc tm O ay o v pre dP es := by
 obtain ⟨dst,op,ty,pos,aft,guard⟩ := o
 have new : ∀ (a : AO) (i : Nat),i < ay -> look [(ay,a)] i = none := fun a i hi => by
  show (bif Nat.beq ay i then some a else none) = none
  rw [cO (Nat.ne_of_gt hi)]; rfl
 have at_ : ∀ (id : Nat) (a : AO) (i : Nat),i ≠ id -> look [(id,a)] i = none := fun id a i hi => by
  show (bif Nat.beq id i then some a else none) = none
  rw [cO fun e => hi e.symm]; rfl
 cases op with
 | store t a x =>
  unfold fA at h; dsimp only at h
  split at h
  ·rename_i ti id off v hl ha hx
   split at h
   ·rename_i cs hlo
    obtain ⟨hb,h⟩ := fZ h
    split at h
    ·rename_i cs' hcs
     refine ⟨_,[(id,.box cs')],_,_,h,fun K' tm' O' he hO => ?_,fun i hi ht => at_ id _ i fun e => ht ?_,Nat.le_refl _⟩
     ·unfold fA; dsimp only
      rw [he a (by simp [opers]),he x (by simp [opers]),hl,ha,hx]; dsimp only
      rw [(kP hO).1 id (dM (x := a) (by simp [opers]) ha List.mem_cons_self),hlo]; dsimp only
      rw [hb,cond_false,hcs]; rfl
     ·subst e; exact dM List.mem_cons_self ha List.mem_cons_self
    ·cases h
   ·cases h
  ·rename_i ti id j off v hl ha hx
   split at h
   ·rename_i ts rows hlo
    obtain ⟨hb,h⟩ := fZ h
    split at h
    ·rename_i ts' n har
     split at h
     ·rename_i rs iF h1 h2
      obtain ⟨hb2,h⟩ := fZ h
      obtain ⟨_,h,c1⟩ := bU h
      refine ⟨_,[(id,.arr ts (zi rows j.toNat rs) true)],_,_,h,fun K' tm' O' he hO => ?_,fun i hi ht => at_ id _ i fun e => ht ?_,Nat.le_refl _⟩
      ·have hv : ∀ i ∈ AV.iK v.cells,look O' i = look O i := fun i hi => (kP hO).1 i (dM (x := x) (by simp [opers]) hx (DX v hi))
       unfold fA; dsimp only
       rw [he a (by simp [opers]),he x (by simp [opers]),hl,ha,hx]; dsimp only
       rw [(kP hO).1 id (dM (x := a) (by simp [opers]) ha List.mem_cons_self),hlo]; dsimp only
       rw [hb,cond_false,har]; dsimp only
       rw [Ae ts n v.cells hv,rE v.cells hv,h1,h2]; dsimp only
       rw [hb2,cond_false,c1]; rfl
      ·subst e; exact dM List.mem_cons_self ha List.mem_cons_self
     ·cases h
    rename_i har
    split at h
    ·rename_i row iF h1 h2
     obtain ⟨hb2,h⟩ := fZ h
     refine ⟨_,[(id,.arr ts (rows.set j.toNat row) true)],_,_,h,fun K' tm' O' he hO => ?_,fun i hi ht => at_ id _ i fun e => ht ?_,Nat.le_refl _⟩
     ·have hv : ∀ i ∈ AV.iK v.cells,look O' i = look O i := fun i hi => (kP hO).1 i (dM (x := x) (by simp [opers]) hx (DX v hi))
      unfold fA; dsimp only
      rw [he a (by simp [opers]),he x (by simp [opers]),hl,ha,hx]; dsimp only
      rw [(kP hO).1 id (dM (x := a) (by simp [opers]) ha List.mem_cons_self),hlo]; dsimp only
      rw [hb,cond_false,har]; dsimp only
      rw [JY ts v.cells _ _ hv,rE v.cells hv,h1,h2]; dsimp only
      rw [hb2]; rfl
     ·subst e; exact dM List.mem_cons_self ha List.mem_cons_self
    ·cases h
   ·cases h
  ·cases h
 | convert src dst' x =>
  unfold fA at h; dsimp only at h
  split at h
  ·rename_i k n td Zq hx hd hs
   split at h
   ·rename_i k' hrow
    obtain ⟨hb,h⟩ := eU h
    exact ⟨_,[],_,_,h,fun K' tm' O' he _ => by unfold fA; dsimp only; rw [he x List.mem_cons_self,hx,hd,hs]; dsimp only; rw [hrow]; dsimp only; rw [hb]; rfl,fun i _ _ => rfl,Nat.le_refl _⟩
   ·cases h
  ·rename_i s td Zq hx hd hs
   cases hb : Nat.beq td.kd 9 with
   | true =>
    rw [hb,cond_true] at h
    exact ⟨_,[],_,_,h,fun K' tm' O' he _ => by unfold fA; dsimp only; rw [he x List.mem_cons_self,hx,hd,hs]; dsimp only; rw [hb]; rfl,fun i _ _ => rfl,Nat.le_refl _⟩
   | false =>
    rw [hb,cond_false] at h
    split at h
    ·rename_i hsl
     split at h
     ·rename_i te hte
      obtain ⟨hb2,h⟩ := eU h
      exact ⟨_,[(ay,.arr (.one (.int .u8)) (ug s) true)],_,_,h,fun K' tm' O' he _ => by unfold fA; dsimp only; rw [he x List.mem_cons_self,hx,hd,hs]; dsimp only; rw [hb,cond_false,hsl]; dsimp only; rw [hte]; dsimp only; rw [hb2]; rfl,fun i hi _ => new _ i hi,Nat.le_succ _⟩
     ·cases h
    ·cases h
  ·rename_i v td Zq hnx1 hnx2 hx hd hs
   split at h
   ·rename_i hsl
    split at h
    ·rename_i te hte
     obtain ⟨hb,h⟩ := eU h
     split at h
     ·refine ⟨_,[],_,_,h,fun K' tm' O' he _ => ?_,fun i _ _ => rfl,Nat.le_refl _⟩
      unfold fA; dsimp only; rw [he x List.mem_cons_self,hx,hd,hs]; dsimp only
      rw [hsl]; dsimp only
      rw [hte]; dsimp only
      rw [hb]; rfl
     ·rename_i hnn
      split at h
      ·rename_i rr hr
       split at h
       ·rename_i l hc
        refine ⟨_,[],_,_,h,fun K' tm' O' he hO => ?_,fun i _ _ => rfl,Nat.le_refl _⟩
        have e := lJ (v := v) (O := O) (O' := O') fun i hi => (kP hO).1 i (dM (x := x) List.mem_cons_self hx hi)
        unfold fA; dsimp only; rw [he x List.mem_cons_self,hx,hd,hs]
        cases v <;> first | exact absurd rfl (hnx1 _ _) | exact absurd rfl (hnx2 _) | exact absurd rfl hnn | (dsimp only; rw [hsl]; dsimp only; rw [hte]; dsimp only; rw [hb,cond_true,e,hr]; dsimp only; rw [hc]; rfl)
       ·cases h
      ·cases h
    ·cases h
   ·cases h
  ·cases h
 | call c =>
  obtain ⟨cal,args,tys⟩ := c
  cases cal with
  | builtin b =>
   cases b <;> first | (cases hmo; done) | (cases hq; done) | (unfold fA at h; cases h; done) | skip
   case append =>
    unfold fA at h; dsimp only at h
    split at h
    ·rename_i x y t t' ha ht
     split at h
     ·rename_i ti row hl hrow
      obtain ⟨hb,h⟩ := fZ h
      have app : ∃ v pre dP es,K v (pre ++ O) dP es = some r ∧ (∀ {R' : Type} (K' : KK R') (O' : bD),(∀ i ∈ x.ids,look O' i = look O i) -> (∀ i ∈ y.ids,look O' i = look O i) -> qW C row ti.elem O' ay x y K' = K' v (pre ++ O') dP es) ∧ (∀ i,i < ay -> i ∉ x.ids -> look pre i = none) ∧ ay <= dP := by
       unfold qW at h
       split at h
       ·rename_i te hte
        split at h
        ·rename_i ts hr
         obtain ⟨hb1,h⟩ := fZ h
         dsimp only at h
         split at h
         ·rename_i ys hys
          cases x with
          | aO =>
           dsimp only at h
           obtain ⟨_,h,c1⟩ := bU h
           refine ⟨_,[(ay,.arr ts ys true)],_,_,h,fun K' O' _ hO2 => ?_,fun i hi _ => new _ i hi,Nat.le_succ _⟩
           have e := lJ (v := y) (O := O) (O' := O') hO2
           unfold qW; rw [hte]; dsimp only; rw [hr]; dsimp only; rw [hb1,cond_false]
           cases y <;> first | (cases hys; dsimp only; rw [c1]; rfl) | (dsimp only at hys e ⊢; (try rw [e]); rw [hys]; dsimp only; rw [c1]; rfl)
          | own id =>
           dsimp only at h
           split at h
           ·rename_i ts' rows hlo
            split at h
            ·rename_i rows' hcr
             obtain ⟨_,h,c1⟩ := bU h
             refine ⟨_,[(id,.arr ts (rows' ++ ys) true)],_,_,h,fun K' O' hO1 hO2 => ?_,fun i hi hni => at_ id _ i fun e => hni (by rw [e]; exact List.mem_cons_self),Nat.le_refl _⟩
             have e := lJ (v := y) (O := O) (O' := O') hO2
             unfold qW; rw [hte]; dsimp only; rw [hr]; dsimp only; rw [hb1,cond_false]
             cases y <;> first | (cases hys; dsimp only; rw [hO1 id List.mem_cons_self,hlo]; dsimp only; rw [hcr]; dsimp only; rw [c1]; rfl) | (dsimp only at hys e ⊢; (try rw [e]); rw [hys]; dsimp only; rw [hO1 id List.mem_cons_self,hlo]; dsimp only; rw [hcr]; dsimp only; rw [c1]; rfl)
            ·cases h
           ·cases h
          | _ => cases h
         ·cases h
        ·cases h
       ·cases h
      obtain ⟨v,pre,dP,es,k1,k2,k3,k4⟩ := app
      have hin : ∀ z,z = x ∨ z = y -> ∀ i ∈ z.ids,i ∈ dV tm args.toList := fun z hz i hi => by
       have : z ∈ [x,y] := by rcases hz with e | e <;> simp [e]
       obtain ⟨w,hw1,hw2⟩ := Gh ha this
       exact dM hw1 hw2 hi
      refine ⟨v,pre,dP,es,k1,fun K' tm' O' he hO => ?_,fun i hi hni => k3 i hi fun hx => hni (by
       show i ∈ dV tm (VH args.toList)
       generalize args.toList = l at ha
       cases l with
       | nil => cases ha
       | cons b l =>
        unfold evs at ha
        split at ha
        ·rename_i v' vs' e1 e2
         cases ha
         exact dM (x := b) List.mem_cons_self e1 hx
        ·cases ha),k4⟩
      unfold fA; dsimp only
      rw [qJ (tm := tm) (l := args.toList) he,ha,ht]; dsimp only
      rw [hl,hrow]; dsimp only
      rw [hb,cond_false]
      exact k2 K' O' (fun i hi => (kP hO).1 i (hin x (.inl rfl) i hi)) fun i hi => (kP hO).1 i (hin y (.inr rfl) i hi)
     ·cases h
    ·cases h
  | value f => exact Oo (fun _ _ _ _ => rfl) rfl h
  | invoke x m => exact Oo (fun _ _ _ _ => rfl) rfl h
 | _ => first | (cases hmo; done) | (cases hq; done) | (cases hn; done) | (unfold fA at h; cases h; done)
def vM (C : kG) (tm : List (Nat × AV)) (O : bD) (id : Nat) (o : Oper) (v : AV) (ao : AO) (es : List Eff) : Prop :=
 ∀ {R' : Type} (K' : KK R') (pU : ak) (tm' : List (Nat × AV)) (O' : bD),(∀ x ∈ opers o.op,ev tm' x = ev tm x) -> (∀ i ∈ dV tm (opers o.op),look O' i = look O i) -> fA C pU tm' O' id o K' = K' v ((id,ao) :: O') (id + 1) es
theorem JZ {o : Oper} (hn : xQ o = true) {K : KK R} {r : R} {id : Nat} (h : fA C Rc tm O id o K = some r) : ∃ v ao es,K v ((id,ao) :: O) (id + 1) es = some r ∧ vM C tm O id o v ao es := by
 obtain ⟨dst,op,ty,pos,aft,guard⟩ := o
 unfold vM
 cases op with
 | alloc t =>
  unfold fA at h ⊢; dsimp only [opers] at h ⊢
  split at h
  ·rename_i ts n ha
   obtain ⟨hb,h⟩ := eU h
   exact ⟨_,_,_,h,fun K' pU tm' O' _ _ => by rw [hb]; rfl⟩
  split at h
  ·rename_i ti hl
   obtain ⟨hb,h⟩ := fZ h
   exact ⟨_,_,_,h,fun K' pU tm' O' _ _ => by rw [hb]; rfl⟩
  ·cases h
 | box t x =>
  unfold fA at h ⊢; dsimp only [opers] at h ⊢
  split at h
  ·rename_i v hx
   exact ⟨_,_,_,h,fun K' pU tm' O' he _ => by rw [he x List.mem_cons_self,hx]⟩
  ·cases h
 | buildSlice t n ps =>
  unfold fA at h ⊢; dsimp only at h ⊢
  split at h
  ·rename_i ti vs hl hps
   split at h
   ·rename_i te hte
    split at h
    ·rename_i ts hr
     split at h
     ·rename_i rows iF ts' h1 h2 h3
      obtain ⟨hb,h⟩ := fZ h
      refine ⟨_,_,_,h,fun K' pU tm' O' he hO => ?_⟩
      have hv : ∀ i ∈ AV.iK (vs.map (·.2)),look O' i = look O i := fun i hi => hO i (Om hps hi)
      have hc : ∀ i ∈ AV.iK ((vs.map (·.2.cells)).flatten),look O' i = look O i := by
       have : ∀ (l : List (Nat × AV)) (i : Nat),i ∈ AV.iK ((l.map (·.2.cells)).flatten) -> i ∈ AV.iK (l.map (·.2)) := by
        intro l
        induction l with
        | nil => intro i hi; exact hi
        | cons p q ih =>
         intro i hi
         rw [List.map_cons,List.flatten_cons,uF] at hi
         rcases List.mem_append.1 hi with hi | hi
         ·exact List.mem_append.2 (.inl (DX _ hi))
         ·exact List.mem_append.2 (.inr (ih i hi))
       exact fun i hi => hv i (this vs i hi)
      rw [Gg (tm := tm) he,hl,hps]; dsimp only
      rw [hte]; dsimp only
      rw [hr]; dsimp only
      rw [Af ts vs _ hv,rE _ hc,h1,h2,h3]; dsimp only
      rw [hb]; rfl
     ·cases h
    ·cases h
   ·cases h
  ·cases h
 | makeSlice t l c =>
  unfold fA at h ⊢; dsimp only [opers] at h ⊢
  split at h
  ·rename_i ti k1 l' k2 c' hl hx hy
   split at h
   ·rename_i te hte
    split at h
    ·rename_i ts hr
     split at h
     ·rename_i ts' hts
      obtain ⟨hb,h⟩ := fZ h
      obtain ⟨_,h,c1⟩ := bU h
      obtain ⟨_,h,c2⟩ := bU h
      obtain ⟨_,h,c3⟩ := bU h
      refine ⟨_,_,_,h,fun K' pU tm' O' he _ => ?_⟩
      rw [he l (by simp),he c (by simp),hl,hx,hy]; dsimp only
      rw [hte]; dsimp only
      rw [hr]; dsimp only
      rw [hb,cond_false,c1,c2,c3]
     ·cases h
    ·cases h
   ·cases h
  ·cases h
 | _ => cases hn
theorem ZI {o : Oper} (hmo : NP o = false) (hq : quiet C o = false) {K : KK R} {r : R} {ay : Nat} (h : fA C Rc tm O ay o K = some r) : ∃ v pre dP es,K v (pre ++ O) dP es = some r ∧ UQ C Rc tm O ay o v pre dP es := by
 cases hn : xQ o with
 | false => exact WM hmo hq hn h
 | true =>
  obtain ⟨v,ao,es,h1,h2⟩ := JZ hn h
  refine ⟨v,[(ay,ao)],ay + 1,es,h1,⟨fun K' tm' O' he hO => h2 K' Rc tm' O' he fun i hi => hO i (List.mem_append.2 (.inl hi)),fun i hi _ => ?_,Nat.le_succ _⟩⟩
  show (bif Nat.beq ay i then some ao else none) = none
  rw [cO (Nat.ne_of_gt hi)]; rfl
theorem Td {o : Oper} (h : zX C o = true) : xQ o = true := by
 unfold zX at h
 rw [Bool.and_eq_true] at h
 exact h.1
end
end Go.E
end
section
namespace Go.E
section
variable {C : kG} {Rc : ak} {all : List Oper}
structure AS where
 tm : List (Nat × AV)
 O : bD
 ay : Nat
 cs : List Fr
def rH (dst : Option Nat) (v : AV) (f : Nat -> Option AV) : Nat -> Option AV := fun t => if dst = some t then some v else f t
def FW (es : List Eff) (f : Nat -> Option AV) : Nat -> Option AV := fun t => (f t).map (eP es)
theorem nV (dst : Option Nat) (v : AV) (tm : List (Nat × AV)) : look (putDst dst v tm) = rH dst v (look tm) := by
 funext t
 unfold rH
 cases dst with
 | none => simp [putDst]
 | some d =>
  show (bif Nat.beq d t then some v else look tm t) = _
  by_cases e : d = t
  ·subst e; simp
  ·rw [cO e]
   have : ¬ (some d = some t) := fun x => e (Option.some.inj x)
   rw [if_neg this]; rfl
theorem J3 (es : List Eff) (tm : List (Nat × AV)) : look (jZ es tm) = FW es (look tm) := by
 funext t; exact yC es tm t
theorem kD (f : Nat -> Option AV) : FW [] f = f := by
 funext t
 unfold FW
 cases f t <;> rfl
def kT (all : List Oper) (tm : List (Nat × AV)) (o : Oper) : Option Bool := match o.guard with
 | none => some true
 | some (_,w) => match gslot all o with
  | some d => match look tm d with
   | some (.bool b) => some (b == w)
   | some .undef => some false
   | _ => none
  | none => none
def Oq (C : kG) (tm : List (Nat × AV)) (o : Oper) : Bool := match callee C tm o.op with
 | some (g,_) => match look C.sig g with
  | some _ => false
  | none => true
 | none => false
def E5 : AO -> List Nat
 | .box cs => AV.iK cs
 | _ => []
structure Rd where
 keeps : List Nat
 reads : List Nat
 news : List Nat
 looks : List Nat
inductive o8 (C : kG) (Rc : ak) (all : List Oper) (base : Nat) : AS -> Nat -> AS -> Rd -> Option (List Nat × List Nat × Nat) -> Prop
 | quiet {a a' : AS} {i : Nat} {o : Oper} {v : AV} : nth all i = some o -> kT all a.tm o = some true -> quiet C o = true -> Again C a.tm a.O o v -> look a'.tm = rH o.dst v (look a.tm) -> (∀ j,look a'.O j = look a.O j) -> a'.ay = a.ay -> a'.cs = a.cs ->
   o8 C Rc all base a i a' ⟨qX a.tm a.O o v,dB a.tm o,[],dB a.tm o⟩ none
 | new {a a' : AS} {i : Nat} {o : Oper} {v : AV} {ao : AO} : nth all i = some o -> kT all a.tm o = some true -> zX C o = true -> vM C a.tm a.O (base + i) o v ao [] -> look a.O (base + i) = none -> base + i < a.ay -> look a'.tm = rH o.dst v (look a.tm) ->
   (∀ j,look a'.O j = if j = base + i then some ao else look a.O j) -> a'.ay = a.ay -> a'.cs = a.cs -> o8 C Rc all base a i a' ⟨(base + i) :: (v.ids ++ (dV a.tm (opers o.op) ++ (iR a.O (dV a.tm (opers o.op)) ++ E5 ao))),(base + i) :: dV a.tm (opers o.op),[base + i],dV a.tm (opers o.op)⟩ none
 | act {a a' : AS} {i : Nat} {o : Oper} {v : AV} {pre : bD} {dP : Nat} {es : List Eff} : nth all i = some o -> kT all a.tm o = some true -> Go.E.quiet C o = false -> zX C o = false -> Oq C a.tm o = false -> UQ C Rc a.tm a.O a.ay o v pre dP es -> look a'.tm = rH o.dst v (FW es (look a.tm)) ->
   (∀ j,look a'.O j = look (dh es (pre ++ a.O)) j) -> a'.ay = dP -> a'.cs = jH es a.cs -> o8 C Rc all base a i a' ⟨[],[],[],kK a.tm a.O o⟩ (some (touched C a.tm a.O o,kL es,a.ay))
 | pass {a a' : AS} {i : Nat} {o : Oper} : nth all i = some o -> kT all a.tm o = some false -> look a'.tm = rH o.dst .undef (look a.tm) -> (∀ j,look a'.O j = look a.O j) -> a'.ay = a.ay -> a'.cs = a.cs -> o8 C Rc all base a i a' ⟨[],[],[],[]⟩ none
theorem LJ {tm tm' : List (Nat × AV)} {l : List Operand} (h : ∀ t ∈ lD l,look tm' t = look tm t) : ∀ x ∈ l,ev tm' x = ev tm x := by
 induction l with
 | nil => intro x hx; cases hx
 | cons y r ih =>
  intro x hx
  have hr : ∀ t ∈ lD r,look tm' t = look tm t := fun t ht => h t (by cases y <;> first | exact List.mem_cons_of_mem _ ht | exact ht)
  rcases List.mem_cons.1 hx with e | hx
  ·subst e
   cases x with
   | tmp t => exact h t List.mem_cons_self
   | _ => rfl
  ·exact ih hr x hx
theorem tq {tm tm' : List (Nat × AV)} {o : Oper} (h : ∀ d,gslot all o = some d -> look tm' d = look tm d) : kT all tm' o = kT all tm o := by
 unfold kT
 split
 ·rfl
 ·split
  ·rename_i d hd; rw [h d hd]
  ·rfl
theorem DZ {j : Nat} : ∀ {l : List Nat},j ∉ l -> vZ j l = l
 | [],_ => rfl
 | k :: r,h => by
  unfold vZ
  rw [cO fun e => h (by rw [e]; exact List.mem_cons_self),cond_false,DZ fun x => h (List.mem_cons_of_mem _ x)]
theorem zG {j : Nat} {l : List Nat} (h : j ∉ l) : dJ j l = false := by
 cases e : dJ j l with
 | false => rfl
 | true => exact absurd (dZ.1 e) h
def Eff.id : Eff -> Nat
 | .kill i | .shut i _ _ | .dQ i => i
mutual
theorem Ht {e : Eff} : ∀ (x : AV),e.id ∉ x.ids -> e.av x = x
 | .int _ _,_ | .bool _,_ | .str _,_ | .aO,_ | .fH,_ | .aQ,_ | .o7,_ | .undef,_ | .dead,_ => by cases e <;> rfl
 | .own id,h => by
  have h : e.id ≠ id := fun x => h (by rw [x]; exact List.mem_cons_self)
  cases e with
  | kill j => show (bif Nat.beq id j then AV.dead else .own id) = _; rw [cO (i := id) (j := j) fun x => h x.symm]; rfl
  | shut j ts rows => show (bif Nat.beq id j then AV.ro ts rows [] else .own id) = _; rw [cO (i := id) (j := j) fun x => h x.symm]; rfl
  | dQ j => rfl
 | .ptr id off,h => by cases e <;> rfl
 | .mp id,h => by cases e <;> rfl
 | .raw u,h => by cases e <;> rfl
 | .sub id lo hi,h => by
  have h : e.id ≠ id := fun x => h (by rw [x]; exact List.mem_cons_self)
  cases e with
  | kill j => show (bif Nat.beq id j then AV.dead else .sub id lo hi) = _; rw [cO (i := id) (j := j) fun x => h x.symm]; rfl
  | shut j ts rows => show (bif Nat.beq id j then AV.dead else .sub id lo hi) = _; rw [cO (i := id) (j := j) fun x => h x.symm]; rfl
  | dQ j => rfl
 | .iJ id i off,h => by
  have h : e.id ≠ id := fun x => h (by rw [x]; exact List.mem_cons_self)
  cases e with
  | kill j => show (bif Nat.beq id j then AV.dead else .iJ id i off) = _; rw [cO (i := id) (j := j) fun x => h x.symm]; rfl
  | shut j ts rows => show (bif Nat.beq id j then AV.iY ts rows [] i off else .iJ id i off) = _; rw [cO (i := id) (j := j) fun x => h x.symm]; rfl
  | dQ j => rfl
 | .ro ts rows deps,h => by
  have h : e.id ∉ deps := h
  cases e with
  | kill j => rfl
  | shut j ts' rows' => show AV.ro ts rows (vZ j deps) = _; rw [DZ (j := j) h]
  | dQ j => show (bif dJ j deps then AV.dead else .ro ts rows deps) = _; rw [zG (j := j) h]; rfl
 | .iY ts rows deps i off,h => by
  have h : e.id ∉ deps := h
  cases e with
  | kill j => rfl
  | shut j ts' rows' => show AV.iY ts rows (vZ j deps) i off = _; rw [DZ (j := j) h]
  | dQ j => show (bif dJ j deps then AV.dead else .iY ts rows deps i off) = _; rw [zG (j := j) h]; rfl
 | .func fn a b,h => by
  have h : e.id ∉ AV.iK a ++ AV.iK b := h
  show AV.func fn (e.pq a) (e.pq b) = _
  rw [rU a fun x => h (List.mem_append.2 (.inl x)),rU b fun x => h (List.mem_append.2 (.inr x))]
 | .iface t v,h => by show AV.iface t (e.av v) = _; rw [Ht v h]
 | .agg cs,h => by show AV.agg (e.pq cs) = _; rw [rU cs h]
 | .BJ cs,h => by show AV.BJ (e.pq cs) = _; rw [rU cs h]
theorem rU {e : Eff} : ∀ (xs : List AV),e.id ∉ AV.iK xs -> e.pq xs = xs
 | [],_ => rfl
 | x :: xs,h => by
  have h : e.id ∉ x.ids ++ AV.iK xs := h
  show e.av x :: e.pq xs = _
  rw [Ht x fun y => h (List.mem_append.2 (.inl y)),rU xs fun y => h (List.mem_append.2 (.inr y))]
end
theorem uG {x : AV} : ∀ {es : List Eff},(∀ i ∈ x.ids,i ∉ kL es) -> eP es x = x
 | [],_ => rfl
 | e :: r,h => by
  show eP r (e.av x) = x
  have he : kL (e :: r) = e.id :: kL r := by cases e <;> rfl
  rw [he] at h
  rw [Ht x fun y => h _ y List.mem_cons_self]
  exact uG fun i hi x => h i hi (List.mem_cons_of_mem _ x)
theorem wJ {xs : List AV} : ∀ {es : List Eff},(∀ i ∈ AV.iK xs,i ∉ kL es) -> fU es xs = xs
 | [],_ => rfl
 | e :: r,h => by
  show fU r (e.pq xs) = xs
  have he : kL (e :: r) = e.id :: kL r := by cases e <;> rfl
  rw [he] at h
  rw [rU xs fun y => h _ y List.mem_cons_self]
  exact wJ fun i hi x => h i hi (List.mem_cons_of_mem _ x)
theorem lK : ∀ {es : List Eff} {i : Nat},bC i es = true -> i ∈ kL es
 | .shut j _ _ :: r,i,h => by
  have h : (Nat.beq j i || bC i r) = true := h
  rw [Bool.or_eq_true] at h
  rcases h with h | h
  ·rw [<- Nat.eq_of_beq_eq_true h]; exact List.mem_cons_self
  ·exact List.mem_cons_of_mem _ (lK h)
 | .kill _ :: r,i,h => List.mem_cons_of_mem _ (lK (es := r) h)
 | .dQ _ :: r,i,h => List.mem_cons_of_mem _ (lK (es := r) h)
theorem AX {O : bD} {i j : Nat} {cs : List AV} : ∀ {l : List Nat},i ∈ l -> look O i = some (.box cs) -> j ∈ AV.iK cs -> j ∈ iR O l
 | k :: r,h,hl,hj => by
  show j ∈ (match look O k with | some (.box cs) => AV.iK cs | _ => []) ++ iR O r
  rcases List.mem_cons.1 h with e | h
  ·subst e; rw [hl]; exact List.mem_append.2 (.inl hj)
  ·exact List.mem_append.2 (.inr (AX h hl hj))
theorem vN {O O' : bD} : ∀ {l : List Nat},(∀ i ∈ l,look O' i = look O i) -> iR O' l = iR O l
 | [],_ => rfl
 | k :: r,h => by
  unfold iR
  rw [h k List.mem_cons_self,vN fun i hi => h i (List.mem_cons_of_mem _ hi)]
end
end Go.E
end
section
namespace Go.E
section
variable {C : kG} {Rc : ak} {all : List Oper}
theorem Ot {t : Nat} : ∀ {l : List Operand},Operand.tmp t ∈ l -> t ∈ lD l
 | x :: r,h => by
  rcases List.mem_cons.1 h with e | hr
  ·subst e; exact List.mem_cons_self
  ·have ih := Ot hr
   cases x <;> first | exact List.mem_cons_of_mem _ ih | exact ih
theorem rJ {dst : Option Nat} {v : AV} {f : Nat -> Option AV} {t : Nat} (h : dst ≠ some t) : rH dst v f t = f t := if_neg h
theorem Gi {dst : Option Nat} {v : AV} {f : Nat -> Option AV} {t : Nat} (h : dst = some t) : rH dst v f t = some v := if_pos h
theorem tu {tm tm' : List (Nat × AV)} {o : Oper} (he : ∀ x ∈ opers o.op,ev tm' x = ev tm x) : dB tm' o = dB tm o := by
 have e := mX he
 unfold dB
 split <;> first | exact e | rfl
theorem Ou {tm : List (Nat × AV)} {o : Oper} {i : Nat} (h : i ∈ dB tm o) : i ∈ dV tm (opers o.op) := by
 unfold dB at h
 split at h <;> first | exact h | cases h
theorem AY {tm tm' : List (Nat × AV)} {O O' : bD} {o : Oper} {v : AV} (he : ∀ x ∈ opers o.op,ev tm' x = ev tm x) (hO : ∀ i ∈ dB tm o,look O' i = look O i) : qX tm' O' o v = qX tm O o v := by
 unfold qX
 rw [mX he,tu he,vN hO]
theorem AZ {tm tm' : List (Nat × AV)} {O O' : bD} {o : Oper} {v : AV} (h : Again C tm O o v) (he : ∀ x ∈ opers o.op,ev tm' x = ev tm x) (hO : ∀ i ∈ dB tm o,look O' i = look O i) : Again C tm' O' o v := by
 intro R' K' pU tm2 O2 agE he2 hO2
 refine h K' pU tm2 O2 agE (fun x hx => (he2 x hx).trans (he x hx)) fun i hi => ?_
 rw [hO2 i (by rw [tu he]; exact hi),hO i hi]
theorem J4 {tm tm' : List (Nat × AV)} {O O' pre : bD} {ay dP : Nat} {o : Oper} {v : AV} {es : List Eff} (h : UQ C Rc tm O ay o v pre dP es) (he : ∀ x ∈ opers o.op,ev tm' x = ev tm x) (hO : ∀ i ∈ kK tm O o,look O' i = look O i) : UQ C Rc tm' O' ay o v pre dP es :=
 ⟨fun K' tm2 O2 he2 hO2 => h.again K' tm2 O2 (fun x hx => (he2 x hx).trans (he x hx)) fun i hi => (hO2 i (by rw [AQ he hO]; exact hi)).trans (hO i hi),fun i hi ht => h.frame i hi (by rw [<- AU he hO]; exact ht),h.le⟩
theorem Hu {tm tm' : List (Nat × AV)} {O O' : bD} {id : Nat} {o : Oper} {v : AV} {ao : AO} {es : List Eff} (h : vM C tm O id o v ao es) (he : ∀ x ∈ opers o.op,ev tm' x = ev tm x) (hO : ∀ i ∈ dV tm (opers o.op),look O' i = look O i) : vM C tm' O' id o v ao es := by
 intro R' K' pU tm2 O2 he2 hO2
 exact h K' pU tm2 O2 (fun x hx => (he2 x hx).trans (he x hx)) fun i hi => (hO2 i (by rw [mX he]; exact hi)).trans (hO i hi)
theorem J5 {tm tm' : List (Nat × AV)} {o : Oper} (he : ∀ x ∈ opers o.op,ev tm' x = ev tm x) : Oq C tm' o = Oq C tm o := by
 unfold Oq; rw [vK he]
def Ov (np : Option (Nat × AO)) (f : Nat -> Option AO) : Nat -> Option AO := fun j => match np with
 | some (id,ao) => if j = id then some ao else f j
 | none => f j
theorem LK {np : Option (Nat × AO)} {f : Nat -> Option AO} {j : Nat} (h : ∀ id ao,np = some (id,ao) -> j ≠ id) : Ov np f j = f j := by
 unfold Ov
 split
 ·rename_i id ao; rw [if_neg (h id ao rfl)]
 ·rfl
structure Free (rp rx : Rd) (wx : Option (List Nat × List Nat × Nat)) : Prop where
 nl : ∀ j ∈ rp.news,j ∉ rx.looks
 rn : ∀ j ∈ rx.news,j ∉ rp.reads
 ef : ∀ w f n,wx = some (w,f,n) -> (∀ j ∈ rp.keeps,j ∉ f) ∧ ∀ j ∈ rp.reads,j < n ∧ j ∉ w
variable {base : Nat}
theorem QO {a b c : AS} {x : Nat} {ox : Oper} {rd : Rd} {wt : Option (List Nat × List Nat × Nat)} {pd : Option Nat} {vp : AV} {np : Option (Nat × AO)} (h : o8 C Rc all base b x c rd wt) (ho : nth all x = some ox) (hb : look b.tm = rH pd vp (look a.tm)) (hO : ∀ j,look b.O j = Ov np (look a.O) j) (hn : b.ay = a.ay) (hc : b.cs = a.cs)
  (hs : ∀ d,pd = some d -> d ∉ lD (opers ox.op) ∧ gslot all ox ≠ some d) (hnp : ∀ id ao,np = some (id,ao) -> id ∉ rd.looks ∧ id ∉ rd.news ∧ look a.O id = none ∧ ∀ w f n,wt = some (w,f,n) -> id < n ∧ id ∉ w ∧ id ∉ f ∧ ∀ j ∈ E5 ao,j ∉ f) :
  ∃ es vx,∃ b' : AS,o8 C Rc all base a x b' rd wt ∧ look b'.tm = rH ox.dst vx (FW es (look a.tm)) ∧ look c.tm = rH ox.dst vx (FW es (look b.tm)) ∧ a.ay <= b'.ay ∧ b'.ay = c.ay ∧ b'.cs = c.cs ∧ (∀ i ∈ kL es,∃ w f n,wt = some (w,f,n) ∧ i ∈ f) ∧ (∀ j,look c.O j = Ov np (look b'.O) j) ∧ (∀ id ao,np = some (id,ao) -> look b'.O id = none) ∧
   ∀ i,i ∉ rd.news -> (∀ w f n,wt = some (w,f,n) -> i < n ∧ i ∉ w ∧ i ∉ f ∧ ∀ cs,look a.O i = some (.box cs) -> ∀ j ∈ AV.iK cs,j ∉ f) -> look b'.O i = look a.O i := by
 have he : ∀ y ∈ opers ox.op,ev a.tm y = ev b.tm y := LJ fun t ht => by
  rw [hb,rJ fun e => (hs t e).1 ht]
 have hw : kT all a.tm ox = kT all b.tm ox := tq fun d hd => by
  rw [hb,rJ fun e => (hs d e).2 hd]
 have hOl : ∀ (l : List Nat),(∀ id ao,np = some (id,ao) -> id ∉ l) -> ∀ i ∈ l,look a.O i = look b.O i := fun l hl i hi => by
  rw [hO i,LK fun id ao e z => hl id ao e (by rw [<- z]; exact hi)]
 cases h with
 | quiet h1 h2 h3 h4 h5 h6 h7 h8 =>
  rw [ho] at h1; cases h1
  rename_i v
  have hR := hOl (dB b.tm ox) fun id ao e => (hnp id ao e).1
  let b' : AS := ⟨putDst ox.dst v a.tm,a.O,c.ay,c.cs⟩
  have hbt : look b'.tm = rH ox.dst v (look a.tm) := nV _ _ _
  refine ⟨[],v,b',?_,by rw [kD]; exact hbt,by rw [kD]; exact h5,by show a.ay <= c.ay; rw [h7,hn]; exact Nat.le_refl _,rfl,rfl,fun i hi => (by cases hi),fun j => by rw [h6,hO],fun id ao e => (hnp id ao e).2.2.1,fun i _ _ => rfl⟩
  rw [<- AY he hR, <- tu he]
  exact .quiet ho (hw.trans h2) h3 (AZ h4 he hR) hbt (fun _ => rfl) (by show c.ay = _; rw [h7,hn]) (by show c.cs = _; rw [h8,hc])
 | new h1 h2 h3 h4 h4a h4b h5 h6 h7 h8 =>
  rw [ho] at h1; cases h1
  rename_i v ao'
  have hL := hOl (dV b.tm (opers ox.op)) fun id ao e => (hnp id ao e).1
  let b' : AS := ⟨putDst ox.dst v a.tm,(base + x,ao') :: a.O,c.ay,c.cs⟩
  have hbt : look b'.tm = rH ox.dst v (look a.tm) := nV _ _ _
  have hbO : ∀ j,look b'.O j = if j = base + x then some ao' else look a.O j := fun j => by
   show (bif Nat.beq (base + x) j then some ao' else look a.O j) = _
   by_cases e : j = base + x
   ·subst e; simp
   ·rw [cO fun z => e z.symm,if_neg e]; rfl
  have hne : ∀ id ao,np = some (id,ao) -> base + x ≠ id := fun id ao e z => (hnp id ao e).2.1 (by rw [<- z]; exact List.mem_cons_self)
  have ha0 : look a.O (base + x) = none := by rw [hO,LK hne] at h4a; exact h4a
  have hB : iR a.O (dV b.tm (opers ox.op)) = iR b.O (dV b.tm (opers ox.op)) := vN hL
  refine ⟨[],v,b',?_,by rw [kD]; exact hbt,by rw [kD]; exact h5,by show a.ay <= c.ay; rw [h7,hn]; exact Nat.le_refl _,rfl,rfl,fun i hi => (by cases hi),fun j => ?_,fun id ao e => ?_,fun i hi _ => ?_⟩
  ·rw [<- hB, <- mX he]
   exact .new ho (hw.trans h2) h3 (Hu h4 he hL) ha0 (by rw [<- hn]; exact h4b) hbt hbO (by show c.ay = _; rw [h7,hn]) (by show c.cs = _; rw [h8,hc])
  ·rw [h6]
   by_cases e : j = base + x
   ·rw [if_pos e,LK fun id ao z w => hne id ao z (by rw [<- e]; exact w),hbO,if_pos e]
   ·rw [if_neg e,hO]
    unfold Ov
    split
    ·split
     ·rfl
     ·rw [hbO,if_neg e]
    ·rw [hbO,if_neg e]
  ·rw [hbO,if_neg fun z => hne id ao e z.symm]; exact (hnp id ao e).2.2.1
  ·rw [hbO,if_neg fun z => hi (by rw [z]; exact List.mem_cons_self)]
 | act h1 h2 h3 h3n hg h4 h5 h6 h7 h8 =>
  rw [ho] at h1; cases h1
  rename_i v pre dP es
  have hL := hOl (kK b.tm b.O ox) fun id ao e => (hnp id ao e).1
  let b' : AS := ⟨putDst ox.dst v (jZ es a.tm),dh es (pre ++ a.O),c.ay,c.cs⟩
  have hbt : look b'.tm = rH ox.dst v (FW es (look a.tm)) := by
   show look (putDst ox.dst v (jZ es a.tm)) = _
   rw [nV,J3]
  refine ⟨es,v,b',?_,hbt,h5,by show a.ay <= c.ay; rw [h7, <- hn]; exact h4.le,rfl,rfl,fun i hi => ⟨_,_,_,rfl,hi⟩,fun j => ?_,fun id ao e => ?_,fun i _ hall => ?_⟩
  ·rw [<- AU he hL, <- AQ he hL,hn]
   rw [hn] at h4
   exact .act ho (hw.trans h2) h3 h3n ((J5 he).trans hg) (J4 h4 he hL) hbt (fun _ => rfl) (by show c.ay = _; rw [h7]) (by show c.cs = _; rw [h8,hc])
  ·rw [h6]
   show look (dh es (pre ++ b.O)) j = Ov np (look (dh es (pre ++ a.O))) j
   cases np with
   | none =>
    show _ = look (dh es (pre ++ a.O)) j
    rw [bV,iH,bV,iH,hO]; rfl
   | some q =>
    obtain ⟨id,ao⟩ := q
    obtain ⟨g1,_,g3,g4⟩ := hnp id ao rfl
    obtain ⟨w1,w2,w3,w4⟩ := g4 _ _ _ rfl
    show _ = if j = id then some ao else look (dh es (pre ++ a.O)) j
    have hOj : look b.O j = if j = id then some ao else look a.O j := hO j
    rw [bV,iH,bV,iH,hOj]
    by_cases e : j = id
    ·subst e
     have hnone : look pre j = none := h4.frame j w1 w2
     rw [if_neg fun y => w3 (lK y),hnone,if_pos rfl,if_pos rfl]
     dsimp only
     cases ao with
     | box cs => show some (AO.box (fU es cs)) = _; rw [wJ fun k hk y => w4 k hk y]
     | arr ts rows wr => rfl
     | dead => rfl
     | map m => rfl
    ·rw [if_neg e,if_neg e]
  ·obtain ⟨g1,_,g3,g4⟩ := hnp id ao e
   obtain ⟨w1,w2,w3,w4⟩ := g4 _ _ _ rfl
   show look (dh es (pre ++ a.O)) id = none
   rw [bV,if_neg fun y => w3 (lK y),iH,h4.frame id w1 w2,g3]; rfl
  ·obtain ⟨hi,ht1,ht2,hbx⟩ := hall _ _ _ rfl
   show look (dh es (pre ++ a.O)) i = _
   rw [bV,if_neg fun y => ht2 (lK y),iH,h4.frame i hi ht1]
   dsimp only
   cases hl : look a.O i with
   | none => rfl
   | some q =>
    cases q with
    | box cs =>
     have : fU es cs = cs := wJ fun j hj y => hbx cs hl j hj y
     show some (AO.box (fU es cs)) = _
     rw [this]
    | arr ts rows wr => rfl
    | dead => rfl
    | map m => rfl
 | pass h1 h2 h3 h4 h5 h6 =>
  rw [ho] at h1; cases h1
  let b' : AS := ⟨putDst ox.dst .undef a.tm,a.O,c.ay,c.cs⟩
  have hbt : look b'.tm = rH ox.dst .undef (look a.tm) := nV _ _ _
  exact ⟨[],.undef,b',.pass ho (hw.trans h2) hbt (fun _ => rfl) (by show c.ay = _; rw [h5,hn]) (by show c.cs = _; rw [h6,hc]),by rw [kD]; exact hbt,by rw [kD]; exact h3,by show a.ay <= c.ay; rw [h5,hn]; exact Nat.le_refl _,rfl,rfl,fun i hi => (by cases hi),
   fun j => by rw [h4,hO],fun id ao e => (hnp id ao e).2.2.1,fun i _ _ => rfl⟩
theorem yH {a a2 : AS} {op : Oper} {es : List Eff} {xd : Option Nat} {vx : AV} {r : Bool} (h1 : look a2.tm = rH xd vx (FW es (look a.tm))) (h2 : ∀ d,xd = some d -> d ∉ lD (opers op.op) ∧ gslot all op ≠ some d) (h3 : kT all a.tm op = some r) : kT all a2.tm op = some r := by
 unfold kT at h3 ⊢
 split
 ·rename_i hg; rw [hg] at h3; exact h3
 ·rename_i j w hg
  rw [hg] at h3
  dsimp only at h3
  split at h3
  ·rename_i d hd
   rw [h1,rJ fun e => (h2 d e).2 hd]
   show (match (look a.tm d).map (eP es) with | some (.bool b) => some (b == w) | some .undef => some false | _ => none) = _
   split at h3
   ·rename_i bb hbb
    rw [hbb]
    show (match some (eP es (.bool bb)) with | some (.bool b) => some (b == w) | some .undef => some false | _ => none) = _
    rw [gY (fun e => by cases e <;> rfl)]; exact h3
   ·rename_i hbb
    rw [hbb]
    show (match some (eP es .undef) with | some (.bool b) => some (b == w) | some .undef => some false | _ => none) = _
    rw [gY (fun e => by cases e <;> rfl)]; exact h3
   ·cases h3
  ·cases h3
theorem Ox {a a2 : AS} {op : Oper} {es : List Eff} {xd : Option Nat} {vx : AV} (h1 : look a2.tm = rH xd vx (FW es (look a.tm))) (h2 : ∀ d,xd = some d -> d ∉ lD (opers op.op) ∧ gslot all op ≠ some d) (h3 : ∀ i ∈ dV a.tm (opers op.op),i ∉ kL es) : ∀ y ∈ opers op.op,ev a2.tm y = ev a.tm y := by
 intro y hy
 cases y with
 | tmp t =>
  have ht : t ∈ lD (opers op.op) := Ot hy
  show look a2.tm t = look a.tm t
  rw [h1,rJ fun e => (h2 t e).1 ht]
  show (look a.tm t).map (eP es) = _
  cases hv : look a.tm t with
  | none => rfl
  | some u =>
   show some (eP es u) = _
   rw [uG fun i hi => h3 i (dM hy (show ev a.tm (.tmp t) = some u from hv) hi)]
 | _ => rfl
theorem UU {a b : AS} {p : Nat} {op : Oper} {rd : Rd} {wt : Option (List Nat × List Nat × Nat)} (h : o8 C Rc all base a p b rd wt) (ho : nth all p = some op) (hq : still C op = true) :
  ∃ vp np,wt = none ∧ look b.tm = rH op.dst vp (look a.tm) ∧ (∀ j,look b.O j = Ov np (look a.O) j) ∧ b.ay = a.ay ∧ b.cs = a.cs ∧ (∀ es : List Eff,(∀ i ∈ rd.keeps,i ∉ kL es) -> eP es vp = vp) ∧
   (∀ id ao,np = some (id,ao) -> id ∈ rd.news ∧ id ∈ rd.keeps ∧ id ∈ rd.reads ∧ look a.O id = none ∧ ∀ j ∈ E5 ao,j ∈ rd.keeps) ∧ (∀ i ∈ rd.reads,i ∈ rd.keeps ∧ ∀ cs,look a.O i = some (.box cs) -> ∀ j ∈ AV.iK cs,j ∈ rd.keeps) ∧
   ∀ (a2 c2 : AS) (es : List Eff) (xd : Option Nat) (vx : AV),look a2.tm = rH xd vx (FW es (look a.tm)) -> (∀ d,xd = some d -> d ∉ lD (opers op.op) ∧ gslot all op ≠ some d) -> (∀ i ∈ rd.keeps,i ∉ kL es) -> a.ay <= a2.ay ->
    (∀ i ∈ rd.reads,look a2.O i = look a.O i) -> look c2.tm = rH op.dst vp (look a2.tm) -> (∀ j,look c2.O j = Ov np (look a2.O) j) -> c2.ay = a2.ay -> c2.cs = a2.cs -> o8 C Rc all base a2 p c2 rd none := by
 cases h with
 | quiet h1 h2 h3 h4 h5 h6 h7 h8 =>
  rw [ho] at h1; cases h1
  rename_i v
  refine ⟨v,none,rfl,h5,h6,h7,h8,fun es hes => uG fun i hi => hes i (List.mem_append.2 (.inl hi)),fun id ao e => (by cases e),fun i hi => ⟨List.mem_append.2 (.inr (List.mem_append.2 (.inl (Ou hi)))),fun cs hl j hj => List.mem_append.2 (.inr (List.mem_append.2 (.inr (AX hi hl hj))))⟩,
   fun a2 c2 es xd vx k1 k2 k3 kn k4 k5 k6 k7 k8 => ?_⟩
  have he : ∀ y ∈ opers op.op,ev a2.tm y = ev a.tm y := Ox (all := all) k1 k2 fun i hi => k3 i (List.mem_append.2 (.inr (List.mem_append.2 (.inl hi))))
  have hO2 : ∀ i ∈ dB a.tm op,look a2.O i = look a.O i := k4
  rw [<- AY he hO2, <- tu he]
  refine .quiet ho (yH k1 k2 h2) h3 (AZ h4 he hO2) k5 (fun j => ?_) k7 k8
  exact k6 j
 | new h1 h2 h3 h4 h4a h4b h5 h6 h7 h8 =>
  rw [ho] at h1; cases h1
  rename_i v ao
  have sub : ∀ i ∈ dV a.tm (opers op.op),i ∈ (base + p) :: (v.ids ++ (dV a.tm (opers op.op) ++ (iR a.O (dV a.tm (opers op.op)) ++ E5 ao))) := fun i hi => List.mem_cons_of_mem _ (List.mem_append.2 (.inr (List.mem_append.2 (.inl hi))))
  refine ⟨v,some (base + p,ao),rfl,h5,h6,h7,h8,fun es hes => uG fun i hi => hes i (List.mem_cons_of_mem _ (List.mem_append.2 (.inl hi))),fun id ao' e => ?_,fun i hi => ?_,fun a2 c2 es xd vx k1 k2 k3 kn k4 k5 k6 k7 k8 => ?_⟩
  ·cases e
   exact ⟨List.mem_cons_self,List.mem_cons_self,List.mem_cons_self,h4a,fun j hj => List.mem_cons_of_mem _ (List.mem_append.2 (.inr (List.mem_append.2 (.inr (List.mem_append.2 (.inr hj))))))⟩
  ·rcases List.mem_cons.1 hi with e | hi
   ·subst e
    exact ⟨List.mem_cons_self,fun cs hl => by rw [h4a] at hl; cases hl⟩
   ·exact ⟨sub i hi,fun cs hl j hj => List.mem_cons_of_mem _ (List.mem_append.2 (.inr (List.mem_append.2 (.inr (List.mem_append.2 (.inl (AX hi hl hj)))))))⟩
  ·have he : ∀ y ∈ opers op.op,ev a2.tm y = ev a.tm y := Ox (all := all) k1 k2 fun i hi => k3 i (sub i hi)
   have hO2 : ∀ i ∈ dV a.tm (opers op.op),look a2.O i = look a.O i := fun i hi => k4 i (List.mem_cons_of_mem _ hi)
   have hB : iR a2.O (dV a.tm (opers op.op)) = iR a.O (dV a.tm (opers op.op)) := vN hO2
   rw [<- hB, <- mX he]
   exact .new ho (yH k1 k2 h2) h3 (Hu h4 he hO2) ((k4 _ List.mem_cons_self).trans h4a) (Nat.lt_of_lt_of_le h4b kn) k5 k6 k7 k8
 | act h1 h2 h3 h3n =>
  rw [ho] at h1; cases h1
  unfold still at hq
  rw [h3,h3n] at hq; cases hq
 | pass h1 h2 h3 h4 h5 h6 =>
  rw [ho] at h1; cases h1
  refine ⟨.undef,none,rfl,h3,h4,h5,h6,fun es _ => gY (fun e => by cases e <;> rfl) es,fun id ao e => (by cases e),fun i hi => (by cases hi),fun a2 c2 es xd vx k1 k2 k3 kn k4 k5 k6 k7 k8 => ?_⟩
  exact .pass ho (yH k1 k2 h2) k5 k6 k7 k8
theorem QS {a b c : AS} {p x : Nat} {op ox : Oper} {rdp rdx : Rd} {wtp wtx : Option (List Nat × List Nat × Nat)} (h1 : o8 C Rc all base a p b rdp wtp) (h2 : o8 C Rc all base b x c rdx wtx) (hp : nth all p = some op) (hx : nth all x = some ox) (hq : still C op = true) (hi : EW all op ox)
  (hd : Free rdp rdx wtx) : ∃ b',o8 C Rc all base a x b' rdx wtx ∧ o8 C Rc all base b' p c rdp wtp := by
 obtain ⟨vp,np,rfl,f1,f2,f3,f4,f5,f7,f8,f6⟩ := UU h1 hp hq
 obtain ⟨es,vx,b',g0,g1,g2,gn,g3,g4,g5,g6,g7,g8⟩ := QO (a := a) h2 hx f1 f2 f3 f4 (fun d hd => ⟨(hi.a d hd).1,(hi.a d hd).2.1⟩) fun id ao e => by
  obtain ⟨q1,q2,q3,q4,q5⟩ := f7 id ao e
  refine ⟨hd.nl id q1,fun z => hd.rn id z q3,q4,fun w f n ew => ?_⟩
  obtain ⟨r1,r2⟩ := hd.ef w f n ew
  exact ⟨(r2 id q3).1,(r2 id q3).2,r1 id q2,fun j hj => r1 j (q5 j hj)⟩
 have hne : ∀ i ∈ rdp.keeps,i ∉ kL es := fun i hi he => by
  obtain ⟨w,f,n,e,hw⟩ := g5 i he
  exact (hd.ef w f n e).1 i hi hw
 refine ⟨b',g0,f6 b' c es ox.dst vx g1 (fun d hd => hi.b d hd) hne gn (fun i hi => ?_) ?_ g6 g3.symm g4.symm⟩
 ·exact g8 i (fun z => hd.rn i z hi) fun w f n e => ⟨((hd.ef w f n e).2 i hi).1,((hd.ef w f n e).2 i hi).2,(hd.ef w f n e).1 i (f8 i hi).1,fun cs hl j hj => (hd.ef w f n e).1 j ((f8 i hi).2 cs hl j hj)⟩
 ·rw [g2,g1,f1]
  funext t
  by_cases e1 : ox.dst = some t
  ·have e2 : op.dst ≠ some t := fun e => (hi.a t e).2.2 e1
   rw [Gi e1,rJ e2,Gi e1]
  ·rw [rJ e1]
   by_cases e2 : op.dst = some t
   ·rw [Gi e2]
    show (rH op.dst vp (look a.tm) t).map (eP es) = _
    rw [Gi e2]
    show some (eP es vp) = _
    rw [f5 es hne]
   ·rw [rJ e2,rJ e1]
    show (rH op.dst vp (look a.tm) t).map (eP es) = (look a.tm t).map (eP es)
    rw [rJ e2]
end
end Go.E
end
section
namespace Go.E
section
variable {C : kG} {Rc : ak} {all : List Oper} {base : Nat}
abbrev UW := Nat × Rd × Option (List Nat × List Nat × Nat)
inductive nO (C : kG) (Rc : ak) (all : List Oper) (base : Nat) : AS -> List Nat -> AS -> List UW -> Prop
 | nil {a : AS} : nO C Rc all base a [] a []
 | cons {a b c : AS} {i : Nat} {r : List Nat} {rd : Rd} {wt : Option (List Nat × List Nat × Nat)} {tr : List UW} : o8 C Rc all base a i b rd wt -> nO C Rc all base b r c tr -> nO C Rc all base a (i :: r) c ((i,rd,wt) :: tr)
def A8 (an : Nat -> List Nat) (p e : UW) : Prop := p.1 ∉ an e.1 -> Free p.2.1 e.2.1 e.2.2
def Fine (an : Nat -> List Nat) (tr : List UW) : Prop := tr.Pairwise (A8 an)
def isQ (C : kG) (all : List Oper) (i : Nat) : Prop := ∃ o,nth all i = some o ∧ still C o = true
theorem Oy {a b : AS} {p : Nat} {rd : Rd} {wt : Option (List Nat × List Nat × Nat)} (h : o8 C Rc all base a p b rd wt) (hq : isQ C all p) : wt = none := by
 obtain ⟨o,ho,hq⟩ := hq
 cases h with
 | quiet => rfl
 | new => rfl
 | act h1 _ h3 h4 => rw [ho] at h1; cases h1; unfold still at hq; rw [h3,h4] at hq; cases hq
 | pass => rfl
theorem Oz {a b : AS} {p : Nat} {rd : Rd} {wt : Option (List Nat × List Nat × Nat)} (h : o8 C Rc all base a p b rd wt) : (∀ j ∈ rd.reads,j ∈ rd.looks ∨ j ∈ rd.news) ∧ (∀ j ∈ rd.news,j = base + p) ∧ (isQ C all p -> ∀ j ∈ rd.looks,j ∈ rd.reads) := by
 cases h with
 | quiet => exact ⟨fun j hj => .inl hj,fun j hj => (by cases hj),fun _ j hj => hj⟩
 | new => exact ⟨fun j hj => (List.mem_cons.1 hj).elim (fun e => .inr (by rw [e]; exact List.mem_cons_self)) .inl,fun j hj => List.mem_singleton.1 hj,fun _ j hj => List.mem_cons_of_mem _ hj⟩
 | act h1 _ h3 h4 => exact ⟨fun j hj => (by cases hj),fun j hj => (by cases hj),fun hq => by
   obtain ⟨o,ho,hq⟩ := hq
   rw [ho] at h1; cases h1; unfold still at hq; rw [h3,h4] at hq; cases hq⟩
 | pass => exact ⟨fun j hj => (by cases hj),fun j hj => (by cases hj),fun _ j hj => (by cases hj)⟩
theorem OA {an : Nat -> List Nat} {i : Nat} {oi : Oper} (hoi : nth all i = some oi) : ∀ {l1 l2 : List Nat} {a c : AS} {tr : List UW},nO C Rc all base a (l1 ++ i :: l2) c tr -> Fine an tr -> (∀ x ∈ l1,x ∉ an i ∧ x ≠ i ∧ ∃ ox,nth all x = some ox ∧ still C ox = true ∧ EW all ox oi) ->
  ∃ Zm,nO C Rc all base a (i :: (l1 ++ l2)) c Zm ∧ Fine an Zm ∧ ∀ e ∈ Zm,e ∈ tr
 | [],l2,a,c,tr,h,hf,_ => ⟨tr,h,hf,fun _ he => he⟩
 | x :: l1,l2,a,c,tr,h,hf,hx => by
  cases h with
  | cons h1 h2 =>
   rename_i b rdx wtx tr1
   obtain ⟨hf1,hf2⟩ := List.pairwise_cons.1 hf
   obtain ⟨akv,k1,k2,k3⟩ := OA hoi h2 hf2 fun y hy => hx y (List.mem_cons_of_mem _ hy)
   obtain ⟨hxa,hxi,ox,hox,hq,agG⟩ := hx x List.mem_cons_self
   cases k1 with
   | cons g1 g2 =>
    rename_i b2 rdi wti tr2
    have hst : A8 an (x,rdx,wtx) (i,rdi,wti) := hf1 _ (k3 _ List.mem_cons_self)
    obtain ⟨b',q1,q2⟩ := QS h1 g1 hox hoi hq agG (hst hxa)
    obtain ⟨m1,m2⟩ := List.pairwise_cons.1 k2
    refine ⟨(i,rdi,wti) :: (x,rdx,wtx) :: tr2,.cons q1 (.cons q2 g2),?_,fun e he => ?_⟩
    ·refine List.pairwise_cons.2 ⟨fun e he => ?_,List.pairwise_cons.2 ⟨fun e he => hf1 e (k3 e (List.mem_cons_of_mem _ he)),m2⟩⟩
     rcases List.mem_cons.1 he with y | he
     ·subst y
      intro _
      obtain ⟨u1,u2,u3⟩ := Oz h1
      obtain ⟨v1,v2,_⟩ := Oz g1
      have hf := hst hxa
      refine ⟨fun j hj y => hf.rn j hj (u3 ⟨ox,hox,hq⟩ j y),fun j hj y => ?_,fun w f n e => ?_⟩
      ·rcases v1 j y with z | z
       ·exact hf.nl j hj z
       ·have e1 := u2 j hj
        have e2 := v2 j z
        exact hxi (by omega)
      ·rw [show wtx = none from Oy h1 ⟨ox,hox,hq⟩] at e
       cases e
     ·exact m1 e he
    ·rcases List.mem_cons.1 he with y | he
     ·subst y; exact List.mem_cons_of_mem _ (k3 _ List.mem_cons_self)
     ·rcases List.mem_cons.1 he with y | he
      ·subst y; exact List.mem_cons_self
      ·exact List.mem_cons_of_mem _ (k3 e (List.mem_cons_of_mem _ he))
inductive Sorts (C : kG) (all : List Oper) (an : Nat -> List Nat) : List Nat -> List Nat -> Prop
 | nil : Sorts C all an [] []
 | cons {i : Nat} {oi : Oper} {l1 l2 σ : List Nat} : nth all i = some oi -> (∀ x ∈ l1,x ∉ an i ∧ x ≠ i ∧ ∃ ox,nth all x = some ox ∧ still C ox = true ∧ EW all ox oi) -> Sorts C all an (l1 ++ l2) σ -> Sorts C all an (l1 ++ i :: l2) (i :: σ)
theorem E8 {an : Nat -> List Nat} {ord σ : List Nat} (h : Sorts C all an ord σ) : ∀ {a c : AS} {tr : List UW},nO C Rc all base a ord c tr -> Fine an tr -> ∃ Zm,nO C Rc all base a σ c Zm := by
 induction h with
 | nil => intro a c tr h _; exact ⟨tr,h⟩
 | cons hoi hx _ ih =>
  intro a c tr h hf
  obtain ⟨Zm,k1,k2,_⟩ := OA hoi h hf hx
  cases k1 with
  | cons g1 g2 =>
   obtain ⟨tr2,k3⟩ := ih g2 (List.pairwise_cons.1 k2).2
   exact ⟨_,.cons g1 k3⟩
theorem J6 {pr : Nat -> List Nat} {D σ : List Nat} {i : Nat} (h : rC pr D (i :: σ)) : rC pr (i :: D) σ := by
 intro l x r e q hq
 rcases h (i :: l) x r (by rw [e]; rfl) q hq with y | y
 ·exact .inl (List.mem_cons_of_mem _ y)
 ·rcases List.mem_cons.1 y with y | y
  ·exact .inl (by rw [y]; exact List.mem_cons_self)
  ·exact .inr y
theorem J7 {l1 l2 l r : List Nat} {i b : Nat} (h : l1 ++ l2 = l ++ b :: r) : (∃ r',l1 = l ++ b :: r' ∧ r = r' ++ l2) ∨ ∃ l',l = l1 ++ l' ∧ l2 = l' ++ b :: r := by
 rcases List.append_eq_append_iff.1 h with ⟨a',h1,h2⟩ | ⟨c',h1,h2⟩
 ·exact .inr ⟨a',h1,h2⟩
 ·cases c' with
  | nil =>
   simp at h1 h2
   exact .inr ⟨[],by simp [h1],by simp [h2]⟩
  | cons x c' =>
   simp at h2
   obtain ⟨rfl,rfl⟩ := h2
   exact .inl ⟨c',h1,rfl⟩
theorem WO {all : List Oper} {i : Nat} (h : i < all.length) : ∃ o,nth all i = some o := by
 induction all generalizing i with
 | nil => cases h
 | cons x r ih => cases i with
  | zero => exact ⟨x,rfl⟩
  | succ i => exact ih (i := i) (by simpa using h)
theorem Hw {qt : Nat -> Bool} {an : Nat -> List Nat} (hqt : ∀ x,qt x = true -> isQ C all x) :
  ∀ (σ ord D : List Nat),He qt all an D ord σ -> Sorts C all an ord σ
 | [],ord,D,h => by
  have : ord = [] := List.eq_nil_iff_forall_not_mem.2 fun x hx => by have := (h.mem x).1 hx; cases this
  subst this; exact .nil
 | i :: σ,ord,D,h => by
  have hi : i ∈ ord := (h.mem i).2 List.mem_cons_self
  obtain ⟨l1,l2,rfl⟩ := List.append_of_mem hi
  have hni := List.nodup_cons.1 h.nds
  obtain ⟨hd1,hd2,hd3,hd4,hd5⟩ := zB h.nd
  obtain ⟨oi,hoi⟩ := WO (h.ex i hi)
  have ani : ∀ q ∈ an i,q ∈ D := fun q hq => by
   rcases h.t2 [] i σ rfl q hq with y | y
   ·exact y
   ·cases y
  have pri : ∀ q ∈ vk all i,q ∈ D := fun q hq => by
   rcases h.t3 [] i σ rfl q hq with y | y
   ·exact y
   ·cases y
  have ad5 : eH qt (l1 ++ i :: l2) = eH qt l1 ++ eH qt (i :: l2) := vI l1 (i :: l2)
  have hq1 : ∀ x ∈ l1,qt x = true := by
   intro x hx
   refine Classical.byContradiction fun hnx => ?_
   have hnx : qt x = false := by cases hh : qt x with | true => exact absurd hh hnx | false => rfl
   cases hqi : qt i with
   | true =>
    obtain ⟨la,lb,e⟩ := List.append_of_mem hx
    obtain ⟨q,hq,hqr⟩ := h.eager la x (lb ++ i :: l2) (by rw [e]; simp) hnx i (by simp) hqi
    have e2 : la ++ x :: (lb ++ i :: l2) = l1 ++ i :: l2 := by rw [e]; simp
    exact h.out q (by rw [<- e2]; exact List.mem_append.2 (.inr hqr)) (pri q hq)
   | false =>
    have hl := h.loud
    have ei : ∀ r,eH qt (i :: r) = i :: eH qt r := fun r => by
     show (bif qt i then eH qt r else i :: eH qt r) = _
     rw [hqi]; rfl
    rw [ad5,ei,ei] at hl
    have h3 : x ∈ eH qt l1 := iw.2 ⟨hx,hnx⟩
    cases hll : eH qt l1 with
    | nil => rw [hll] at h3; cases h3
    | cons y ys =>
     rw [hll] at hl
     simp at hl
     have : y ∈ l1 := by
      have : y ∈ eH qt l1 := by rw [hll]; exact List.mem_cons_self
      exact (iw.1 this).1
     exact hd1 (by rw [<- hl.1]; exact this)
  have iD : i ∉ D := h.out i hi
  have l12 : ∀ {x},x ∈ l1 ++ l2 -> x ∈ l1 ++ i :: l2 := fun {x} hx => (List.mem_append.1 hx).elim (fun y => List.mem_append.2 (.inl y)) fun y => List.mem_append.2 (.inr (List.mem_cons_of_mem _ y))
  have tt : ∀ {f : Nat -> List Nat},rC f D (l1 ++ i :: l2) -> rC f (i :: D) (l1 ++ l2) := fun {f} ht l x r e q hq => by
   rcases J7 (i := i) e with ⟨r',h1,h2⟩ | ⟨l',h1,h2⟩
   ·rcases ht l x (r' ++ i :: l2) (by rw [h1]; simp) q hq with y | y
    ·exact .inl (List.mem_cons_of_mem _ y)
    ·exact .inr y
   ·rcases ht (l1 ++ i :: l') x r (by rw [h2]; simp) q hq with y | y
    ·exact .inl (List.mem_cons_of_mem _ y)
    ·rcases List.mem_append.1 y with z | z
     ·exact .inr (by rw [h1]; exact List.mem_append.2 (.inl z))
     ·rcases List.mem_cons.1 z with z | z
      ·exact .inl (by rw [z]; exact List.mem_cons_self)
      ·exact .inr (by rw [h1]; exact List.mem_append.2 (.inr z))
  refine .cons hoi (fun x hx => ?_) (Hw hqt σ (l1 ++ l2) (i :: D) ⟨fun x => ?_,List.nodup_append.2 ⟨hd3,hd4,fun a ha b hb e => hd5 a ha (by rw [e]; exact hb)⟩,hni.2,fun x hx => ?_,fun x hx => h.ex x (l12 hx),tt h.t1,J6 h.t2,J6 h.t3,tt h.t4,?_,?_,h.ind⟩)
  ·obtain ⟨ox,hox⟩ := WO (h.ex x (List.mem_append.2 (.inl hx)))
   have hxa : x ∉ an i := fun y => h.out x (List.mem_append.2 (.inl hx)) (ani x y)
   have hne : x ≠ i := fun e => hd1 (by rw [<- e]; exact hx)
   have hia : i ∉ an x := fun y => by
    obtain ⟨la,lb,e⟩ := List.append_of_mem hx
    rcases h.t1 la x (lb ++ i :: l2) (by rw [e]; simp) i y with z | z
    ·exact iD z
    ·exact hd1 (by rw [e]; exact List.mem_append.2 (.inl z))
   obtain ⟨o2,g1,g2⟩ := hqt x (hq1 x hx)
   rw [hox] at g1; cases g1
   exact ⟨hxa,hne,ox,hox,g2,h.ind x i hne hxa hia ox oi hox hoi (hq1 x hx)⟩
  ·have := h.mem x
   simp only [List.mem_append,List.mem_cons] at this ⊢
   constructor
   ·intro y
    rcases (this.1 (y.elim .inl fun z => .inr (.inr z))) with z | z
    ·subst z; exact absurd y (fun w => w.elim hd1 hd2)
    ·exact z
   ·intro y
    rcases this.2 (.inr y) with z | z | z
    ·exact .inl z
    ·subst z; exact absurd y hni.1
    ·exact .inr z
  ·rintro y
   rcases List.mem_cons.1 y with z | z
   ·subst z; exact (List.mem_append.1 hx).elim hd1 hd2
   ·exact h.out x (l12 hx) z
  ·intro l b r e hb p hp' hqp
   rcases J7 (i := i) e with ⟨r',h1,h2⟩ | ⟨l',h1,h2⟩
   ·have := hq1 b (by rw [h1]; simp)
    rw [hb] at this; cases this
   ·exact h.eager (l1 ++ i :: l') b r (by rw [h2]; simp) hb p hp' hqp
  ·have h0 : eH qt l1 = [] := List.eq_nil_iff_forall_not_mem.2 fun x hx => by
    have h1 := iw.1 hx
    rw [hq1 x h1.1] at h1; cases h1.2
   have hl := h.loud
   rw [ad5,h0,List.nil_append] at hl
   rw [vI,h0,List.nil_append]
   have : ∀ {a b : List Nat},eH qt (i :: a) = eH qt (i :: b) -> eH qt a = eH qt b := fun {a b} e => by
    have e : (bif qt i then eH qt a else i :: eH qt a) = (bif qt i then eH qt b else i :: eH qt b) := e
    cases hh : qt i with
    | true => rw [hh] at e; exact e
    | false => rw [hh] at e; exact (List.cons.inj e).2
   exact this hl
end
end Go.E
end
section
namespace Go.E
theorem QT {α : Type} : ∀ (l : List α) (i : Nat),nth l i = l[i]?
 | [],i => by cases i <;> rfl
 | _ :: _,0 => rfl
 | _ :: r,i + 1 => by rw [nth,QT r i]; simp
def tC (listed : Array Bool) (n : Nat) : List Nat := (List.range n).filter fun i => !listed.getD i true
theorem J8 {ops : Array Oper} {listed : Array Bool} {i : Nat} : i ∈ Region.ready .any ops listed ↔ i < ops.size ∧ listed.getD i true = false ∧ ∀ q ∈ vk ops.toList i,listed.getD q false = true := by
 unfold Region.ready
 rw [List.mem_filter,List.mem_range]
 have : ∀ h : i < ops.size,((((ops[i]?).map (·.after.all fun e => !Region.binds .any e || listed.getD e.on false)).getD false) = true ↔ ∀ q ∈ vk ops.toList i,listed.getD q false = true) := by
  intro h
  have e : ops[i]? = some ops[i] := Array.getElem?_eq_getElem h
  have e2 : nth ops.toList i = some ops[i] := by rw [QT,Array.getElem?_toList]; exact e
  unfold vk
  rw [e,e2]
  simp only [Option.map_some,Option.getD_some,Array.all_eq_true',List.mem_map,List.mem_filter,Array.mem_toList_iff,Bool.or_eq_true,Bool.not_eq_true']
  constructor
  ·rintro k q ⟨ed,⟨h1,h2⟩,rfl⟩
   rcases k ed h1 with y | y
   ·rw [y] at h2; cases h2
   ·exact y
  ·intro k ed h1
   cases hb : Region.binds .any ed with
   | false => exact .inl rfl
   | true => exact .inr (k _ ⟨ed,⟨h1,hb⟩,rfl⟩)
 constructor
 ·rintro ⟨h1,h2⟩
  rw [Bool.and_eq_true,Bool.not_eq_true'] at h2
  exact ⟨h1,h2.1,(this h1).1 h2.2⟩
 ·rintro ⟨h1,h2,h3⟩
  refine ⟨h1,?_⟩
  rw [Bool.and_eq_true,Bool.not_eq_true']
  exact ⟨h2,(this h1).2 h3⟩
theorem CQ {listed : Array Bool} {i j : Nat} {d : Bool} (h : i < listed.size) : (listed.setIfInBounds i true).getD j d = if j = i then true else listed.getD j d := by
 by_cases e : j = i
 ·subst e; simp [Array.getD,h]
 ·rw [if_neg e]
  simp [Array.getD_eq_getD_getElem?,Array.getElem?_setIfInBounds_ne (Ne.symm e)]
theorem WQ {ops : Array Oper} {ord : List Nat} (hord : ∀ i,i < ops.size -> i ∈ ord) (htop : rC (vk ops.toList) [] ord) (hlt : ∀ i,i < ops.size -> ∀ q ∈ vk ops.toList i,q < ops.size) :
  ∀ (fuel t : Nat) (listed : Array Bool),listed.size = ops.size -> (tC listed ops.size).length <= fuel ->
   (Region.linearise.go .any ops fuel t listed []).Nodup ∧ (∀ i,i ∈ Region.linearise.go .any ops fuel t listed [] ↔ i < ops.size ∧ listed.getD i true = false) ∧
   ∀ l i r,Region.linearise.go .any ops fuel t listed [] = l ++ i :: r -> ∀ q ∈ vk ops.toList i,listed.getD q false = true ∨ q ∈ l
 | 0,t,listed,hs,hf => by
  have h0 : tC listed ops.size = [] := List.length_eq_zero_iff.1 (Nat.le_zero.1 hf)
  refine ⟨by simp [Region.linearise.go],fun i => ?_,fun l i r e => by simp [Region.linearise.go] at e⟩
  simp only [Region.linearise.go,List.reverse_nil,List.not_mem_nil,false_iff]
  rintro ⟨h1,h2⟩
  have : i ∈ tC listed ops.size := by unfold tC; rw [List.mem_filter,List.mem_range,h2]; exact ⟨h1,rfl⟩
  rw [h0] at this; cases this
 | fuel + 1,t,listed,hs,hf => by
  have hgo : Region.linearise.go .any ops (fuel + 1) t listed [] = (match (Region.ready .any ops listed)[t % (Region.ready .any ops listed).length]? with
   | some i => i :: Region.linearise.go .any ops fuel (t / (Region.ready .any ops listed).length) (listed.setIfInBounds i true) []
   | none => []) := by
   show (match (Region.ready .any ops listed)[t % (Region.ready .any ops listed).length]? with
    | some i => Region.linearise.go .any ops fuel (t / (Region.ready .any ops listed).length) (listed.setIfInBounds i true) (i :: [])
    | none => ([] : List Nat).reverse) = _
   cases (Region.ready .any ops listed)[t % (Region.ready .any ops listed).length]? with
   | none => rfl
   | some i =>
    dsimp only
    rw [linearise_go_acc,List.reverse_singleton,List.singleton_append]
  rw [hgo]
  cases hi : (Region.ready .any ops listed)[t % (Region.ready .any ops listed).length]? with
  | none =>
   have hnil : Region.ready .any ops listed = [] := by
    cases hr : Region.ready .any ops listed with
    | nil => rfl
    | cons x xs =>
     rw [hr] at hi
     have hlt : t % (x :: xs).length < (x :: xs).length := Nat.mod_lt _ (by simp)
     rw [List.getElem?_eq_getElem hlt] at hi
     cases hi
   dsimp only
   refine ⟨List.nodup_nil,fun i => ?_,fun l i r e => by cases l <;> cases e⟩
   simp only [List.not_mem_nil,false_iff]
   rintro ⟨h1,h2⟩
   have : ∀ (k : Nat) (l r : List Nat),l.length = k -> ∀ x,ord = l ++ x :: r -> x < ops.size -> listed.getD x true = false -> False := by
    intro k
    induction k using Nat.strongRecOn with
    | _ k ih =>
     intro l r hk x e hx hlx
     by_cases hall : ∀ q ∈ vk ops.toList x,listed.getD q false = true
     ·have : x ∈ Region.ready .any ops listed := J8.2 ⟨hx,hlx,hall⟩
      rw [hnil] at this; cases this
     ·have hall : ∃ q ∈ vk ops.toList x,listed.getD q false = false := by
       refine Classical.byContradiction fun hc => hall fun q hq => ?_
       cases hlq : listed.getD q false with
       | true => rfl
       | false => exact absurd ⟨q,hq,hlq⟩ hc
      obtain ⟨q,hq,hlq⟩ := hall
      have hq2 := hlt x hx q hq
      rcases htop l x r e q hq with y | y
      ·cases y
      ·obtain ⟨la,lb,e2⟩ := List.append_of_mem y
       refine ih la.length (by rw [<- hk,e2]; simp) la (lb ++ x :: r) rfl q (by rw [e,e2]; simp) hq2 ?_
       rw [<- hlq]
       simp [Array.getD,hs,hq2]
   obtain ⟨l,r,e⟩ := List.append_of_mem (hord i h1)
   exact this l.length l r rfl i e h1 h2
  | some i =>
   dsimp only
   obtain ⟨h1,h2,h3⟩ := J8.1 (List.mem_of_getElem? hi)
   have hopen : (tC (listed.setIfInBounds i true) ops.size).length < (tC listed ops.size).length := by
    have him : i ∈ tC listed ops.size := by unfold tC; rw [List.mem_filter,List.mem_range,h2]; exact ⟨h1,rfl⟩
    have hsub : tC (listed.setIfInBounds i true) ops.size = (tC listed ops.size).filter fun j => decide (j ≠ i) := by
     unfold tC
     rw [List.filter_filter]
     apply List.filter_congr
     intro j _
     rw [CQ (by rw [hs]; exact h1)]
     by_cases e : j = i <;> simp [e]
    rw [hsub]
    rcases Nat.lt_or_ge ((tC listed ops.size).filter fun j => decide (j ≠ i)).length (tC listed ops.size).length with y | y
    ·exact y
    ·have := (List.length_filter_eq_length_iff (p := fun j => decide (j ≠ i)) (l := tC listed ops.size)).1 (Nat.le_antisymm (List.length_filter_le _ _) y) i him
     simp at this
   obtain ⟨k1,k2,k3⟩ := WQ hord htop hlt fuel (t / (Region.ready .any ops listed).length) (listed.setIfInBounds i true) (by simp [hs]) (by omega)
   refine ⟨List.nodup_cons.2 ⟨fun y => ?_,k1⟩,fun j => ?_,fun l x r e q hq => ?_⟩
   ·have := ((k2 i).1 y).2
    rw [CQ (by rw [hs]; exact h1),if_pos rfl] at this
    cases this
   ·rw [List.mem_cons,k2 j,CQ (by rw [hs]; exact h1)]
    by_cases e : j = i
    ·subst e; simp [h1,h2]
    ·simp [e]
   ·cases l with
    | nil =>
     simp at e
     rw [<- e.1] at hq
     exact .inl (h3 q hq)
    | cons y l =>
     simp at e
     obtain ⟨rfl,e⟩ := e
     rcases k3 l x r e q hq with z | z
     ·rw [CQ (by rw [hs]; exact h1)] at z
      split at z
      ·rename_i e'; exact .inr (by rw [e']; exact List.mem_cons_self)
      ·exact .inl z
     ·exact .inr (List.mem_cons_of_mem _ z)
theorem UY {ops : Array Oper} {ord : List Nat} (hord : ∀ i,i < ops.size -> i ∈ ord) (htop : rC (vk ops.toList) [] ord) (hlt : ∀ i,i < ops.size -> ∀ q ∈ vk ops.toList i,q < ops.size) (t : Nat) :
  (Region.linearise .any ops t).Nodup ∧ (∀ i,i ∈ Region.linearise .any ops t ↔ i < ops.size) ∧ rC (vk ops.toList) [] (Region.linearise .any ops t) := by
 have h0 : ∀ i,i < ops.size -> (Array.replicate ops.size false).getD i true = false := fun i hi => by simp [Array.getD,hi]
 obtain ⟨k1,k2,k3⟩ := WQ hord htop hlt ops.size t (Array.replicate ops.size false) (by simp) (by unfold tC; exact Nat.le_trans (List.length_filter_le _ _) (by simp))
 refine ⟨k1,fun i => ?_,fun l i r e q hq => ?_⟩
 ·exact (k2 i).trans ⟨fun h => h.1,fun h => ⟨h,h0 i h⟩⟩
 ·rcases k3 l i r e q hq with y | y
  ·exfalso
   have : (Array.replicate ops.size false).getD q false = false := by
    simp [Array.getD]
   rw [this] at y; cases y
  ·exact .inr y
end Go.E
end
section
namespace Go.E
section
variable {qt : Nat -> Bool} {all : List Oper}
theorem Ba : ∀ {a b : List Nat},within a b = true -> ∀ i ∈ a,i ∈ b
 | x :: r,b,h,i,hi => by
  have h : (dJ x b && within r b) = true := h
  rw [Bool.and_eq_true] at h
  rcases List.mem_cons.1 hi with e | hi
  ·rw [e]; exact dZ.1 h.1
  ·exact Ba h.2 i hi
theorem D5 : ∀ {a b : List Nat},meets a b = true -> ∃ i ∈ a,i ∈ b
 | x :: r,b,h => by
  have h : (dJ x b || meets r b) = true := h
  rw [Bool.or_eq_true] at h
  rcases h with h | h
  ·exact ⟨x,List.mem_cons_self,dZ.1 h⟩
  ·obtain ⟨i,h1,h2⟩ := D5 h
   exact ⟨i,List.mem_cons_of_mem _ h1,h2⟩
theorem CS : ∀ {n : Nat} {l : List Nat},below n l = true -> ∀ i ∈ l,i < n
 | n,x :: r,h,i,hi => by
  have h : (Nat.blt x n && below n r) = true := h
  rw [Bool.and_eq_true] at h
  rcases List.mem_cons.1 hi with e | hi
  ·rw [e]; exact Nat.le_of_ble_eq_true h.1
  ·exact CS h.2 i hi
theorem J9 : ∀ {ord : List (Nat × List Nat)} {i : Nat} {an : List Nat},nodup (idxs ord) = true -> (i,an) ∈ ord -> ql ord i = an
 | (j,l) :: r,i,an,hn,h => by
  have hn : (!dJ j (idxs r) && nodup (idxs r)) = true := hn
  rw [Bool.and_eq_true,Bool.not_eq_true'] at hn
  have mem : ∀ {r : List (Nat × List Nat)} {i an},(i,an) ∈ r -> i ∈ idxs r := by
   intro r
   induction r with
   | nil => intro i an h; cases h
   | cons p r ih =>
    intro i an h
    obtain ⟨k,m⟩ := p
    rcases List.mem_cons.1 h with e | h
    ·cases e; exact List.mem_cons_self
    ·exact List.mem_cons_of_mem _ (ih h)
  unfold ql
  show (match (bif Nat.beq j i then some l else look r i) with | some l => l | none => []) = an
  rcases List.mem_cons.1 h with e | h
  ·cases e; rw [Nat.beq_refl]; rfl
  ·have hji : j ≠ i := fun e => by
    rw [e] at hn
    rw [dZ.2 (mem h)] at hn; cases hn.1
   rw [cO hji,cond_false]
   exact J9 hn.2 h
theorem Hy {an : Nat -> List Nat} : ∀ {ord : List (Nat × List Nat)} {D : List Nat},SB all ord D = true -> (∀ p ∈ ord,an p.1 = p.2) -> rC an D (idxs ord) ∧ rC (vk all) D (idxs ord)
 | [],D,_,_ => ⟨fun l i r e => (by cases l <;> cases e),fun l i r e => (by cases l <;> cases e)⟩
 | (j,aj) :: ord,D,h,ha => by
  have h : (within aj D && within (vk all j) D && SB all ord (j :: D)) = true := h
  rw [Bool.and_eq_true,Bool.and_eq_true] at h
  obtain ⟨k1,k2⟩ := Hy h.2 fun p hp => ha p (List.mem_cons_of_mem _ hp)
  have gen : ∀ (f : Nat -> List Nat),(∀ q ∈ f j,q ∈ D) -> rC f (j :: D) (idxs ord) -> rC f D (j :: idxs ord) := by
   intro f h1 h2 l i r e q hq
   cases l with
   | nil =>
    simp at e
    rw [<- e.1] at hq
    exact .inl (h1 q hq)
   | cons y l =>
    simp at e
    obtain ⟨rfl,e⟩ := e
    rcases h2 l i r e q hq with z | z
    ·rcases List.mem_cons.1 z with z | z
     ·exact .inr (by rw [z]; exact List.mem_cons_self)
     ·exact .inl z
    ·exact .inr (List.mem_cons_of_mem _ z)
  refine ⟨gen an (fun q hq => ?_) k1,gen (vk all) (Ba h.1.2) k2⟩
  rw [ha (j,aj) List.mem_cons_self] at hq
  exact Ba h.1.1 q hq
theorem CU : ∀ {l : List Nat},Ld qt all l = true -> Eager qt (vk all) l
 | [],_ => fun l b r e => by cases l <;> cases e
 | x :: l,h => by
  have h : ((qt x || Gx qt all (x :: l) l) && Ld qt all l) = true := h
  rw [Bool.and_eq_true,Bool.or_eq_true] at h
  intro la b r e hb p hp hqp
  cases la with
  | nil =>
   simp at e
   obtain ⟨rfl,rfl⟩ := e
   rcases h.1 with h1 | h1
   ·rw [h1] at hb; cases hb
   ·have : ∀ (s : List Nat),Gx qt all (x :: l) s = true -> p ∈ s -> ∃ q ∈ vk all p,q ∈ x :: l := by
     intro s
     induction s with
     | nil => intro _ hp; cases hp
     | cons y s ih =>
      intro hs hp
      have hs : ((!qt y || meets (vk all y) (x :: l)) && Gx qt all (x :: l) s) = true := hs
      rw [Bool.and_eq_true,Bool.or_eq_true,Bool.not_eq_true'] at hs
      rcases List.mem_cons.1 hp with e | hp
      ·subst e
       rcases hs.1 with z | z
       ·rw [hqp] at z; cases z
       ·exact D5 z
      ·exact ih hs.2 hp
    exact this l h1 hp
  | cons y la =>
   simp at e
   obtain ⟨rfl,e⟩ := e
   exact CU h.2 la b r e hb p hp hqp
theorem Tf {ord : List (Nat × List Nat)} : ∀ {l : List Nat},anB all ord l = true -> ∀ i ∈ l,(∀ q ∈ ql ord i,q ∈ vk all i ∨ ∃ j ∈ vk all i,q ∈ ql ord j) ∧ ∀ q ∈ vk all i,q < all.length
 | x :: l,h,i,hi => by
  have h : (VN all ord x (vk all x) (ql ord x) && below all.length (vk all x) && anB all ord l) = true := h
  rw [Bool.and_eq_true,Bool.and_eq_true] at h
  rcases List.mem_cons.1 hi with e | hi
  ·subst e
   refine ⟨?_,CS h.1.2⟩
   have : ∀ (s : List Nat),VN all ord i (vk all i) s = true -> ∀ q ∈ s,q ∈ vk all i ∨ ∃ j ∈ vk all i,q ∈ ql ord j := by
    intro s
    induction s with
    | nil => intro _ q hq; cases hq
    | cons y s ih =>
     intro hs q hq
     have hs : ((dJ y (vk all i) || (vk all i).any fun j => dJ y (ql ord j)) && VN all ord i (vk all i) s) = true := hs
     rw [Bool.and_eq_true,Bool.or_eq_true,List.any_eq_true] at hs
     rcases List.mem_cons.1 hq with e | hq
     ·subst e
      rcases hs.1 with z | ⟨j,z1,z2⟩
      ·exact .inl (dZ.1 z)
      ·exact .inr ⟨j,z1,dZ.1 z2⟩
     ·exact ih hs.2 q hq
   exact this _ h.1.1
  ·exact Tf h.2 i hi
theorem D7 {d : Nat} {o : Option Nat} (h : Le d o = true) : o ≠ some d := by
 intro e; subst e
 have h : (!Nat.beq d d) = true := h
 rw [Nat.beq_refl] at h; cases h
theorem lM {d : Nat} {l : List Nat} (h : (!dJ d l) = true) : d ∉ l := fun x => by
 rw [dZ.2 x] at h; cases h
theorem LM {p x : Oper} (h : Lh all p x = true) : EW all p x := by
 unfold Lh at h
 rw [Bool.and_eq_true] at h
 refine ⟨fun d hd => ?_,fun d hd => ?_⟩
 ·have h1 := h.1
  rw [hd] at h1
  dsimp only at h1
  rw [Bool.and_eq_true,Bool.and_eq_true] at h1
  exact ⟨lM h1.1.1,D7 h1.1.2,D7 h1.2⟩
 ·have h1 := h.2
  rw [hd] at h1
  dsimp only at h1
  rw [Bool.and_eq_true] at h1
  exact ⟨lM h1.1,D7 h1.2⟩
theorem OB {ord : List (Nat × List Nat)} {idx : List Nat} : ∀ {l : List Nat},Zt qt all ord idx l = true -> ∀ p ∈ l,∀ x ∈ idx,p ≠ x -> p ∉ ql ord x -> x ∉ ql ord p -> ∀ op ox,nth all p = some op -> nth all x = some ox -> qt p = true -> EW all op ox
 | y :: l,h,p,hp,x,hx,hne,h1,h2,op,ox,hop,hox,hq => by
  have h : ((match nth all y with | some op => !qt y || VO all ord y op idx | none => true) && Zt qt all ord idx l) = true := h
  rw [Bool.and_eq_true] at h
  rcases List.mem_cons.1 hp with e | hp
  ·subst e
   have h3 := h.1
   rw [hop] at h3
   dsimp only at h3
   rw [hq,Bool.not_true,Bool.false_or] at h3
   have : ∀ (s : List Nat),VO all ord p op s = true -> x ∈ s -> EW all op ox := by
    intro s
    induction s with
    | nil => intro _ hx; cases hx
    | cons z s ih =>
     intro hs hx
     have hs : ((Nat.beq p z || dJ p (ql ord z) || dJ z (ql ord p) || (match nth all z with | some ox => Lh all op ox | none => true)) && VO all ord p op s) = true := hs
     rw [Bool.and_eq_true] at hs
     rcases List.mem_cons.1 hx with e | hx
     ·subst e
      have h4 := hs.1
      rw [cO hne,zG h1,zG h2,hox] at h4
      exact LM h4
     ·exact ih hs.2 hx
   exact this idx h3 hx
  ·exact OB h.2 p hp x hx hne h1 h2 op ox hop hox hq
theorem OC : ∀ {n : Nat} {l : List Nat},upTo n l = true -> ∀ i,i < n -> i ∈ l
 | 0,_,_,i,hi => by omega
 | n + 1,l,h,i,hi => by
  have h : (dJ n l && upTo n l) = true := h
  rw [Bool.and_eq_true] at h
  by_cases e : i = n
  ·rw [e]; exact dZ.1 h.1
  ·exact OC h.2 i (by omega)
theorem zH {e : Nat} {s : List Nat} : ∀ {l : List (List Nat)},s ∈ tails e l -> e :: s ∈ l
 | (x :: t) :: r,h => by
  have h : s ∈ (bif Nat.beq x e then t :: tails e r else tails e r) := h
  by_cases y : x = e
  ·subst y
   rw [Nat.beq_refl,cond_true] at h
   rcases List.mem_cons.1 h with z | z
   ·subst z; exact List.mem_cons_self
   ·exact List.mem_cons_of_mem _ (zH z)
  ·rw [cO y,cond_false] at h
   exact List.mem_cons_of_mem _ (zH h)
 | [] :: r,h => List.mem_cons_of_mem _ (zH (l := r) h)
theorem Hz : ∀ {l : List (List Nat)},Qu l = true -> [] ∈ l
 | [] :: _,_ => List.mem_cons_self
 | (_ :: _) :: r,h => List.mem_cons_of_mem _ (Hz (l := r) h)
theorem cover {an : Nat -> List Nat} : ∀ (f : Nat) (NT : List (List Nat)) (rem s : List Nat),Gy an f NT rem = true -> s.Nodup -> (∀ x,x ∈ s ↔ x ∈ rem) -> (∀ l i r,s = l ++ i :: r -> ∀ q ∈ an i,q ∈ rem -> q ∈ l) -> s ∈ NT
 | 0,_,_,_,h,_,_,_ => by cases h
 | f + 1,NT,rem,[],h,_,hm,_ => by
  have : rem = [] := List.eq_nil_iff_forall_not_mem.2 fun x hx => by have := (hm x).2 hx; cases this
  subst this
  exact Hz h
 | f + 1,NT,rem,e :: s,h,hn,hm,ht => by
  have he : e ∈ rem := (hm e).1 List.mem_cons_self
  have hn' := List.nodup_cons.1 hn
  cases rem with
  | nil => cases he
  | cons x rem =>
   have h : ((x :: rem).all fun e => meets (an e) (x :: rem) || Gy an f (tails e NT) (vZ e (x :: rem))) = true := h
   have h1 := List.all_eq_true.1 h e he
   rw [Bool.or_eq_true] at h1
   rcases h1 with h1 | h1
   ·obtain ⟨q,q1,q2⟩ := D5 h1
    have := ht [] e s rfl q q1 q2
    cases this
   ·refine zH (cover f _ _ s h1 hn'.2 (fun y => ?_) fun l i r e2 q hq hqr => ?_)
    ·rw [qm, <- hm y,List.mem_cons]
     constructor
     ·intro hy; exact ⟨.inr hy,fun z => hn'.1 (by rw [<- z]; exact hy)⟩
     ·rintro ⟨z | z,w⟩
      ·exact absurd z w
      ·exact z
    ·rw [qm] at hqr
     rcases List.mem_cons.1 (ht (e :: l) i r (by rw [e2]; rfl) q hq hqr.1) with z | z
     ·exact absurd z hqr.2
     ·exact z
theorem Bc : ∀ {l : List (List (Nat × List Nat))},Gz qt all l = true -> ∀ o ∈ l,NS qt all o = true
 | x :: l,h,o,ho => by
  have h : (NS qt all x && Gz qt all l) = true := h
  rw [Bool.and_eq_true] at h
  rcases List.mem_cons.1 ho with e | ho
  ·rw [e]; exact h.1
  ·exact Bc h.2 o ho
theorem Fa : ∀ {l : List (List (Nat × List Nat))} {s : List Nat},s ∈ BX qt l -> ∃ o ∈ l,s = eH qt (idxs o)
 | x :: l,s,h => by
  rcases List.mem_cons.1 h with e | h
  ·exact ⟨x,List.mem_cons_self,e⟩
  ·obtain ⟨o,h1,h2⟩ := Fa h
   exact ⟨o,List.mem_cons_of_mem _ h1,h2⟩
end
end Go.E
end
section
namespace Go.E
section
variable {qt : Nat -> Bool} {all : List Oper}
theorem yI : ∀ {σ l r : List Nat} {i : Nat},eH qt σ = l ++ i :: r -> ∃ l' r',σ = l' ++ i :: r' ∧ eH qt l' = l
 | [],l,r,i,h => by
  have h : ([] : List Nat) = l ++ i :: r := h
  cases l <;> cases h
 | x :: σ,l,r,i,h => by
  have h : (bif qt x then eH qt σ else x :: eH qt σ) = l ++ i :: r := h
  cases hx : qt x with
  | true =>
   rw [hx,cond_true] at h
   obtain ⟨l',r',h1,h2⟩ := yI h
   exact ⟨x :: l',r',by rw [h1]; rfl,by show (bif qt x then _ else _) = _; rw [hx]; exact h2⟩
  | false =>
   rw [hx,cond_false] at h
   cases l with
   | nil =>
    simp at h
    exact ⟨[],σ,by rw [h.1]; rfl,rfl⟩
   | cons y l =>
    simp at h
    obtain ⟨e0,h0⟩ := h
    obtain ⟨l',r',h1,h2⟩ := yI h0
    subst e0
    exact ⟨x :: l',r',by rw [h1]; rfl,by show (bif qt x then _ else _) = _; rw [hx,cond_false,h2]⟩
theorem ZJ {pr an : Nat -> List Nat} {σ : List Nat} (h : rC pr [] σ) (ha : ∀ i ∈ σ,∀ q ∈ an i,q ∈ pr i ∨ ∃ j ∈ pr i,q ∈ an j) : rC an [] σ := by
 have : ∀ (k : Nat) (l : List Nat),l.length = k -> ∀ i r,σ = l ++ i :: r -> ∀ q ∈ an i,q ∈ l := by
  intro k
  induction k using Nat.strongRecOn with
  | _ k ih =>
   intro l hk i r e q hq
   have hi : i ∈ σ := by rw [e]; simp
   have prl : ∀ j ∈ pr i,j ∈ l := fun j hj => (h l i r e j hj).resolve_left (by simp)
   rcases ha i hi q hq with y | ⟨j,y,z⟩
   ·exact prl q y
   ·obtain ⟨la,lb,e2⟩ := List.append_of_mem (prl j y)
    have := ih la.length (by rw [<- hk,e2]; simp) la rfl j (lb ++ i :: r) (by rw [e,e2]; simp) q z
    rw [e2]; exact List.mem_append.2 (.inl this)
 exact fun l i r e q hq => .inr (this l.length l rfl i r e q hq)
structure Ti (qt : Nat -> Bool) (all : List Oper) (ord : List (Nat × List Nat)) : Prop where
 nd : (idxs ord).Nodup
 lt : ∀ i ∈ idxs ord,i < all.length
 full : ∀ i,i < all.length -> i ∈ idxs ord
 an : ∀ p ∈ ord,ql ord p.1 = p.2
 agH : rC (ql ord) [] (idxs ord)
 aaG : rC (vk all) [] (idxs ord)
 eager : Eager qt (vk all) (idxs ord)
 anc : ∀ i ∈ idxs ord,(∀ q ∈ ql ord i,q ∈ vk all i ∨ ∃ j ∈ vk all i,q ∈ ql ord j) ∧ ∀ q ∈ vk all i,q < all.length
 ind : ∀ p ∈ idxs ord,∀ x ∈ idxs ord,p ≠ x -> p ∉ ql ord x -> x ∉ ql ord p -> ∀ op ox,nth all p = some op -> nth all x = some ox -> qt p = true -> EW all op ox
theorem OD {ord : List (Nat × List Nat)} (h : NS qt all ord = true) : Ti qt all ord := by
 unfold NS at h
 simp only [Bool.and_eq_true] at h
 obtain ⟨⟨⟨⟨⟨⟨h1,h2⟩,h3⟩,h4⟩,h5⟩,h6⟩,h7⟩ := h
 have nd : ∀ {l : List Nat},nodup l = true -> l.Nodup := by
  intro l
  induction l with
  | nil => intro _; exact List.nodup_nil
  | cons x r ih =>
   intro h
   have h : (!dJ x r && nodup r) = true := h
   rw [Bool.and_eq_true] at h
   exact List.nodup_cons.2 ⟨lM h.1,ih h.2⟩
 have ha : ∀ p ∈ ord,ql ord p.1 = p.2 := fun p hp => J9 h1 hp
 obtain ⟨t1,t2⟩ := Hy h4 ha
 exact ⟨nd h1,CS h2,OC h3,ha,t1,t2,CU h5,Tf h6,OB h7⟩
theorem UZ {ops : Array Oper} {ou : List (List (Nat × List Nat))} (h : SC qt ops.toList ou = true) (t : Nat) :
  ∃ ord ∈ ou,Ti qt ops.toList ord ∧ He qt ops.toList (ql ord) [] (idxs ord) (Region.linearise .any ops t) := by
 cases ou with
 | nil => cases h
 | cons o r =>
  have h : (Gz qt ops.toList (o :: r) && Gy (ql o) (ops.toList.length + 1) (BX qt (o :: r)) (eH qt (idxs o))) = true := h
  rw [Bool.and_eq_true] at h
  have ho := OD (Bc h.1 o List.mem_cons_self)
  have hlen : ops.toList.length = ops.size := Array.length_toList
  obtain ⟨s1,s2,s3⟩ := UY (ops := ops) (fun i hi => ho.full i (by rw [hlen]; exact hi)) ho.aaG (fun i hi q hq => by rw [<- hlen]; exact (ho.anc i (ho.full i (by rw [hlen]; exact hi))).2 q hq) t
  have mem : ∀ {ord},Ti qt ops.toList ord -> ∀ x,x ∈ idxs ord ↔ x ∈ Region.linearise .any ops t := fun {ord} k x => by
   rw [s2]
   exact ⟨fun y => by rw [<- hlen]; exact k.lt x y,fun y => k.full x (by rw [hlen]; exact y)⟩
  have tan : ∀ {ord},Ti qt ops.toList ord -> rC (ql ord) [] (Region.linearise .any ops t) := fun {ord} k => ZJ s3 fun i hi => (k.anc i ((mem k i).2 hi)).1
  have hin : eH qt (Region.linearise .any ops t) ∈ BX qt (o :: r) := by
   refine cover _ _ _ _ h.2 (yA s1) (fun x => ?_) fun l i rr e q hq hqr => ?_
   ·rw [iw,iw,mem ho]
   ·obtain ⟨l',r',e1,e2⟩ := yI e
    rcases tan ho l' i r' e1 q hq with y | y
    ·cases y
    ·rw [<- e2]; exact iw.2 ⟨y,(iw.1 hqr).2⟩
  obtain ⟨ord,hord,he⟩ := Fa hin
  have hk := OD (Bc h.1 ord hord)
  refine ⟨ord,hord,hk,⟨mem hk,hk.nd,s1,fun x _ y => (by cases y),hk.lt,hk.agH,tan hk,s3,hk.aaG,hk.eager,he.symm,?_⟩⟩
  intro p x h1 h2 h3 op ox hp hx hq
  have lt : ∀ {i o},nth ops.toList i = some o -> i < ops.toList.length := fun {i o} hi => by
   rw [QT] at hi
   rcases Nat.lt_or_ge i ops.toList.length with y | y
   ·exact y
   ·rw [List.getElem?_eq_none y] at hi; cases hi
  exact hk.ind p (hk.full p (lt hp)) x (hk.full x (lt hx)) h1 h2 h3 op ox hp hx hq
end
end Go.E
end
section
namespace Go.E
section
variable {C : kG} {Rc : ak} {R : Type} {Rt : St -> Option R} {fin : List AV -> St -> Option R} {all : List Oper} {base : Nat}
def uU (s : St) : AS := ⟨s.cur.tm,s.objs,s.ay,s.callers⟩
theorem WR {tm : List (Nat × AV)} {o : Oper} : (wanted all tm o = some .yes -> kT all tm o = some true) ∧ (wanted all tm o = some .no -> kT all tm o = some false) ∧
  ∀ d b w,wanted all tm o = some (.hang d b w) -> look tm d = some (.bool b) ∧ kT all tm o = some (b == w) := by
 unfold wanted kT gslot
 cases o.guard with
 | none => exact ⟨fun _ => rfl,fun h => (by cases h),fun d b w h => (by cases h)⟩
 | some g =>
  obtain ⟨j,w'⟩ := g
  dsimp only
  cases nth all j with
  | none => exact ⟨fun h => (by cases h),fun h => (by cases h),fun d b w h => (by cases h)⟩
  | some oj =>
   dsimp only
   cases oj.dst with
   | none => exact ⟨fun h => (by cases h),fun h => (by cases h),fun d b w h => (by cases h)⟩
   | some d =>
    dsimp only
    cases hl : look tm d with
    | none => exact ⟨fun h => (by cases h),fun h => (by cases h),fun d b w h => (by cases h)⟩
    | some v =>
     cases v <;> first
      | exact ⟨fun h => (by cases h),fun _ => rfl,fun d b w h => (by cases h)⟩
      | exact ⟨fun h => (by cases h),fun h => (by cases h),fun d' b w h => (by cases h; exact ⟨hl,rfl⟩)⟩
      | exact ⟨fun h => (by cases h),fun h => (by cases h),fun d b w h => (by cases h)⟩
theorem vO {E : Env} {tm : List (Nat × AV)} {tmps : Array Value} {ops : Array Oper} {o : Oper} {b : Bool} (ht : kH E tm tmps) (hops : ops.toList.all (sV tmps.size) = true) (h : kT ops.toList tm o = some b) : Region.wanted o (yielded ops tmps) = b := by
 obtain ⟨w1,w2,w3⟩ := Oe (o := o) ht hops
 have : (b = true ∧ wanted ops.toList tm o = some .yes) ∨ (b = false ∧ wanted ops.toList tm o = some .no) ∨ ∃ d b' w,wanted ops.toList tm o = some (.hang d b' w) ∧ b = (b' == w) := by
  unfold kT gslot at h
  unfold wanted
  cases hg : o.guard with
  | none => rw [hg] at h; cases h; exact .inl ⟨rfl,rfl⟩
  | some g =>
   obtain ⟨j,w'⟩ := g
   rw [hg] at h
   dsimp only at h ⊢
   cases hn : nth ops.toList j with
   | none => rw [hn] at h; cases h
   | some oj =>
    rw [hn] at h
    dsimp only at h ⊢
    cases hd : oj.dst with
    | none => rw [hd] at h; cases h
    | some d =>
     rw [hd] at h
     dsimp only at h ⊢
     cases hl : look tm d with
     | none => rw [hl] at h; cases h
     | some v =>
      rw [hl] at h
      cases v <;> first
       | (cases h; done)
       | (cases h; exact .inr (.inl ⟨rfl,rfl⟩))
       | (cases h; exact .inr (.inr ⟨_,_,_,rfl,rfl⟩))
 rcases this with ⟨rfl,e⟩ | ⟨rfl,e⟩ | ⟨d,b',w,e,rfl⟩
 ·exact w2 e
 ·exact w3 e
 ·exact (w1 e).2
theorem Ko {a a2 b : AS} {i : Nat} {rd : Rd} {wt : Option (List Nat × List Nat × Nat)} (h : o8 C Rc all base a i b rd wt) (ht : look a2.tm = look a.tm) (hO : ∀ j,look a2.O j = look a.O j) (hn : a2.ay = a.ay) (hc : a2.cs = a.cs) : o8 C Rc all base a2 i b rd wt := by
 have he : ∀ (l : List Operand),∀ y ∈ l,ev a2.tm y = ev a.tm y := fun l => LJ fun t _ => by rw [ht]
 have hw : ∀ o,kT all a2.tm o = kT all a.tm o := fun o => tq fun d _ => by rw [ht]
 cases h with
 | quiet h1 h2 h3 h4 h5 h6 h7 h8 =>
  rename_i o v
  rw [<- AY (he _) (fun i _ => hO i), <- tu (he _)]
  exact .quiet h1 ((hw _).trans h2) h3 (AZ h4 (he _) fun i _ => hO i) (by rw [ht]; exact h5) (fun j => by rw [hO]; exact h6 j) (h7.trans hn.symm) (h8.trans hc.symm)
 | new h1 h2 h3 h4 h4a h4b h5 h6 h7 h8 =>
  rename_i o v ao
  have hB : iR a2.O (dV a.tm (opers o.op)) = iR a.O (dV a.tm (opers o.op)) := vN fun i _ => hO i
  rw [<- hB, <- mX (he _)]
  exact .new h1 ((hw _).trans h2) h3 (Hu h4 (he _) fun i _ => hO i) ((hO _).trans h4a) (by rw [hn]; exact h4b) (by rw [ht]; exact h5) (fun j => by rw [hO]; exact h6 j) (h7.trans hn.symm) (h8.trans hc.symm)
 | act h1 h2 h3 h3n hg h4 h5 h6 h7 h8 =>
  rename_i o v pre dP es
  rw [<- AU (he _) (fun i _ => hO i), <- AQ (he _) (fun i _ => hO i), <- hn]
  rw [<- hn] at h4
  exact .act h1 ((hw _).trans h2) h3 h3n ((J5 (he _)).trans hg) (J4 h4 (he _) fun i _ => hO i) (by rw [ht]; exact h5) (fun j => by rw [h6,bV,iH,bV,iH,hO]) h7 (by rw [hc]; exact h8)
 | pass h1 h2 h3 h4 h5 h6 => exact .pass h1 ((hw _).trans h2) (by rw [ht]; exact h3) (fun j => by rw [hO]; exact h4 j) (h5.trans hn.symm) (h6.trans hc.symm)
theorem QU {a a2 c : AS} {l : List Nat} {tr : List UW} (h : nO C Rc all base a l c tr) (ht : look a2.tm = look a.tm) (hO : ∀ j,look a2.O j = look a.O j) (hn : a2.ay = a.ay) (hc : a2.cs = a.cs) : ∃ c2,nO C Rc all base a2 l c2 tr ∧ look c2.tm = look c.tm ∧ (∀ j,look c2.O j = look c.O j) ∧ c2.ay = c.ay ∧ c2.cs = c.cs := by
 cases h with
 | nil => exact ⟨a2,.nil,ht,hO,hn,hc⟩
 | cons h1 h2 => exact ⟨c,.cons (Ko h1 ht hO hn hc) h2,rfl,fun _ => rfl,rfl,rfl⟩
theorem WS {tm : List (Nat × AV)} {O : bD} {ay : Nat} {o : Oper} {K : KK R} {r : R} (h : fA C Rc tm O ay o K = some r) : Oq C tm o = false := by
 have key : ∀ {g : FuncId} {vs : List AV},callee C tm o.op = some (g,vs) -> ∃ s,look C.sig g = some s := by
  intro g vs hc
  obtain ⟨dst,op,ty,pos,aft,guard⟩ := o
  have hA : ∀ {A : Option R},(A = match callee C tm op with
   | some (g,vs) => match look C.sig g with
    | some s => qN Rc g s O ay vs K
    | none => none
   | none => none) -> A = some r -> ∃ s,look C.sig g = some s := by
   intro A e h
   rw [e] at h
   have hc : callee C tm op = some (g,vs) := hc
   rw [hc] at h
   dsimp only at h
   split at h
   ·rename_i s hs; exact ⟨s,hs⟩
   ·cases h
  cases op with
  | call c =>
   obtain ⟨cal,args,tys⟩ := c
   cases cal with
   | builtin b => cases hc
   | value f => exact hA rfl h
   | invoke x m => exact hA rfl h
  | _ => cases hc
 unfold Oq
 split
 ·rename_i g vs hc
  obtain ⟨s,hs⟩ := key hc
  rw [hs]
 ·rfl
theorem WT {s : St} {o : Oper} (h : Oq C s.cur.tm o = false) : SA C s o = none := by
 unfold SA
 unfold Oq at h
 split
 ·rename_i g vs hc
  rw [hc] at h
  dsimp only at h
  cases hs : look C.sig g with
  | none => rw [hs] at h; cases h
  | some s => rfl
 ·rfl
theorem yJ (s : St) (dst : Option Nat) (td : List It) (v : AV) (O1 : bD) (dP : Nat) (es : List Eff) : look (uU (after s dst td v O1 dP es)).tm = rH dst v (FW es (look s.cur.tm)) ∧ (uU (after s dst td v O1 dP es)).O = dh es O1 ∧ (uU (after s dst td v O1 dP es)).ay = dP ∧
  (uU (after s dst td v O1 dP es)).cs = jH es s.callers := by
 have WU : jH [] s.callers = s.callers := by
  unfold jH
  induction s.callers with
  | nil => rfl
  | cons a q ih => simp [jZ]
 cases es with
 | nil => exact ⟨by rw [kD]; exact nV dst v _,rfl,rfl,WU.symm⟩
 | cons e r =>
  refine ⟨?_,rfl,rfl,rfl⟩
  show look (putDst dst v (jZ (e :: r) s.cur.tm)) = _
  rw [nV,J3]
theorem yK (s : St) (dst : Option Nat) (td : List It) (v : AV) (O1 : bD) (dP : Nat) (es : List Eff) : (after s dst td v O1 dP es).cur.td = td ∧ (after s dst td v O1 dP es).cur.fn = s.cur.fn ∧ (after s dst td v O1 dP es).bx = s.bx := by
 cases es <;> exact ⟨rfl,rfl,rfl⟩
theorem vP : ∀ {a b : List Nat},apart a b = true -> ∀ i ∈ a,i ∉ b
 | x :: s,b,h,i,hi => by
  have h : (!dJ x b && apart s b) = true := h
  rw [Bool.and_eq_true] at h
  rcases List.mem_cons.1 hi with e | hi
  ·rw [e]; exact lM h.1
  ·exact vP h.2 i hi
abbrev W := Nat × List Nat × List Nat × List Nat
theorem Fb {ay : Nat} {wt ef an : List Nat} : ∀ {l : List W},BN ay wt ef an l = true -> ∀ p ∈ l,p.1 ∉ an -> (∀ j ∈ p.2.1,j ∉ ef) ∧ ∀ j ∈ p.2.2.1,j < ay ∧ j ∉ wt
 | (q,ks,rs,ns) :: r,h,p,hp,hpa => by
  have h : ((dJ q an || (apart ks ef && (below ay rs && apart rs wt))) && BN ay wt ef an r) = true := h
  rw [Bool.and_eq_true,Bool.or_eq_true,Bool.and_eq_true,Bool.and_eq_true] at h
  rcases List.mem_cons.1 hp with e | hp
  ·subst e
   rcases h.1 with z | z
   ·exact absurd (dZ.1 z) hpa
   ·exact ⟨vP z.1,fun j hj => ⟨CS z.2.1 j hj,vP z.2.2 j hj⟩⟩
  ·exact Fb h.2 p hp hpa
theorem zI {lk an : List Nat} : ∀ {l : List W},BO lk an l = true -> ∀ p ∈ l,p.1 ∉ an -> ∀ j ∈ p.2.2.2,j ∉ lk
 | (q,ks,rs,ns) :: r,h,p,hp,hpa => by
  have h : ((dJ q an || apart ns lk) && BO lk an r) = true := h
  rw [Bool.and_eq_true,Bool.or_eq_true] at h
  rcases List.mem_cons.1 hp with e | hp
  ·subst e
   rcases h.1 with z | z
   ·exact absurd (dZ.1 z) hpa
   ·exact vP z
  ·exact zI h.2 p hp hpa
theorem HY {ns an : List Nat} : ∀ {l : List W},unread ns an l = true -> ∀ p ∈ l,p.1 ∉ an -> ∀ j ∈ ns,j ∉ p.2.2.1
 | (q,ks,rs,ns') :: r,h,p,hp,hpa => by
  have h : ((dJ q an || apart ns rs) && unread ns an r) = true := h
  rw [Bool.and_eq_true,Bool.or_eq_true] at h
  rcases List.mem_cons.1 hp with e | hp
  ·subst e
   rcases h.1 with z | z
   ·exact absurd (dZ.1 z) hpa
   ·exact vP z
  ·exact HY h.2 p hp hpa
theorem Fe {wt : List Nat} : ∀ {l : List (Nat × List Nat)},BP base wt l = true -> ∀ q ∈ idxs l,base + q ∉ wt
 | (x,_) :: r,h,q,hq => by
  have h : (!dJ (base + x) wt && BP base wt r) = true := h
  rw [Bool.and_eq_true] at h
  rcases List.mem_cons.1 hq with e | hq
  ·rw [e]; exact lM h.1
  ·exact Fe h.2 q hq
def WV (p : W) : Rd := ⟨p.2.1,p.2.2.1,p.2.2.2,[]⟩
def Like (c : AS) (s : St) : Prop := look c.tm = look s.cur.tm ∧ (∀ j,look c.O j = look s.objs j) ∧ c.ay = s.ay ∧ c.cs = s.callers
def QV (C : kG) (Rc : ak) (Rt : St -> Option R) (fin : List AV -> St -> Option R) (all : List Oper) (pins : Option (List Nat)) (k : List It) (r : R) (rest pre : List (Nat × List Nat)) (s' : St) (m : Nat) : Prop :=
 (rest = pre ∧ iZ C Rc Rt fin m false (qj s' k) = some r) ∨
 ∃ i ai post o g vs body,rest = pre ++ (i,ai) :: post ∧ nth all i = some o ∧ kT all s'.cur.tm o = some true ∧ SA C s' o = some (g,vs,body) ∧ VI pins all i ai post = true ∧
  iZ C Rc Rt fin m false { s' with cur := { fn := g,tm := vg vs 0,td := [.code body] },callers := { s'.cur with td := .wait (abY pins) all i post :: k } :: s'.callers } = some r
theorem QV.cons {pins : Option (List Nat)} {k : List It} {r : R} {rest pre : List (Nat × List Nat)} {s' : St} {m : Nat} {x : Nat × List Nat} (h : QV C Rc Rt fin all pins k r rest pre s' m) : QV C Rc Rt fin all pins k r (x :: rest) (x :: pre) s' m := by
 rcases h with ⟨e,h⟩ | ⟨i,ai,post,o,g,vs,body,e,h⟩
 ·exact .inl ⟨by rw [e],h⟩
 ·exact .inr ⟨i,ai,post,o,g,vs,body,by rw [e]; rfl,h⟩
theorem Fg (an : Nat -> List Nat) {pins : Option (List Nat)} {k : List It} : ∀ (n : Nat) (rest : List (Nat × List Nat)) (s : St) (watch : List W) (r : R),s.cur.td = .drawn pins all rest watch base :: k -> iZ C Rc Rt fin n false s = some r -> (∀ p ∈ rest,an p.1 = p.2) -> (idxs rest).Nodup -> (∀ q ∈ idxs rest,look s.objs (base + q) = none ∧ base + q < s.ay) ->
  ∃ (pre : List (Nat × List Nat)) (c : AS) (s' : St) (tr : List UW) (m : Nat),nO C Rc all base (uU s) (idxs pre) c tr ∧ Like c s' ∧ Fine an tr ∧ (∀ p ∈ watch,∀ e ∈ tr,A8 an (p.1,WV p,none) e) ∧ m < n ∧ QV C Rc Rt fin all pins k r rest pre s' m ∧ s'.cur.fn = s.cur.fn ∧ s'.bx = s.bx
 | 0,rest,s,watch,r,htd,hr,_,_,_ => by cases hr
 | n + 1,[],s,watch,r,htd,hr,_,_,_ => by
  unfold iZ at hr
  rw [htd] at hr
  dsimp only at hr
  exact ⟨[],uU s,s,[],n,.nil,⟨rfl,fun _ => rfl,rfl,rfl⟩,List.Pairwise.nil,fun _ _ e he => (by cases he),Nat.lt_succ_self n,.inl ⟨rfl,hr⟩,rfl,rfl⟩
 | n + 1,(i,ai) :: rest,s,watch,r,htd,hr,han,hnd,hfr => by
  unfold iZ at hr
  rw [htd] at hr
  dsimp only at hr
  have hai : an i = ai := han (i,ai) List.mem_cons_self
  have agI : ∀ p ∈ rest,an p.1 = p.2 := fun p hp => han p (List.mem_cons_of_mem _ hp)
  have hnd' : i ∉ idxs rest ∧ (idxs rest).Nodup := List.nodup_cons.1 hnd
  have ZK : ∀ q ∈ idxs rest,look s.objs (base + q) = none ∧ base + q < s.ay := fun q hq => hfr q (List.mem_cons_of_mem _ hq)
  split at hr
  ·cases hr
  ·rename_i o ho
   have done : ∀ (s2 s3 : St) (rd : Rd) (wt : Option (List Nat × List Nat × Nat)) (H6 : List W),s3.cur.td = .drawn pins all rest H6 base :: k -> iZ C Rc Rt fin n false s3 = some r -> look s2.cur.tm = look s.cur.tm -> s2.objs = s.objs -> s2.ay = s.ay -> s2.callers = s.callers -> s3.cur.fn = s.cur.fn -> s3.bx = s.bx ->
     o8 C Rc all base (uU s2) i (uU s3) rd wt -> (∀ q ∈ idxs rest,look s3.objs (base + q) = none ∧ base + q < s3.ay) -> (∀ p ∈ watch,p ∈ H6) -> (rd.keeps = [] ∧ rd.reads = [] ∧ rd.news = [] ∨ (i,rd.keeps,rd.reads,rd.news) ∈ H6) ->
     (∀ p ∈ watch,A8 an (p.1,WV p,none) (i,rd,wt)) ->
     ∃ (pre : List (Nat × List Nat)) (c : AS) (s' : St) (tr : List UW) (m : Nat),nO C Rc all base (uU s) (idxs pre) c tr ∧ Like c s' ∧ Fine an tr ∧ (∀ p ∈ watch,∀ e ∈ tr,A8 an (p.1,WV p,none) e) ∧ m < n + 1 ∧ QV C Rc Rt fin all pins k r ((i,ai) :: rest) pre s' m ∧ s'.cur.fn = s.cur.fn ∧ s'.bx = s.bx := by
    intro s2 s3 rd wt H6 d1 hr3 t1 t2 t3 t4 t5 t6 hst hfr3 hsub hin acf
    obtain ⟨pre,c,s',tr,m,k1,kl,k2,k3,k4,k5,k6,k7⟩ := Fg an n rest s3 H6 r d1 hr3 agI hnd'.2 hfr3
    refine ⟨(i,ai) :: pre,c,s',(i,rd,wt) :: tr,m,.cons (Ko hst (a2 := uU s) t1.symm (fun j => by show look s.objs j = look s2.objs j; rw [t2]) t3.symm t4.symm) k1,kl,List.pairwise_cons.2 ⟨fun e he => ?_,k2⟩,fun p hp e he => ?_,Nat.lt_succ_of_lt k4,k5.cons,k6.trans t5,k7.trans t6⟩
    ·intro hpa
     rcases hin with ⟨e1,e2,e3⟩ | hin
     ·exact ⟨fun j hj => (by rw [e3] at hj; cases hj),fun j _ y => (by rw [e2] at y; cases y),fun w f nn _ => ⟨fun j hj => (by rw [e1] at hj; cases hj),fun j hj => (by rw [e2] at hj; cases hj)⟩⟩
     ·obtain ⟨f1,f2,f3⟩ := k3 _ hin e he hpa
      exact ⟨f1,f2,f3⟩
    ·rcases List.mem_cons.1 he with z | he
     ·subst z; exact acf p hp
     ·exact k3 p (hsub p hp) e he
   have t0 : ∀ d b,look s.cur.tm d = some (.bool b) -> look (know s d b).cur.tm = look s.cur.tm := fun d b hb => by
    funext t
    show (bif Nat.beq d t then some (AV.bool b) else look s.cur.tm t) = _
    by_cases e : d = t
    ·subst e; rw [Nat.beq_refl,hb]; rfl
    ·rw [cO e]; rfl
   have go : ∀ s2 : St,look s2.cur.tm = look s.cur.tm -> s2.objs = s.objs -> s2.ay = s.ay -> s2.callers = s.callers -> s2.cur.fn = s.cur.fn -> s2.bx = s.bx -> kT all s.cur.tm o = some true ->
     (bif zX C o then bif BO (dV s2.cur.tm (opers o.op)) ai watch && unread [base + i] ai watch then fA C Rc s2.cur.tm s2.objs (base + i) o fun v O _ iF => match iF with
       | [] => iZ C Rc Rt fin n false (after s2 o.dst (.drawn pins all rest ((i,(base + i) :: (v.ids ++ (dV s2.cur.tm (opers o.op) ++ (iR s2.objs (dV s2.cur.tm (opers o.op)) ++ La O (base + i)))),(base + i) :: dV s2.cur.tm (opers o.op),[base + i]) :: watch) base :: k) v O s2.ay [])
       | _ => none
      else none
     else bif quiet C o then bif BO (dB s2.cur.tm o) ai watch then fA C Rc s2.cur.tm s2.objs s2.ay o fun v O ay iF => iZ C Rc Rt fin n false (after s2 o.dst (.drawn pins all rest ((i,qX s2.cur.tm s2.objs o v,dB s2.cur.tm o,[]) :: watch) base :: k) v O ay iF)
      else none
     else bif BO (kK s2.cur.tm s2.objs o) ai watch && !NP o then match SA C s2 o with
       | some (g,vs,body) => bif VI pins all i ai rest then iZ C Rc Rt fin n false { s2 with cur := { fn := g,tm := vg vs 0,td := [.code body] },callers := { s2.cur with td := .wait (abY pins) all i rest :: k } :: s2.callers } else none
       | none => fA C Rc s2.cur.tm s2.objs s2.ay o fun v O ay iF =>
        bif BN s2.ay (touched C s2.cur.tm s2.objs o) (kL iF) ai watch && BP base (touched C s2.cur.tm s2.objs o ++ kL iF) rest then iZ C Rc Rt fin n false (after s2 o.dst (.drawn pins all rest watch base :: k) v O ay iF) else none
      else none) = some r ->
     ∃ (pre : List (Nat × List Nat)) (c : AS) (s' : St) (tr : List UW) (m : Nat),nO C Rc all base (uU s) (idxs pre) c tr ∧ Like c s' ∧ Fine an tr ∧ (∀ p ∈ watch,∀ e ∈ tr,A8 an (p.1,WV p,none) e) ∧ m < n + 1 ∧ QV C Rc Rt fin all pins k r ((i,ai) :: rest) pre s' m ∧ s'.cur.fn = s.cur.fn ∧ s'.bx = s.bx := by
    intro s2 t1 t2 t3 t4 t5 t6 hw hr
    have hw2 : kT all s2.cur.tm o = some true := (tq fun d _ => by rw [t1]).trans hw
    cases hn : zX C o with
    | true =>
     rw [hn,cond_true] at hr
     obtain ⟨hb,hr⟩ := eU hr
     rw [Bool.and_eq_true] at hb
     obtain ⟨v,ao,es,h1,h2⟩ := JZ (Td hn) hr
     cases es with
     | cons _ _ => cases h1
     | nil =>
      dsimp only at h1
      have hlo : look ((base + i,ao) :: s2.objs) (base + i) = some ao := by show (bif Nat.beq (base + i) (base + i) then some ao else _) = _; rw [Nat.beq_refl]; rfl
      have hni : La ((base + i,ao) :: s2.objs) (base + i) = E5 ao := by unfold La; rw [hlo]; cases ao <;> rfl
      rw [hni] at h1
      obtain ⟨d1,d2,d3⟩ := yK s2 o.dst (.drawn pins all rest ((i,(base + i) :: (v.ids ++ (dV s2.cur.tm (opers o.op) ++ (iR s2.objs (dV s2.cur.tm (opers o.op)) ++ E5 ao))),(base + i) :: dV s2.cur.tm (opers o.op),[base + i]) :: watch) base :: k) v ((base + i,ao) :: s2.objs) s2.ay []
      obtain ⟨a1,a2,a3,a4⟩ := yJ s2 o.dst (.drawn pins all rest ((i,(base + i) :: (v.ids ++ (dV s2.cur.tm (opers o.op) ++ (iR s2.objs (dV s2.cur.tm (opers o.op)) ++ E5 ao))),(base + i) :: dV s2.cur.tm (opers o.op),[base + i]) :: watch) base :: k) v ((base + i,ao) :: s2.objs) s2.ay []
      have ad6 := hfr i List.mem_cons_self
      have lk : ∀ j,look ((base + i,ao) :: s2.objs) j = if j = base + i then some ao else look s2.objs j := fun j => by
       show (bif Nat.beq (base + i) j then some ao else look s2.objs j) = _
       by_cases e : j = base + i
       ·subst e; simp
       ·rw [cO fun z => e z.symm,if_neg e]; rfl
      refine done s2 _ ⟨(base + i) :: (v.ids ++ (dV s2.cur.tm (opers o.op) ++ (iR s2.objs (dV s2.cur.tm (opers o.op)) ++ E5 ao))),(base + i) :: dV s2.cur.tm (opers o.op),[base + i],dV s2.cur.tm (opers o.op)⟩ none _ d1 h1 t1 t2 t3 t4 (d2.trans t5) (d3.trans t6)
       (.new (a := uU s2) ho hw2 hn h2 (by show look s2.objs _ = none; rw [t2]; exact ad6.1) (by show _ < s2.ay; rw [t3]; exact ad6.2) (by rw [a1,kD]; rfl) (fun j => by rw [a2]; exact lk j) a3 rfl) (fun q hq => ?_) (fun p hp => List.mem_cons_of_mem _ hp) (.inr List.mem_cons_self) fun p hp hpa => ⟨zI hb.1 p hp (by rw [<- hai]; exact hpa),HY hb.2 p hp (by rw [<- hai]; exact hpa),fun w f nn e => by cases e⟩
      ·have : q ≠ i := fun e => hnd'.1 (by rw [<- e]; exact hq)
       show look ((base + i,ao) :: s2.objs) (base + q) = none ∧ base + q < s2.ay
       rw [lk,if_neg (by omega),t2,t3]; exact ZK q hq
    | false =>
     rw [hn,cond_false] at hr
     cases hq : quiet C o with
     | true =>
      rw [hq,cond_true] at hr
      obtain ⟨hb,hr⟩ := eU hr
      obtain ⟨v,h1,h2⟩ := Oj hq hr
      obtain ⟨d1,d2,d3⟩ := yK s2 o.dst (.drawn pins all rest ((i,qX s2.cur.tm s2.objs o v,dB s2.cur.tm o,[]) :: watch) base :: k) v s2.objs s2.ay []
      obtain ⟨a1,a2,a3,a4⟩ := yJ s2 o.dst (.drawn pins all rest ((i,qX s2.cur.tm s2.objs o v,dB s2.cur.tm o,[]) :: watch) base :: k) v s2.objs s2.ay []
      refine done s2 _ ⟨qX s2.cur.tm s2.objs o v,dB s2.cur.tm o,[],dB s2.cur.tm o⟩ none _ d1 h1 t1 t2 t3 t4 (d2.trans t5) (d3.trans t6)
       (.quiet (a := uU s2) ho hw2 hq h2 (by rw [a1,kD]; rfl) (fun j => by rw [a2]; rfl) a3 rfl) (fun q hq => by show look s2.objs _ = none ∧ _ < s2.ay; rw [t2,t3]; exact ZK q hq) (fun p hp => List.mem_cons_of_mem _ hp) (.inr List.mem_cons_self) fun p hp hpa => ⟨zI hb p hp (by rw [<- hai]; exact hpa),fun j hj => (by cases hj),fun w f nn e => by cases e⟩
     | false =>
      rw [hq,cond_false] at hr
      obtain ⟨hb0,hr⟩ := eU hr
      rw [Bool.and_eq_true] at hb0
      obtain ⟨hb,hmo⟩ := hb0
      have hmo : NP o = false := by simpa using hmo
      split at hr
      ·rename_i g vs body U0
       obtain ⟨hc,hr⟩ := eU hr
       exact ⟨[],uU s,s2,[],n,.nil,⟨t1.symm,fun j => (by rw [t2]; rfl),t3.symm,t4.symm⟩,List.Pairwise.nil,fun _ _ e he => (by cases he),Nat.lt_succ_self n,.inr ⟨i,ai,rest,o,g,vs,body,rfl,ho,hw2,U0,hc,hr⟩,t5,t6⟩
      ·obtain ⟨v,pre,dP,es,h1,h2⟩ := ZI hmo hq hr
       obtain ⟨hwo,h1⟩ := eU h1
       rw [Bool.and_eq_true] at hwo
       obtain ⟨d1,d2,d3⟩ := yK s2 o.dst (.drawn pins all rest watch base :: k) v (pre ++ s2.objs) dP es
       obtain ⟨a1,a2,a3,a4⟩ := yJ s2 o.dst (.drawn pins all rest watch base :: k) v (pre ++ s2.objs) dP es
       refine done s2 _ ⟨[],[],[],kK s2.cur.tm s2.objs o⟩ (some (touched C s2.cur.tm s2.objs o,kL es,s2.ay)) _ d1 h1 t1 t2 t3 t4 (d2.trans t5) (d3.trans t6)
        (.act (a := uU s2) ho hw2 hq hn (WS hr) h2 a1 (fun j => by rw [a2]; rfl) a3 a4) (fun q hq' => ?_) (fun p hp => hp) (.inl ⟨rfl,rfl,rfl⟩) fun p hp hpa => ⟨zI hb p hp (by rw [<- hai]; exact hpa),fun j hj => (by cases hj),fun w f nn e => ?_⟩
       ·have hc := Fe hwo.2 q hq'
        have hf := ZK q hq'
        have h3 : look (uU (after s2 o.dst (.drawn pins all rest watch base :: k) v (pre ++ s2.objs) dP es)).O (base + q) = none := by
         rw [a2,bV,if_neg fun y => hc (List.mem_append.2 (.inr (lK y))),iH,h2.frame _ (by rw [t3]; exact hf.2) fun y => hc (List.mem_append.2 (.inl y))]
         dsimp only
         rw [t2,hf.1]; rfl
        have h4 : (uU (after s2 o.dst (.drawn pins all rest watch base :: k) v (pre ++ s2.objs) dP es)).ay = dP := a3
        refine ⟨h3,?_⟩
        show _ < (uU (after s2 o.dst (.drawn pins all rest watch base :: k) v (pre ++ s2.objs) dP es)).ay
        rw [h4]
        exact Nat.lt_of_lt_of_le (by rw [t3]; exact hf.2) h2.le
       ·cases e
        exact Fb hwo.1 p hp (by rw [<- hai]; exact hpa)
   have pass : ∀ s2 : St,look s2.cur.tm = look s.cur.tm -> s2.objs = s.objs -> s2.ay = s.ay -> s2.callers = s.callers -> s2.cur.fn = s.cur.fn -> s2.bx = s.bx -> kT all s.cur.tm o = some false ->
     iZ C Rc Rt fin n false (after s2 o.dst (.drawn pins all rest watch base :: k) .undef s2.objs s2.ay []) = some r ->
     ∃ (pre : List (Nat × List Nat)) (c : AS) (s' : St) (tr : List UW) (m : Nat),nO C Rc all base (uU s) (idxs pre) c tr ∧ Like c s' ∧ Fine an tr ∧ (∀ p ∈ watch,∀ e ∈ tr,A8 an (p.1,WV p,none) e) ∧ m < n + 1 ∧ QV C Rc Rt fin all pins k r ((i,ai) :: rest) pre s' m ∧ s'.cur.fn = s.cur.fn ∧ s'.bx = s.bx := by
    intro s2 t1 t2 t3 t4 t5 t6 hw hr
    have hw2 : kT all s2.cur.tm o = some false := (tq fun d _ => by rw [t1]).trans hw
    obtain ⟨d1,d2,d3⟩ := yK s2 o.dst (.drawn pins all rest watch base :: k) .undef s2.objs s2.ay []
    obtain ⟨a1,a2,a3,a4⟩ := yJ s2 o.dst (.drawn pins all rest watch base :: k) .undef s2.objs s2.ay []
    exact done s2 _ ⟨[],[],[],[]⟩ none _ d1 hr t1 t2 t3 t4 (d2.trans t5) (d3.trans t6) (.pass (a := uU s2) ho hw2 (by rw [a1,kD]; rfl) (fun j => by rw [a2]; rfl) a3 rfl)
     (fun q hq => by show look s2.objs _ = none ∧ _ < s2.ay; rw [t2,t3]; exact ZK q hq) (fun p hp => hp) (.inl ⟨rfl,rfl,rfl⟩) fun p hp hpa => ⟨fun j _ y => (by cases y),fun j hj => (by cases hj),fun w f nn e => by cases e⟩
   obtain ⟨w1,w2,w3⟩ := WR (all := all) (tm := s.cur.tm) (o := o)
   split at hr
   ·rename_i hw
    exact go s rfl rfl rfl rfl rfl rfl (w1 hw) hr
   ·rename_i hw
    exact pass s rfl rfl rfl rfl rfl rfl (w2 hw) hr
   ·rename_i d b hw
    obtain ⟨hb,hB⟩ := w3 d b true hw
    cases b with
    | true => exact go (know s d true) (t0 d true hb) rfl rfl rfl rfl rfl hB hr
    | false => exact pass (know s d false) (t0 d false hb) rfl rfl rfl rfl rfl hB hr
   ·rename_i d b hw
    obtain ⟨hb,hB⟩ := w3 d b false hw
    cases b with
    | true => exact pass (know s d true) (t0 d true hb) rfl rfl rfl rfl rfl hB hr
    | false => exact go (know s d false) (t0 d false hb) rfl rfl rfl rfl rfl hB hr
   ·cases hr
end
end Go.E
end
section
namespace Go.E
section
variable {P : Program} {main : Bool} {Rl : Ow -> World -> World -> Prop} {C : kG} {Rc : ak} {R : Type} {X : Ctx} {cs0 : List Frame} {Stop : R -> Ow -> Frame -> List Frame -> World -> Prop} {Rt : St -> Option R} {fin : List AV -> St -> Option R}
theorem Kq {S : Ow -> Frame -> List Frame -> World -> Prop} {s s' : St} (h : Goes P main Rl X cs0 S s') (ht : look s.cur.tm = look s'.cur.tm) (hf : s.cur.fn = s'.cur.fn) (htd : s.cur.td = s'.cur.td) (hO : ∀ j,look s'.objs j = look s.objs j) (hn : s.ay = s'.ay) (hc : s.callers = s'.callers) (hb : s.bx = s'.bx) : Goes P main Rl X cs0 S s := by
 intro o E fr cs k
 obtain ⟨h1,h2⟩ := k.ok.zq (O' := s'.objs) fun i => by rw [k.objs]; exact hO i
 obtain ⟨cs1,e,hcs⟩ := k.callers
 refine h o { E with O := s'.objs } fr cs ⟨by rw [<- hn]; exact h1,rfl,?_,⟨cs1,e,by rw [<- hc]; exact hcs.step0 h2⟩,by rw [<- hb]; exact k.bx,?_⟩
 ·obtain ⟨tmps,todo,e1,e2,e3⟩ := k.cur.step0 h2
  exact ⟨tmps,todo,by rw [<- hf]; exact e1,fun t x hx => e2 t x (by rw [ht]; exact hx),by rw [<- htd]; exact e3⟩
 ·rw [<- hc]; exact (iL _ _ _ hf.symm).trans k.root
theorem OK.up {o : Ow} {E : Env} {n n' : Nat} (h : OK X o E n) (hle : n <= n') : OK X o E n' :=
 { h with
  pos := Nat.lt_of_lt_of_le h.pos hle
  num := fun i a hi => let ⟨h1,h2⟩ := h.num i a hi; ⟨Nat.lt_of_lt_of_le h1 hle,h2⟩ }
theorem U1 {E : Env} {o : Ow} {ay id : Nat} {tm : List (Nat × AV)} {a : Act} {op : Oper} {K : KK R} {r : R} {Rc : ak} (T : fV P C) (h : OK X o E ay) (hf : look E.O id = none) (h0 : id ≠ foreign) (ht : kH E tm a.tmps) (hn : xQ op = true) (hr : fA C Rc tm E.O id op K = some r) : Makes P X o E ay id a.eval op K r := by
 cases hop : op.op with
 | alloc t => exact EK T h hf h0 hop hr
 | box t x => exact JR h hf h0 ht hop hr
 | buildSlice t n ps => exact vG T h hf h0 ht hop hr
 | makeSlice t l c => exact xq T h hf h0 ht hop hr
 | _ => unfold xQ at hn; rw [hop] at hn; cases hn
theorem acg (hR : Leaves Rl) (T : fV P C) {S : Ow -> Frame -> List Frame -> World -> Prop} {s : St} {all : List Oper} {op : Oper} {rest : List Oper} {k : List It} {o : Ow} {E : Env} {tmps : Array Value} {todo : List Item} {cs : List Frame} {ops : Array Oper} {i : Nat} {idx : List Nat} {todo' : List Item}
  (h : rD X o E s cs0 (frame s.cur.fn tmps todo) cs) (ht : kH E s.cur.tm tmps) (e : todo = .inRegion ops (i :: idx) :: todo') (hi : ops[i]? = some op) (hd : ∀ d,op.dst = some d -> d < tmps.size) (htd : EX tmps.size (.ops all rest :: k) (.inRegion ops idx :: todo'))
  (hw : Region.wanted op (yielded ops tmps) = true) {id : Nat} {v : AV} {ao : AO} (hn : zX C op = true) (hag : vM C s.cur.tm s.objs id op v ao []) (hf : look s.objs id = none) (h0 : id ≠ foreign) (hlt : id < s.ay)
  (hK : Goes P main Rl X cs0 S (after s op.dst (.ops all rest :: k) v ((id,ao) :: s.objs) s.ay [])) : Via P main Rl S o (frame s.cur.fn tmps todo) cs E.w := by
 have hr : fA C (fun _ _ _ => none) s.cur.tm E.O id op (fun v O1 _ es => some (v,O1,es)) = some (v,(id,ao) :: s.objs,[]) := by
  rw [h.objs]; exact hag _ (fun _ _ _ => none) s.cur.tm s.objs (fun _ _ => rfl) fun _ _ => rfl
 obtain ⟨v',O1,es,hk,hacc⟩ := U1 T h.ok (by rw [h.objs]; exact hf) h0 (a := ⟨tmps,[]⟩) ht (Td hn) hr
 cases hk
 obtain ⟨nx,w',hrun,⟨E',hE,hF,hO,hok,hs,hv⟩,hkeep⟩ := Lm (hacc s.ay hlt (Nat.le_refl _))
 subst e
 have keep : Keeps o.u E.w w' := hkeep.weaken fun b hb hw => hw.elim (fun x => x) fun x => absurd hb (Nat.not_lt.2 x)
 have fin : ∀ u,VR E' v u -> (∃ evs,stepG P main (Conc.G (frame s.cur.fn tmps (.inRegion ops (i :: idx) :: todo')) cs) E.w = .go (Conc.G (frame s.cur.fn ((Act.put ⟨tmps,[]⟩ op.dst u).tmps) (.inRegion ops idx :: todo')) cs) w' evs) -> Via P main Rl S o (frame s.cur.fn tmps (.inRegion ops (i :: idx) :: todo')) cs E.w := by
  intro u hu ⟨evs,hst⟩
  refine .step hst keep fun w2 hw2 => ?_
  have hst' := F9 (cs0 := cs0) (todo := .inRegion ops idx :: todo') (rest := .ops all rest :: k) (v := v) (u := u) (dst := op.dst) ht h.callers h.bx h.root hO hok hs hu hd (by rw [yF]; exact htd)
  subst hE
  exact hK _ _ _ _ (hst'.rely hR hw2)
 rcases hv with ⟨rfl,rfl⟩ | ⟨u,rfl,hu⟩
 ·have := Conc.stepG_none (main := main) (b := Conc.base s.cur.fn) (a := ⟨tmps,[]⟩) (k := todo') (cs := cs) (rest := idx) hi hw (fun x => by cases x) hrun
  rw [put_defers] at this
  exact fin undef (by unfold VR; rfl) ⟨_,this⟩
 ·have := Conc.stepG_value (main := main) (b := Conc.base s.cur.fn) (a := ⟨tmps,[]⟩) (k := todo') (cs := cs) (rest := idx) hi hw (fun x => by cases x) hrun
  rw [put_defers] at this
  exact fin u hu ⟨_,this⟩
open Classical in
theorem D9 (L : Hl P main Rl C Rc X cs0 Stop Rt fin) {ops : Array Oper} {k : List It} {r : R} {base : Nat} (hbase : 0 < base) : ∀ (σ : List Nat) (s : St) (c : AS) (tr : List UW) (rest Ah : List Oper),nO C Rc ops.toList base (uU s) σ c tr -> s.cur.td = .ops ops.toList (rest ++ Ah) :: k -> σ.map (nth ops.toList) = rest.map some -> FT C s ->
  (∀ s' : St,look s'.cur.tm = look c.tm -> (∀ j,look s'.objs j = look c.O j) -> s'.ay = c.ay -> s'.callers = c.cs -> s'.cur.fn = s.cur.fn -> s'.bx = s.bx -> s'.cur.td = .ops ops.toList Ah :: k -> Goes P main Rl X cs0 (Stop r) s') -> Goes P main Rl X cs0 (Stop r) s
 | [],s,c,tr,rest,Ah,h,htd,hm,hsd,hend => by
  cases rest with
  | cons _ _ => cases hm
  | nil =>
   cases h
   exact hend s rfl (fun _ => rfl) rfl rfl rfl rfl htd
 | i :: σ,s,c,tr,rest,Ah,h,htd,hm,hsd,hend => by
  cases rest with
  | nil => cases hm
  | cons op rest =>
   rw [List.map_cons,List.map_cons] at hm
   obtain ⟨hop,hm⟩ := List.cons.inj hm
   cases h with
   | cons h1 h2 =>
    rename_i b rd wt tr1
    intro o E fr cs h
    obtain ⟨tmps,todo,rfl,ht,hh1⟩ := h.at
    have WW := hh1
    rw [htd,List.cons_append] at WW
    rw [List.cons_append] at htd
    obtain ⟨ops',j,idx,todo',e1,e2,e3,e4,e5,e6,_⟩ := SX WW
    have e2' : ops' = ops := by
     cases ops'; cases ops
     simp at e2
     rw [e2]
    subst e2'
    have next : ∀ (v : AV) (O1 : bD) (dP : Nat) (es : List Eff),look b.tm = rH op.dst v (FW es (look s.cur.tm)) -> (∀ j,look b.O j = look (dh es O1) j) -> b.ay = dP -> b.cs = jH es s.callers ->
      Goes P main Rl X cs0 (Stop r) (after s op.dst (.ops ops'.toList (rest ++ Ah) :: k) v O1 dP es) := by
     intro v O1 dP es q1 q2 q3 q4
     obtain ⟨a1,a2,a3,a4⟩ := yJ s op.dst (.ops ops'.toList (rest ++ Ah) :: k) v O1 dP es
     obtain ⟨d1,d2,d3⟩ := yK s op.dst (.ops ops'.toList (rest ++ Ah) :: k) v O1 dP es
     obtain ⟨c2,g1,g2,g3,g4,g5⟩ := QU h2 (a1.trans q1.symm) (fun j => by rw [a2]; exact (q2 j).symm) (a3.trans q3.symm) (a4.trans q4.symm)
     refine D9 L hbase σ _ c2 tr1 rest Ah g1 d1 hm (CJ hsd (by rw [htd]; exact fun h => h)) fun s' m1 m2 m3 m4 m5 m6 m7 => ?_
     exact hend s' (m1.trans g2) (fun j => (m2 j).trans (g3 j)) (m3.trans g4) (m4.trans g5) (m5.trans d2) (m6.trans d3) m7
    have WU : jH [] s.callers = s.callers := by
     unfold jH
     induction s.callers with
     | nil => rfl
     | cons a q ih => simp [jZ]
    let kk : St -> Option R := fun st => if Goes P main Rl X cs0 (Stop r) st then some r else none
    have hk : ∀ st,kk st = some r -> FT C st -> Goes P main Rl X cs0 (Stop r) st := fun st hs _ => by
     by_cases hg : Goes P main Rl X cs0 (Stop r) st
     ·exact hg
     ·have : kk st = none := if_neg hg
      rw [this] at hs; cases hs
    cases h1 with
    | quiet h1 hw hq hag hb1 hb2 hb3 hb4 =>
     rw [hop] at h1; cases h1
     rename_i v
     have hg := next v s.objs s.ay [] (by rw [kD]; exact hb1) hb2 hb3 (hb4.trans WU.symm)
     have FV : callee C s.cur.tm op.op = none := by
      unfold callee
      split
      ·rename_i f args tys ach
       unfold quiet at hq
       rw [ach] at hq
       cases hq
      ·rename_i x m args tys ach
       unfold quiet at hq
       rw [ach] at hq
       cases hq
      ·rfl
     have U0 : SA C s op = none := by
      unfold SA
      rw [FV]
     refine sW L (k := kk) htd hsd hk h ht e1 e4 e5 e6 hh1 (vO ht e3 hw) ?_
     rw [U0]
     dsimp only
     rw [hag (fun v O ay iF => kk (after s op.dst (.ops ops'.toList (rest ++ Ah) :: k) v O ay iF)) Rc s.cur.tm s.objs s.ay (fun _ _ => rfl) fun _ _ => rfl]
     exact if_pos hg
    | new h1 hw hn hag hf hlt hb1 hb2 hb3 hb4 =>
     rw [hop] at h1; cases h1
     rename_i v ao
     have hg := next v ((base + i,ao) :: s.objs) s.ay [] (by rw [kD]; exact hb1) (fun j => by
      rw [hb2]
      show _ = (bif Nat.beq (base + i) j then some ao else look s.objs j)
      by_cases e : j = base + i
      ·subst e; simp
      ·rw [if_neg e,cO fun z => e z.symm]; rfl) hb3 (hb4.trans WU.symm)
     exact acg L.rely L.tys h ht e1 e4 e5 e6 (vO ht e3 hw) hn hag hf (by unfold foreign; omega) hlt hg
    | act h1 hw hq hnn hgt hac hb1 hb2 hb3 hb4 =>
     rw [hop] at h1; cases h1
     rename_i v pre dP es
     have hg := next v (pre ++ s.objs) dP es hb1 hb2 hb3 hb4
     refine sW L (k := kk) htd hsd hk h ht e1 e4 e5 e6 hh1 (vO ht e3 hw) ?_
     rw [WT hgt]
     dsimp only
     have := hac.again (fun v O ay iF => kk (after s op.dst (.ops ops'.toList (rest ++ Ah) :: k) v O ay iF)) s.cur.tm s.objs (fun _ _ => rfl) fun _ _ => rfl
     exact this.trans (if_pos hg)
    | pass h1 hw hb1 hb2 hb3 hb4 =>
     rw [hop] at h1; cases h1
     have hg := next .undef s.objs s.ay [] (by rw [kD]; exact hb1) hb2 hb3 (hb4.trans WU.symm)
     exact Gf L.rely h ht e1 e4 e5 e6 (vO ht e3 hw) hg
theorem U2 {all : List Oper} {base : Nat} {a c : AS} {l : List Nat} {tr : List UW} (h : nO C Rc all base a l c tr) : (c.cs.map fun f => (f.fn,f.td)) = a.cs.map fun f => (f.fn,f.td) := by
 induction h with
 | nil => rfl
 | cons h1 _ ih =>
  rw [ih]
  cases h1 with
  | quiet _ _ _ _ _ _ _ h => rw [h]
  | new _ _ _ _ _ _ _ _ _ h => rw [h]
  | act _ _ _ _ _ _ _ _ _ h => rw [h]; unfold jH; rw [List.map_map]; rfl
  | pass _ _ _ _ _ h => rw [h]
theorem OE {x : Option R} {l : List (Option R)} {r : R} (h : sameAll x l = some r) : x = some r ∧ ∀ y ∈ l,y = some r := by
 have all : ∀ {l : List (Option R)},pX x l -> ∀ y ∈ l,y = x := by
  intro l
  induction l with
  | nil => intro _ y hy; cases hy
  | cons z l ih =>
   rintro ⟨h1,h2⟩ y hy
   rcases List.mem_cons.1 hy with e | hy
   ·rw [e]; exact h1
   ·exact ih h2 y hy
 unfold sameAll at h
 split at h
 ·exact ⟨h,fun y hy => by cases hy⟩
 ·split at h
  ·rename_i hs; exact ⟨h,fun y hy => (all hs y hy).trans h⟩
  ·cases h
def OG (o : Oper) : Nat := match o.dst with | some d => d + 1 | none => 0
theorem H7 {o : Oper} : ∀ {r : List Oper} {k : Nat},nth r k = some o -> OG o ∈ lS r
 | [],k,hk => by cases k <;> exact absurd hk (by unfold nth; exact fun h => by cases h)
 | y :: r,0,hk => by
  have hk : some y = some o := hk
  rw [Option.some.inj hk]
  show OG o ∈ OG o :: lS r
  exact List.mem_cons_self
 | y :: r,k + 1,hk => by
  show OG o ∈ OG y :: lS r
  exact List.mem_cons_of_mem _ (H7 (r := r) (k := k) hk)
theorem OH {o : Oper} : ∀ {all : List Oper} {i j : Nat},nodup (lS all) = true -> nth all i = some o -> nth all j = some o -> i = j
 | [],i,j,h,hi,hj => by cases i <;> exact absurd hi (by unfold nth; exact fun h => by cases h)
 | x :: r,0,0,h,hi,hj => rfl
 | x :: r,0,j + 1,h,hi,hj => by
  have h : (!dJ (OG x) (lS r) && nodup (lS r)) = true := h
  rw [Bool.and_eq_true] at h
  have hi : some x = some o := hi
  rw [Option.some.inj hi] at h
  exact absurd (H7 (r := r) (k := j) hj) (lM h.1)
 | x :: r,i + 1,0,h,hi,hj => by
  have h : (!dJ (OG x) (lS r) && nodup (lS r)) = true := h
  rw [Bool.and_eq_true] at h
  have hj : some x = some o := hj
  rw [Option.some.inj hj] at h
  exact absurd (H7 (r := r) (k := i) hi) (lM h.1)
 | x :: r,i + 1,j + 1,h,hi,hj => by
  have h : (!dJ (OG x) (lS r) && nodup (lS r)) = true := h
  rw [Bool.and_eq_true] at h
  rw [OH (all := r) (i := i) (j := j) h.2 hi hj]
theorem H8 {pins : Option (List Nat)} {all : List Oper} : ∀ x,DN C pins all x = true -> isQ C all x := by
 intro x h
 unfold DN at h
 cases pins with
 | none =>
  dsimp only at h
  unfold VL at h
  split at h
  ·rename_i o ho; exact ⟨o,ho,h⟩
  ·cases h
 | some ps =>
  dsimp only at h
  unfold qP aaz at h
  rw [Bool.and_eq_true] at h
  have h := h.1
  split at h
  ·rename_i o ho
   refine ⟨o,ho,?_⟩
   unfold calm at h
   unfold still
   rw [Bool.or_eq_true] at h ⊢
   rcases h with h | h
   ·refine .inl ?_
    unfold quiet at h ⊢
    split at h <;> first | rfl | (cases h; done) | skip
   ·refine .inr ?_
    rw [Bool.and_eq_true] at h
    unfold zX aay
    have hb := h.2
    unfold adP at hb
    rw [h.1,Bool.true_and]
    split at hb
    ·cases hb
    ·rfl
  ·cases h
theorem OI (L : Hl P main Rl C Rc X cs0 Stop Rt fin) {s : St} {pins : Option (List Nat)} {ops : Array Oper} {k : List It} {r : R} {N : Nat} {an : Nat -> List Nat} {D σ : List Nat} {rest : List (Nat × List Nat)} {rest' : List Oper}
  (hr : iZ C Rc Rt fin N false (pG s pins ops.toList rest k) = some r) (hp : He (DN C pins ops.toList) ops.toList an D (idxs rest) σ) (han : ∀ p ∈ rest,an p.1 = p.2) (hm : σ.map (ops[·]?) = rest'.map some) (hsd : FT C (qj s k))
  (ih : ∀ m,m < N -> ∀ s,FT C s -> iZ C Rc Rt fin m false s = some r -> Goes P main Rl X cs0 (Stop r) s) : Goes P main Rl X cs0 (Stop r) (qj s (.ops ops.toList rest' :: k)) := by
 intro o E fr cs h
 have hnum : ∀ q ∈ idxs rest,look s.objs (s.ay + q) = none ∧ s.ay + q < s.ay + ops.toList.length := fun q hq => by
  refine ⟨?_,Nat.add_lt_add_left (hp.ex q hq) _⟩
  cases hl : look s.objs (s.ay + q) with
  | none => rfl
  | some a => have := (h.ok.num _ a (by rw [h.objs]; exact hl)).1; exact absurd this (by show ¬ _ < s.ay; omega)
 obtain ⟨pre,c,s',tr,m,k1,⟨kl1,kl2,kl3,kl4⟩,k2,_,k4,k5,k6,k7⟩ := Fg (base := s.ay) an N rest (pG s pins ops.toList rest k) [] r rfl hr han hp.nd hnum
 have hm' : ∀ {l : List Nat} {l' : List Oper},l.map (ops[·]?) = l'.map some -> l.map (nth ops.toList) = l'.map some := fun {l l'} e => by
  rw [<- e]
  exact List.map_congr_left fun x _ => by rw [zA,Array.getElem?_toList]
 let s0 : St := { s with cur := { s.cur with td := .ops ops.toList rest' :: k },ay := s.ay + ops.toList.length }
 have hD0 : FT C s0 := fun p hp => by
  rcases List.mem_cons.1 hp with e | hp
  ·subst e
   exact hsd (s.cur.fn,k) List.mem_cons_self
  ·exact hsd p (List.mem_cons_of_mem _ hp)
 have hfd : ∀ p ∈ s'.callers.map fun f => (f.fn,f.td),p ∈ fd (qj s k) := fun p hp => by
  have e := U2 k1
  rw [kl4] at e
  rw [e] at hp
  exact List.mem_cons_of_mem _ hp
 have h4 : rD X o E s0 cs0 fr cs := ⟨h.ok.up (Nat.le_add_right _ _),h.objs,h.cur,h.callers,h.bx,h.root⟩
 rcases k5 with ⟨e,k5⟩ | ⟨i,ai,post,op,g,vs,body,e,hop,hw,U0,WX,k5⟩
 ·
  subst e
  obtain ⟨Zm,k8⟩ := E8 (Hw H8 _ _ _ hp) k1 k2
  refine D9 L h.ok.pos σ s0 c Zm rest' [] k8 (by rw [List.append_nil]) (hm' hm) hD0 (fun s'' m1 m2 m3 m4 m5 m6 m7 => ?_) o E fr cs h4
  have hs' : FT C (qj s' k) := by
   intro p hp
   rcases List.mem_cons.1 hp with e | hp
   ·subst e
    have := hsd (s.cur.fn,k) List.mem_cons_self
    show fO C s'.cur.fn k = true
    rw [k6]; exact this
   ·exact hsd p (hfd p hp)
  have hg := ih m k4 _ hs' k5
  have hg2 : Goes P main Rl X cs0 (Stop r) (qj s'' k) := Kq hg (m1.trans kl1) (m5.trans k6.symm) rfl (fun j => (kl2 j).symm.trans (m2 j).symm) (m3.trans kl3) (m4.trans kl4) (m6.trans k7.symm)
  refine qc L.rely hg2 fun tmps todo h => ?_
  rw [m7] at h; obtain ⟨y,ys,rfl,⟨ops',idx,rfl,_,e,hi⟩,h2⟩ := h
  have : idx = [] := by cases idx with
   | nil => rfl
   | cons _ _ => simp at hi
  subst this
  exact ⟨ys,h2,fun cs w => ⟨_,Conc.stepG_region_end⟩⟩
 ·
  cases pins with
  | none => cases WX
  | some ps =>
   have WX : (!qP ps ops.toList i && uZ ps ops.toList i post && xR ps ops.toList ai i (idxs post) ops.toList.length && nodup (lS ops.toList)) = true := WX
   simp only [Bool.and_eq_true,Bool.not_eq_true'] at WX
   obtain ⟨⟨⟨p1,p2⟩,p3⟩,p4⟩ := WX
   have hai : an i = ai := han (i,ai) (by rw [e]; simp)
   have eidx : idxs rest = idxs pre ++ i :: idxs post := by
    rw [e]
    clear hp han hr hnum e k1
    induction pre with
    | nil => rfl
    | cons x pre ih => obtain ⟨x1,x2⟩ := x; show x1 :: idxs (pre ++ _) = x1 :: (idxs pre ++ _); rw [ih]
   have hmem : ∀ {l : List (Nat × List Nat)} {x : Nat},x ∈ idxs l -> ∃ a,(x,a) ∈ l := by
    intro l
    induction l with
    | nil => intro x hx; cases hx
    | cons y l ih =>
     intro x hx
     obtain ⟨y1,y2⟩ := y
     rcases List.mem_cons.1 hx with z | hx
     ·rw [z]; exact ⟨y2,List.mem_cons_self⟩
     ·obtain ⟨a,ha⟩ := ih hx; exact ⟨a,List.mem_cons_of_mem _ ha⟩
   have agJ : ∀ {l : List (Nat × List Nat)},uZ ps ops.toList i l = true -> ∀ x a,(x,a) ∈ l -> i ∈ a ∨ qP ps ops.toList x = false := by
    intro l
    induction l with
    | nil => intro _ x a hx; cases hx
    | cons y l ih =>
     intro hb x a hx
     obtain ⟨y1,y2⟩ := y
     have hb : ((dJ i y2 || !qP ps ops.toList y1) && uZ ps ops.toList i l) = true := hb
     rw [Bool.and_eq_true,Bool.or_eq_true,Bool.not_eq_true'] at hb
     rcases List.mem_cons.1 hx with z | hx
     ·cases z
      exact hb.1.elim (fun w => .inl (dZ.1 w)) .inr
     ·exact ih hb.2 x a hx
   have agK : ∀ n,xR ps ops.toList ai i (idxs post) n = true -> ∀ x,x < n -> x ∈ ai ∨ x = i ∨ x ∈ idxs post ∨ qP ps ops.toList x = false := by
    intro n
    induction n with
    | zero => intro _ x hx; omega
    | succ n ih =>
     intro hb x hx
     have hb : ((dJ n ai || Nat.beq n i || dJ n (idxs post) || !qP ps ops.toList n) && xR ps ops.toList ai i (idxs post) n) = true := hb
     rw [Bool.and_eq_true,Bool.or_eq_true,Bool.or_eq_true,Bool.or_eq_true,Bool.not_eq_true'] at hb
     by_cases hxn : x = n
     ·subst hxn
      rcases hb.1 with ((w | w) | w) | w
      ·exact .inl (dZ.1 w)
      ·exact .inr (.inl (Nat.eq_of_beq_eq_true w))
      ·exact .inr (.inr (.inl (dZ.1 w)))
      ·exact .inr (.inr (.inr w))
     ·exact ih hb.2 x (by omega)
   rw [eidx] at hp
   obtain ⟨n1,n2,n3,n4,n5⟩ := zB hp.nd
   obtain ⟨σ1,σ2,eσ,hp1,hp2⟩ := QI hp p1 (fun x hx => by
    obtain ⟨a,ha⟩ := hmem hx
    have h1 := agJ p2 x a ha
    have h2 : an x = a := han (x,a) (by rw [e]; exact List.mem_append.2 (.inr (List.mem_cons_of_mem _ ha)))
    rw [h2]; exact h1) fun x hx => by
     rcases agK _ p3 x (hp.ex x (List.mem_append.2 (.inl hx))) with w | w | w | w
     ·rw [hai]; exact .inl w
     ·rw [w] at hx; exact absurd hx n1
     ·exact absurd w (n5 x hx)
     ·exact .inr w
   subst eσ
   obtain ⟨Zm,k8⟩ := E8 (Hw H8 _ _ _ hp1) k1 k2
   rw [List.map_append,List.map_cons] at hm
   obtain ⟨r1,r3,er,em1,em2⟩ := List.append_eq_map_iff.1 hm
   cases r3 with
   | nil => rw [List.map_nil] at em2; cases em2
   | cons op' r2 =>
    rw [List.map_cons] at em2
    obtain ⟨eop,em3⟩ := List.cons.inj em2
    subst er
    have hop' : op' = op := by
     rw [zA,Array.getElem?_toList, <- eop] at hop
     exact Option.some.inj hop
    subst hop'
    refine D9 L h.ok.pos σ1 s0 c Zm r1 (op' :: r2) k8 rfl (hm' em1.symm) hD0 (fun s'' m1 m2 m3 m4 m5 m6 m7 => ?_) o E fr cs h4
    have lk : look s''.cur.tm = look s'.cur.tm := m1.trans kl1
    intro o2 E2 fr2 cs2 q
    obtain ⟨tmps,todo,rfl,ht,hh1⟩ := q.at
    have WW := hh1
    rw [m7] at WW
    obtain ⟨ops',j,idx,todo',e1,e2,e3,e4,e5,e6,e7⟩ := SX WW
    have e2' : ops' = ops := by
     cases ops'; cases ops
     simp at e2
     rw [e2]
    subst e2'
    have inj : ∀ {a b : Nat} {o : Oper},ops'[a]? = some o -> ops'[b]? = some o -> a = b := fun {a b o} ha hb => OH p4 (by rw [zA,Array.getElem?_toList]; exact ha) (by rw [zA,Array.getElem?_toList]; exact hb)
    have hji : j = i := inj e4 eop.symm
    subst hji
    have hidx : idx = σ2 := by
     obtain ⟨y,ys,ee,⟨akz,akA,eex,akC,_,hmx⟩,_⟩ := e6
     cases ee
     cases eex
     have : ∀ {l l2 : List Nat} {m : List Oper},l.map (ops'[·]?) = m.map some -> l2.map (ops'[·]?) = m.map some -> l = l2 := by
      intro l
      induction l with
      | nil => intro l2 m a b; cases m with
       | nil => cases l2 with
        | nil => rfl
        | cons _ _ => cases b
       | cons _ _ => cases a
      | cons x l ih =>
       intro l2 m a b
       cases m with
       | nil => cases a
       | cons o m =>
        cases l2 with
        | nil => cases b
        | cons y l2 =>
         rw [List.map_cons,List.map_cons] at a b
         obtain ⟨a1,a2⟩ := List.cons.inj a
         obtain ⟨b1,b2⟩ := List.cons.inj b
         rw [inj a1 b1,ih a2 b2]
     exact this hmx em3.symm
    subst hidx
    let sw : St := { s'' with cur := { s''.cur with td := .wait ps ops'.toList j post :: k } }
    have hji : j < ops'.size := by
     rcases Nat.lt_or_ge j ops'.size with y | y
     ·exact y
     ·rw [Array.getElem?_eq_none y] at e4; cases e4
    have hleft : Left ps ops'.toList post idx := ⟨an,_,fun p hp => han p (by rw [e]; exact List.mem_append.2 (.inr (List.mem_cons_of_mem _ hp))),hp2⟩
    have htw : EX tmps.size sw.cur.td todo := by
     rw [e1]
     exact lI ⟨ops',idx,rfl,rfl,e3,hji,hleft⟩ e7
    have hsw : rD X o2 E2 sw cs0 (frame sw.cur.fn tmps todo) cs2 := ⟨q.ok,q.objs,⟨tmps,todo,rfl,ht,htw⟩,q.callers,q.bx,(iL sw.cur s''.cur s''.callers rfl).trans q.root⟩
    have ad7 : SA C sw op' = some (g,vs,body) := by
     have hce : callee C sw.cur.tm op'.op = callee C s'.cur.tm op'.op := vK (tm := s'.cur.tm) (LJ fun t _ => by show look s''.cur.tm t = _; rw [lk])
     rw [<- U0]
     unfold SA
     rw [hce]
    refine SY L.tys L.code L.rely (s := sw) hsw ht e1 e4 htw (vO ht e3 ((tq fun d _ => by rw [lk]).trans hw)) ad7 ?_
    obtain ⟨fn,_,hfn,hbody⟩ := Hg U0
    have hg := ih m k4 _ (fun p hp => by
     rcases List.mem_cons.1 hp with z | hp
     ·subst z
      show (gJ C g body && true) = true
      rw [Bool.and_true]; exact L.draws g fn body hfn hbody
     ·rcases List.mem_cons.1 hp with z | hp
      ·subst z
       have := hsd (s.cur.fn,k) List.mem_cons_self
       show fO C s'.cur.fn k = true
       rw [k6]; exact this
      ·exact hsd p (hfd p hp)) k5
    intro o3 E3 fr3 cs3 u
    obtain ⟨h1,h2⟩ := u.ok.zq (O' := s'.objs) fun i => by rw [u.objs]; exact (kl2 i).symm.trans (m2 i).symm
    obtain ⟨cs1,ec,y,ys,ey,⟨ct,ctd,ef,hct,LH⟩,hys⟩ := u.callers
    refine hg o3 { E3 with O := s'.objs } fr3 cs3 ⟨by rw [<- m3.trans kl3]; exact h1,rfl,?_,⟨cs1,ec,?_⟩,(m6.trans k7.symm).symm.trans u.bx,?_⟩
    ·exact u.cur.step0 h2
    ·have agL := hys.step0 h2
     have hcl : s''.callers = s'.callers := m4.trans kl4
     refine ⟨y,ys,ey,?_,by rw [<- hcl]; exact agL⟩
     refine ⟨ct,ctd,?_,fun t x hx => ?_,LH⟩
     ·rw [ef]
      show frame s''.cur.fn ct ctd = frame s'.cur.fn ct ctd
      rw [m5.trans k6.symm]
     ·have := hct.step h2
      exact this t x (by simpa [jZ] using (show look s''.cur.tm t = some x by rw [lk]; exact hx))
    ·have hcl : s''.callers = s'.callers := m4.trans kl4
     have := u.root
     rw [<- this]
     show lq { s'.cur with td := _ } s'.callers = lq { s''.cur with td := _ } s''.callers
     rw [hcl]
     exact iL _ _ _ (m5.trans k6.symm).symm
theorem LP (L : Hl P main Rl C Rc X cs0 Stop Rt fin) (agM : P.follows .mixedOrders = true) {s : St} {id : Nat} {ops : Array Oper} {k : List It} {r : R} {N : Nat} {pins : Option (List Nat)} (htd : s.cur.td = .code (.region id ops true) :: k) (hsd : FT C s) {ou : List (List (Nat × List Nat))} (agN : SC (DN C pins ops.toList) ops.toList ou = true)
  (hall : ∀ ord ∈ ou,iZ C Rc Rt fin N false (pG s pins ops.toList ord k) = some r) (ih : ∀ m,m < N -> ∀ s,FT C s -> iZ C Rc Rt fin m false s = some r -> Goes P main Rl X cs0 (Stop r) s) : Goes P main Rl X cs0 (Stop r) s := by
 intro o E fr cs h
 obtain ⟨tmps,todo,rfl,ht,h1⟩ := h.at
 rw [htd] at h1
 obtain ⟨y,ys,rfl,⟨rfl,ec⟩,h2⟩ := h1
 unfold codeOk at ec
 have hst := Conc.stepG_region_draw (P := P) (main := main) (b := Conc.base s.cur.fn) (a := ⟨tmps,[]⟩) (k := ys) (cs := cs) (w := E.w) (ops := ops) (id := id)
 generalize htape : E.w.tape E.w.drawn (.order (Conc.base s.cur.fn).fn id) = t at hst
 have agO : Region.schedule (P.follows .mixedOrders) ops t = Region.linearise .any ops t := by
  unfold Region.schedule
  rw [agM]; rfl
 rw [agO] at hst
 obtain ⟨ord,hord,hok,hleft⟩ := UZ agN t
 have aci : ∀ i ∈ Region.linearise .any ops t,i < ops.size := fun i hi => by
  have := hok.lt i ((hleft.mem i).2 hi)
  rwa [Array.length_toList] at this
 have hrest : ∃ rest : List Oper,(Region.linearise .any ops t).map (ops[·]?) = rest.map some := by
  generalize Region.linearise .any ops t = σ at aci
  clear hleft
  induction σ with
  | nil => exact ⟨[],rfl⟩
  | cons i σ ih =>
   obtain ⟨rest,e2⟩ := ih fun j hj => aci j (List.mem_cons_of_mem _ hj)
   have hi := aci i List.mem_cons_self
   exact ⟨ops[i] :: rest,by rw [List.map_cons,List.map_cons,e2,Array.getElem?_eq_getElem hi]⟩
 obtain ⟨rest,hr2⟩ := hrest
 have agP : FT C (qj s k) := fun p hp => by
  rcases List.mem_cons.1 hp with e | hp
  ·subst e
   have := hsd (s.cur.fn,s.cur.td) List.mem_cons_self
   rw [htd] at this
   have this : (gJ C s.cur.fn (.region id ops true) && fO C s.cur.fn k) = true := this
   rw [Bool.and_eq_true] at this
   exact this.2
  ·exact hsd p (List.mem_cons_of_mem _ hp)
 have goal := OI L (hall ord hord) hleft hok.an hr2 agP ih
 refine .step hst ⟨fun _ _ _ => rfl,Nat.le_refl _,rfl,rfl,rfl⟩ fun w2 hw2 => ?_
 rw [Ow.lg] at hw2 ⊢
 have hleave : Leaves fun _ w w2 => w2.heap = w.heap := fun _ w w2 e => ⟨by rw [e]; exact Nat.le_refl _,fun _ _ => by rw [e]⟩
 have h3 := h.rely (Rl := fun _ w w2 => w2.heap = w.heap) hleave (w2 := { E.w with drawn := E.w.drawn + 1 }) rfl
 obtain ⟨cs1,ecs,hcs⟩ := h3.callers
 have h4 : rD X o { E with w := { E.w with drawn := E.w.drawn + 1 } } (qj s (.ops ops.toList rest :: k)) cs0 (frame s.cur.fn tmps (.inRegion ops (Region.linearise .any ops t) :: ys)) cs := by
  obtain ⟨ad8,ajg,f1,f2,f3⟩ := h3.cur
  have f1 : tmps = ad8 := congrArg Frame.tmps f1
  subst f1
  exact ⟨h3.ok,h3.objs,⟨tmps,_,rfl,f2,lI ⟨ops,_,rfl,rfl,ec,hr2⟩ h2⟩,⟨cs1,ecs,hcs⟩,h3.bx,(iL { s.cur with td := .ops ops.toList rest :: k } s.cur s.callers rfl).trans h3.root⟩
 exact goal _ _ _ _ (h4.rely L.rely hw2)
end
end Go.E
end
