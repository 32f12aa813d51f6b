/- What is reckoned without an end; calls from outside; laws over bytes. -/
import Derived.ChangeSlices
import Derived.OpenShut
import Derived.RowKit
import Derived.Handed
import Derived.ChangeSame
import Derived.ChangeVars
import Derived.JoinedCond
import Derived.Deep.Slices
import Derived.Test.YtmceeioelenigaaGreatEg
section
namespace Go.E
def Lt {R : Type} (x : Option R) (F : Nat -> Nat -> Option R) : Prop := ∀ r,x = some r -> ∃ k0,∀ k m,k0 <= k -> k0 <= m -> F k m = some r
section
variable {R : Type}
theorem lt_none {F : Nat -> Nat -> Option R} : Lt none F := fun _ h => by cases h
theorem lt_refl {x : Option R} : Lt x fun _ _ => x := fun _ h => ⟨0,fun _ _ _ _ => h⟩
theorem lt_chk {p : Prop} [Decidable p] {x : Option R} {F : Nat -> Nat -> Option R} (h : Lt x F) : Lt (chk p x) fun k m => chk p (F k m) := by
 by_cases hp : p
 ·unfold chk; simp only [if_pos hp]; exact h
 ·unfold chk; simp only [if_neg hp]; exact lt_none
theorem lt_sel {b : Bool} {x y : Option R} {F G : Nat -> Nat -> Option R} (h : Lt x F) (h' : Lt y G) : Lt (sel b x y) fun k m => sel b (F k m) (G k m) := by
 cases b
 ·exact h'
 ·exact h
theorem lt_cond {b : Bool} {x y : Option R} {F G : Nat -> Nat -> Option R} (h : Lt x F) (h' : Lt y G) : Lt (bif b then x else y) fun k m => bif b then F k m else G k m := by
 cases b
 ·exact h'
 ·exact h
theorem lt_bind {A : Type} {x : Option A} {F : Nat -> Nat -> Option A} {f : A -> Option R} {G : Nat -> Nat -> A -> Option R} (h : Lt x F) (hf : ∀ a,Lt (f a) fun k m => G k m a) : Lt (x.bind f) fun k m => (F k m).bind (G k m) := by
 intro r hr
 obtain ⟨a,ha,hr⟩ := Option.bind_eq_some_iff.1 hr
 obtain ⟨k1,h1⟩ := h a ha
 obtain ⟨k2,h2⟩ := hf a r hr
 refine ⟨max k1 k2,fun k m hk hm => ?_⟩
 show (F k m).bind (G k m) = some r
 rw [h1 k m (by omega) (by omega)]
 exact h2 k m (by omega) (by omega)
open Classical in
theorem lt_same {x : Option R} {F : Nat -> Nat -> Option R} {α : Type} {l : List α} {f : α -> Option R} {G : Nat -> Nat -> α -> Option R} (h : Lt x F) (hl : ∀ a ∈ l,Lt (f a) fun k m => G k m a) : Lt (sameAll x (l.map f)) fun k m => sameAll (F k m) (l.map (G k m)) := by
 intro r hr
 have key : ∀ l : List α,(∀ a ∈ l,Lt (f a) fun k m => G k m a) -> x = some r -> allSame x (l.map f) -> ∃ k0,∀ k m,k0 <= k -> k0 <= m -> allSame (some r) (l.map (G k m)) := by
  intro l hl hx ha
  induction l with
  | nil => exact ⟨0,fun _ _ _ _ => trivial⟩
  | cons a l ih =>
   obtain ⟨h1,h2⟩ : f a = x ∧ allSame x (l.map f) := ha
   obtain ⟨k1,e1⟩ := ih (fun b hb => hl b (List.mem_cons_of_mem _ hb)) h2
   obtain ⟨k2,e2⟩ := hl a List.mem_cons_self r (h1.trans hx)
   refine ⟨max k1 k2,fun k m hk hm => ⟨e2 k m (by omega) (by omega),e1 k m (by omega) (by omega)⟩⟩
 cases l with
 | nil => exact h r hr
 | cons a l =>
  have hr : (if allSame x ((a :: l).map f) then x else none) = some r := hr
  split at hr
  ·rename_i hs
   obtain ⟨k1,e1⟩ := h r hr
   obtain ⟨k2,e2⟩ := key (a :: l) hl hr hs
   refine ⟨max k1 k2,fun k m hk hm => ?_⟩
   show (if allSame (F k m) ((a :: l).map (G k m)) then F k m else none) = some r
   rw [e1 k m (by omega) (by omega),if_pos (e2 k m (by omega) (by omega))]
  ·cases hr
end
section
variable {R : Type} {C : Cfg} {Rc : Rcall} {Rk : Nat -> Nat -> Rcall}
variable {K : KK R} {Kk : Nat -> Nat -> KK R}
def LtK (K : KK R) (Kk : Nat -> Nat -> KK R) : Prop := ∀ v O n e,Lt (K v O n e) fun k m => Kk k m v O n e
def LtC (Rc : Rcall) (Rk : Nat -> Nat -> Rcall) : Prop := ∀ f s a,Lt (Rc f s a) fun k m => Rk k m f s a
theorem chkCells_lt {x : Option R} {F : Nat -> Nat -> Option R} (h : Lt x F) : ∀ (a b : List AV),Lt (chkCells a b x) fun k m => chkCells a b (F k m) := by
 intro a
 induction a with
 | nil => intro b; cases b <;> first | exact h | exact lt_none
 | cons u a ih =>
  intro b
  cases b with
  | nil => cases u <;> exact lt_none
  | cons v b => cases u <;> cases v <;> first | exact lt_none | exact lt_cond (lt_chk (ih b)) lt_none | exact lt_chk (ih b)
theorem chkBoxes_lt {x : Option R} {F : Nat -> Nat -> Option R} (h : Lt x F) (bs : List Nat) (O : Objs) : ∀ (l : Objs),Lt (chkBoxes bs O l x) fun k m => chkBoxes bs O l (F k m) := by
 intro l
 induction l with
 | nil => exact h
 | cons p l ih =>
  obtain ⟨b,a⟩ := p
  cases a with
  | box cs =>
   unfold chkBoxes
   cases look O b with
   | none => exact lt_none
   | some a => cases a <;> first | exact lt_none | exact lt_cond (chkCells_lt ih _ _) lt_none
  | _ => exact lt_none
theorem acall_lt (hC : LtC Rc Rk) (hK : LtK K Kk) (f : FuncId) (s : Sig) (O : Objs) (nid : Nat) (args : List AV) : Lt (acall Rc f s O nid args K) fun k m => acall (Rk k m) f s O nid args (Kk k m) := by
 unfold acall
 cases getArgs O s.ps args with
 | none => exact lt_none
 | some q =>
  obtain ⟨d,effs,moved,used,boxes⟩ := q
  refine lt_cond (lt_bind (hC f s d) fun r => ?_) lt_none
  exact lt_cond (lt_cond (chkBoxes_lt (hK _ _ _ _) _ _ _) lt_none) (hK _ _ _ _)
theorem litGet_lt {kt : CT} {q : kt.D} {z : AV} {K : AV -> Bool -> Option R} {Kk : Nat -> Nat -> AV -> Bool -> Option R} (hK : ∀ v b,Lt (K v b) fun k m => Kk k m v b) : ∀ l,Lt (litGet kt q z K l) fun k m => litGet kt q z (Kk k m) l := by
 intro l
 induction l with
 | nil => exact hK _ _
 | cons p l ih => exact lt_sel (hK _ _) ih
theorem litPut_lt {kt : CT} {q : kt.D} {z : AV} {K : List (kt.D × AV) -> Option R} {Kk : Nat -> Nat -> List (kt.D × AV) -> Option R} (hK : ∀ v,Lt (K v) fun k m => Kk k m v) : ∀ l acc,Lt (litPut kt q z K acc l) fun k m => litPut kt q z (Kk k m) acc l := by
 intro l
 induction l with
 | nil => exact fun acc => hK _
 | cons p l ih => exact fun acc => lt_sel (hK _) (ih _)
theorem cutRows_lt {α : Type} {rows : List α} {lo hi : Option AV} {K : List α -> Option R} {Kk : Nat -> Nat -> List α -> Option R} (hK : ∀ v,Lt (K v) fun k m => Kk k m v) : Lt (cutRows rows lo hi K) fun k m => cutRows rows lo hi (Kk k m) := by
 unfold cutRows
 rcases lo with _ | lo <;> rcases hi with _ | hi <;> (try cases lo) <;> (try cases hi) <;> first | exact lt_none | exact hK _ | exact lt_chk (lt_chk (hK _)) | exact lt_chk (lt_chk (lt_chk (hK _)))
theorem cutBounds_lt {len : Nat} {lo hi : Option AV} {K : Int -> Int -> Option R} {Kk : Nat -> Nat -> Int -> Int -> Option R} (hK : ∀ v b,Lt (K v b) fun k m => Kk k m v b) : Lt (cutBounds len lo hi K) fun k m => cutBounds len lo hi (Kk k m) := by
 unfold cutBounds
 rcases lo with _ | lo <;> rcases hi with _ | hi <;> (try cases lo) <;> (try cases hi) <;> first | exact lt_none | exact hK _ _ | exact lt_chk (lt_chk (hK _ _)) | exact lt_chk (lt_chk (lt_chk (hK _ _)))
theorem cutStr_lt {s : ByteArray} {lo hi : Option AV} {K : ByteArray -> Option R} {Kk : Nat -> Nat -> ByteArray -> Option R} (hK : ∀ v,Lt (K v) fun k m => Kk k m v) : Lt (cutStr s lo hi K) fun k m => cutStr s lo hi (Kk k m) := by
 unfold cutStr
 rcases lo with _ | lo <;> rcases hi with _ | hi <;> (try cases lo) <;> (try cases hi) <;> first | exact lt_none | exact hK _ | exact lt_chk (lt_chk (hK _)) | exact lt_chk (lt_chk (lt_chk (hK _)))
theorem aeq_lt {kd : Nat} {cmp : List CT} {lit : Bool} {O : Objs} {x y : AV} {K : Bool -> Option R} {Kk : Nat -> Nat -> Bool -> Option R} (hK : ∀ v,Lt (K v) fun k m => Kk k m v) : Lt (aeq kd cmp lit O x y K) fun k m => aeq kd cmp lit O x y (Kk k m) := by
 unfold aeq
 split <;> first | exact lt_none | exact lt_cond (hK _) lt_none | exact lt_cond (lt_chk (hK _)) lt_none | skip
 ·cases cmp with
  | nil => exact lt_none
  | cons t ts => dsimp only; split <;> first | exact lt_none | exact hK _
 ·split <;> first | exact lt_none | exact lt_cond (lt_chk (hK _)) lt_none
theorem aint_lt {op : BinOp} {q : IntKind} {x y : Int} {K : AV -> Option R} {Kk : Nat -> Nat -> AV -> Option R} (hK : ∀ v,Lt (K v) fun k m => Kk k m v) : Lt (aint op q x y K) fun k m => aint op q x y (Kk k m) := by
 cases op <;> first | exact hK _ | exact lt_chk (hK _) | exact lt_none
theorem ashift_lt {left : Bool} {q : IntKind} {x y : Int} {K : AV -> Option R} {Kk : Nat -> Nat -> AV -> Option R} (hK : ∀ v,Lt (K v) fun k m => Kk k m v) : Lt (ashift left q x y K) fun k m => ashift left q x y (Kk k m) :=
 lt_chk (lt_cond (hK _) (hK _))
theorem astr_lt {op : BinOp} {x y : ByteArray} {K : AV -> Option R} {Kk : Nat -> Nat -> AV -> Option R} (hK : ∀ v,Lt (K v) fun k m => Kk k m v) : Lt (astr op x y K) fun k m => astr op x y (Kk k m) := by
 cases op <;> first | exact hK _ | exact lt_chk (hK _) | exact lt_none
theorem abin_lt {kd : Nat} {cmp : List CT} {lit : Bool} {O : Objs} {op : BinOp} {x y : AV} {K : AV -> Option R} {Kk : Nat -> Nat -> AV -> Option R} (hK : ∀ v,Lt (K v) fun k m => Kk k m v) : Lt (abin kd cmp lit O op x y K) fun k m => abin kd cmp lit O op x y (Kk k m) := by
 unfold abin
 split <;> first | exact ashift_lt hK | exact lt_cond (aint_lt hK) lt_none | exact astr_lt hK | exact aeq_lt fun t => hK _ | exact lt_none
theorem aappend_lt (hK : LtK K Kk) (row : CTs) (elem : Nat) (O : Objs) (nid : Nat) (x y : AV) : Lt (aappend C row elem O nid x y K) fun k m => aappend C row elem O nid x y (Kk k m) := by
 unfold aappend
 cases look C.ty elem with
 | none => exact lt_none
 | some te =>
  dsimp only
  cases te.row with
  | none => exact lt_none
  | some ts =>
   refine lt_cond lt_none ?_
   split
   ·split
    ·exact lt_chk (hK _ _ _ _)
    ·split
     ·split
      ·exact lt_chk (hK _ _ _ _)
      ·exact lt_none
     ·exact lt_none
    ·exact lt_none
   ·exact lt_none
end
end Go.E
end
section
namespace Go.E
section
variable {R : Type} {C : Cfg} {Rc : Rcall} {Rk : Nat -> Nat -> Rcall}
variable {K : KK R} {Kk : Nat -> Nat -> KK R}
theorem call_lt {tm : List (Nat × AV)} {O : Objs} {nid : Nat} {op : Op} (hC : LtC Rc Rk) (hK : LtK K Kk) : Lt (match callee C tm op with
  | some (g,vs) => match look C.sig g with
   | some s => acall Rc g s O nid vs K
   | none => none
  | none => none) fun k m => match callee C tm op with
  | some (g,vs) => match look C.sig g with
   | some s => acall (Rk k m) g s O nid vs (Kk k m)
   | none => none
  | none => none := by
 cases callee C tm op with
 | none => exact lt_none
 | some q =>
  obtain ⟨g,vs⟩ := q
  dsimp only
  cases look C.sig g with
  | none => exact lt_none
  | some s => exact acall_lt hC hK _ _ _ _ _
theorem aop_lt (hC : LtC Rc Rk) (hK : LtK K Kk) (tm : List (Nat × AV)) (O : Objs) (nid : Nat) (o : Oper) : Lt (aop C Rc tm O nid o K) fun k m => aop C (Rk k m) tm O nid o (Kk k m) := by
 obtain ⟨dst,op,ty,pos,aft,guard⟩ := o
 cases op with
 | call c =>
  obtain ⟨cal,args,tys⟩ := c
  cases cal with
  | builtin b =>
   cases b <;> first | exact call_lt hC hK | skip
   all_goals (unfold aop; dsimp only; repeat' (first | exact lt_none | exact hK _ _ _ _ | exact aappend_lt hK _ _ _ _ _ _ | refine lt_chk ?_ | refine lt_cond ?_ ?_ | refine lt_sel ?_ ?_ | split))
  | value f => exact call_lt hC hK
  | invoke x m => exact call_lt hC hK
 | makeMap t r => cases r <;> first | exact call_lt hC hK | (unfold aop; dsimp only; repeat' (first | exact lt_none | exact hK _ _ _ _ | split))
 | slice t x lo hi mx =>
  cases mx with
  | some _ => unfold aop; exact lt_none
  | none => unfold aop; dsimp only; repeat' (first | exact lt_none | exact hK _ _ _ _ | exact cutRows_lt fun _ => hK _ _ _ _ | exact cutBounds_lt fun _ _ => hK _ _ _ _ | exact cutStr_lt fun _ => hK _ _ _ _ | refine lt_chk ?_ | refine lt_cond ?_ ?_ | split)
 | store t a x => unfold aop; dsimp only; repeat' (first | exact lt_none | exact hK _ _ _ _ | refine lt_chk ?_ | refine lt_cond ?_ ?_ | split)
 | load t a => unfold aop; dsimp only; repeat' (first | exact lt_none | exact hK _ _ _ _ | refine lt_chk ?_ | refine lt_cond ?_ ?_ | split)
 | convert a b x => unfold aop; dsimp only; repeat' (first | exact lt_none | exact hK _ _ _ _ | refine lt_chk ?_ | refine lt_cond ?_ ?_ | split)
 | indexAddr t a x => unfold aop; dsimp only; repeat' (first | exact lt_none | exact hK _ _ _ _ | refine lt_chk ?_ | refine lt_cond ?_ ?_ | split)
 | binOp op t x y u => unfold aop; dsimp only; repeat' (first | exact lt_none | exact abin_lt fun _ => hK _ _ _ _ | split)
 | unOp op t x => unfold aop; dsimp only; repeat' (first | exact lt_none | exact hK _ _ _ _ | exact aint_lt fun _ => hK _ _ _ _ | split)
 | lookup t m q b => unfold aop; dsimp only; repeat' (first | exact lt_none | exact hK _ _ _ _ | exact litGet_lt (fun _ _ => hK _ _ _ _) _ | refine lt_cond ?_ ?_ | split)
 | insert t m q b => unfold aop; dsimp only; repeat' (first | exact lt_none | exact hK _ _ _ _ | exact litPut_lt (fun _ => hK _ _ _ _) _ _ | refine lt_cond ?_ ?_ | split)
 | mapUpdate t m q b => unfold aop; dsimp only; repeat' (first | exact lt_none | exact hK _ _ _ _ | exact litPut_lt (fun _ => hK _ _ _ _) _ _ | refine lt_cond ?_ ?_ | split)
 | _ => first | exact call_lt hC hK | (unfold aop; dsimp only; repeat' (first | exact lt_none | exact hK _ _ _ _ | refine lt_chk ?_ | refine lt_cond ?_ ?_ | refine lt_sel ?_ ?_ | split))
end
end Go.E
end
section
namespace Go.E
section
variable {R : Type} {C : Cfg} {Rc : Rcall} {Rk : Nat -> Nat -> Rcall} {Rt : St -> Option R} {Rtk : Nat -> Nat -> St -> Option R} {fin : List AV -> St -> Option R}
theorem arun_lt (hC : LtC Rc Rk) (hR : ∀ st,Lt (Rt st) fun k m => Rtk k m st) : ∀ (n : Nat) (fresh : Bool) (s : St),Lt (arun C Rc Rt fin n fresh s) fun k m => arun C (Rk k m) (Rtk k m) fin n fresh s
 | 0,_,_ => lt_none
 | n + 1,fresh,s => by
  have ih := fun s => arun_lt hC hR n false s
  have ret : Lt (aret C fin (arun C Rc Rt fin n false) s) fun k m => aret C fin (arun C (Rk k m) (Rtk k m) fin n false) s := by
   unfold aret
   split
   ·split
    ·split
     ·exact lt_refl
     ·split
      ·exact ih _
      ·split
       ·exact ih _
       ·exact lt_none
      ·exact lt_none
    ·exact lt_none
   ·exact lt_none
  unfold arun
  dsimp only
  split <;> first | exact ret | exact ih _ | exact lt_none | skip
  ·split <;> first | exact lt_none | exact lt_sel (ih _) (ih _)
  ·split <;> first | exact lt_none | exact ih _
  ·have enter : ∀ (dr : Bool) (id : Nat) (ops : Array Oper) (k : List It),Lt (bif dr then match ordsAt s.cur.fn id C.ords with
      | some (o :: os) => sameAll (arun C Rc Rt fin n false (enterD s (pinsAt s.cur.fn id C.ords) ops.toList o k)) (os.map fun o => arun C Rc Rt fin n false (enterD s (pinsAt s.cur.fn id C.ords) ops.toList o k))
      | _ => none
     else arun C Rc Rt fin n false (goTo s (.ops ops.toList ops.toList :: k))) fun kk m => bif dr then match ordsAt s.cur.fn id C.ords with
      | some (o :: os) => sameAll (arun C (Rk kk m) (Rtk kk m) fin n false (enterD s (pinsAt s.cur.fn id C.ords) ops.toList o k)) (os.map fun o => arun C (Rk kk m) (Rtk kk m) fin n false (enterD s (pinsAt s.cur.fn id C.ords) ops.toList o k))
      | _ => none
     else arun C (Rk kk m) (Rtk kk m) fin n false (goTo s (.ops ops.toList ops.toList :: k)) := by
    intro dr id ops k
    refine lt_cond ?_ (ih _)
    split
    ·exact lt_same (ih _) fun a _ => ih _
    ·exact lt_none
   refine lt_cond (enter _ _ _ _) ?_
   split
   ·split
    ·exact hR _
    ·exact lt_none
   ·exact enter _ _ _ _
  ·split
   ·exact lt_none
   ·have go : ∀ s : St,_ := fun s => ih s
    split <;> first | exact lt_none | exact ih _ | skip
    all_goals (repeat' (first | exact lt_none | exact ih _ | refine lt_cond ?_ ?_ | refine lt_sel ?_ ?_ | refine aop_lt hC (fun v O n e => ?_) _ _ _ _ | split))
  ·split <;> first | exact lt_none | exact ih _ | skip
   all_goals (repeat' (first | exact lt_none | exact ih _ | refine lt_sel ?_ ?_ | refine aop_lt hC (fun v O n e => ih _) _ _ _ _ | split))
end
end Go.E
end
section
namespace Go.E
noncomputable def run (C : Cfg) (Rc : Rcall) (s : Sig) : Nat -> St -> Option s.B
 | 0,_ => none
 | k + 1,st => from_ C Rc s (run C Rc s k) st
noncomputable def den (C : Cfg) (pr : Rcall) : Nat -> Rcall
 | 0 => pr
 | k + 1 => fun f s a => match pr f s a with
  | some r => some r
  | none => body C (den C pr k) f s (run C (den C pr k) s k) a
section
variable {P : Program} {main : Bool} {Rl : Ow -> World -> World -> Prop} {C : Cfg} {Rc : Rcall} {X : Ctx} {cs0 : List Frame}
theorem leans (T : TyOK P C) (hcode : ∀ g fn c,look C.fns g = some fn -> fn.body = some c -> codeOk fn.ntmps c = true) (hdraws : ∀ g fn c,look C.fns g = some fn -> fn.body = some c -> drawsC C g c = true) (hR : Leaves Rl) (hRc : Good P main Rl C Rc) {s : Sig} {Rt : St -> Option s.B} (hRt : ∀ st r,Rt st = some r -> StD C st -> Goes P main Rl X cs0 (Out C s X cs0 r) st) :
  Leans P main Rl C Rc X cs0 (fun r => Out C s X cs0 r) Rt (fin s) where
 tys := T
 code := hcode
 draws := hdraws
 rely := hR
 canon := fun _ _ _ hc _ _ _ _ h => canon_R h hc
 back := hRt
 fin := fun vs st r fn h _ hfn hd o E tmps todo hst ht => out_fin vs st r fn h hfn hd o E tmps todo hst ht
 call := fun K st all op rest k r q hop _ ha hK o E tmps todo cs ops i idx todo' h ht e hi hd htd hw => call_R T hcode hR hRc K st all op rest k r q hop ha hK o E tmps todo cs ops i idx todo' h ht e hi hd htd hw
theorem run_R (T : TyOK P C) (hcode : ∀ g fn c,look C.fns g = some fn -> fn.body = some c -> codeOk fn.ntmps c = true) (hdraws : ∀ g fn c,look C.fns g = some fn -> fn.body = some c -> drawsC C g c = true) (hR : Leaves Rl) (hRc : Good P main Rl C Rc) {s : Sig} : ∀ (k : Nat) (st : St) (r : s.B),run C Rc s k st = some r -> StD C st -> Goes P main Rl X cs0 (Out C s X cs0 r) st
 | 0,_,_,h,_ => by cases h
 | k + 1,st,r,h,hd => arun_sound (leans T hcode hdraws hR hRc (run_R T hcode hdraws hR hRc k)) fuel true st r hd h
theorem den_good {pr : Rcall} (T : TyOK P C) (hcode : ∀ g fn c,look C.fns g = some fn -> fn.body = some c -> codeOk fn.ntmps c = true) (hdraws : ∀ g fn c,look C.fns g = some fn -> fn.body = some c -> drawsC C g c = true) (hR : Leaves Rl) (hp : Good P main Rl C pr) : ∀ (k : Nat),Good P main Rl C (den C pr k)
 | 0 => hp
 | k + 1 => fun f s a r h => by
  have h : (match pr f s a with
   | some r => some r
   | none => body C (den C pr k) f s (run C (den C pr k) s k) a) = some r := h
  cases hq : pr f s a with
  | some q => rw [hq] at h; cases h; exact hp f s a _ hq
  | none =>
  rw [hq] at h
  have h : body C (den C pr k) f s (run C (den C pr k) s k) a = some r := h
  unfold body at h
  split at h
  ·rename_i fn hfn
   split at h
   ·rename_i c hc
    exact ⟨fn,c,hfn,hc,fun X cs0 => arun_sound (leans T hcode hdraws hR (den_good T hcode hdraws hR hp k) (run_R T hcode hdraws hR (den_good T hcode hdraws hR hp k) k)) fuel false _ r (fun p hp => by
     rcases List.mem_cons.1 hp with e | hp
     ·subst e
      show (drawsC C f c && true) = true
      rw [Bool.and_true]; exact hdraws f fn c hfn hc
     ·cases hp) h⟩
   ·cases h
  ·cases h
end
open Classical in
noncomputable def D (C : Cfg) (pr : Rcall) : Rcall := fun f s a =>
 if h : ∃ r k0,∀ k,k0 <= k -> den C pr k f s a = some r then some h.choose else none
open Classical in
noncomputable def L (C : Cfg) (pr : Rcall) (s : Sig) : St -> Option s.B := fun st =>
 if h : ∃ r k0,∀ k m,k0 <= k -> k0 <= m -> run C (den C pr k) s m st = some r then some h.choose else none
theorem D_of {C : Cfg} {pr : Rcall} {f : FuncId} {s : Sig} {a : s.A} {r : s.B} {k0 : Nat} (h : ∀ k,k0 <= k -> den C pr k f s a = some r) : D C pr f s a = some r := by
 have hx : ∃ r k0,∀ k,k0 <= k -> den C pr k f s a = some r := ⟨r,k0,h⟩
 unfold D
 rw [dif_pos hx]
 obtain ⟨k1,h1⟩ := hx.choose_spec
 have e1 := h1 (max k0 k1) (by omega)
 have e2 := h (max k0 k1) (by omega)
 rw [e1] at e2
 exact e2
theorem D_ev {C : Cfg} {pr : Rcall} {f : FuncId} {s : Sig} {a : s.A} {r : s.B} (h : D C pr f s a = some r) : ∃ k0,∀ k,k0 <= k -> den C pr k f s a = some r := by
 unfold D at h
 split at h
 ·rename_i hx; cases h; exact hx.choose_spec
 ·cases h
theorem L_of {C : Cfg} {pr : Rcall} {s : Sig} {st : St} {r : s.B} {k0 : Nat} (h : ∀ k m,k0 <= k -> k0 <= m -> run C (den C pr k) s m st = some r) : L C pr s st = some r := by
 have hx : ∃ r k0,∀ k m,k0 <= k -> k0 <= m -> run C (den C pr k) s m st = some r := ⟨r,k0,h⟩
 unfold L
 rw [dif_pos hx]
 obtain ⟨k1,h1⟩ := hx.choose_spec
 have e1 := h1 (max k0 k1) (max k0 k1) (by omega) (by omega)
 have e2 := h (max k0 k1) (max k0 k1) (by omega) (by omega)
 rw [e1] at e2
 exact e2
theorem L_ev {C : Cfg} {pr : Rcall} {s : Sig} {st : St} {r : s.B} (h : L C pr s st = some r) : ∃ k0,∀ k m,k0 <= k -> k0 <= m -> run C (den C pr k) s m st = some r := by
 unfold L at h
 split at h
 ·rename_i hx; cases h; exact hx.choose_spec
 ·cases h
theorem D_ltC {C : Cfg} {pr : Rcall} : LtC (D C pr) fun k _ => den C pr k := fun f s a r h => by
 obtain ⟨k0,h⟩ := D_ev h
 exact ⟨k0,fun k _ hk _ => h k hk⟩
theorem D_body {C : Cfg} {pr : Rcall} {f : FuncId} {s : Sig} {a : s.A} {r : s.B} (hp : pr f s a = none) (h : body C (D C pr) f s (L C pr s) a = some r) : D C pr f s a = some r := by
 have hb : Lt (body C (D C pr) f s (L C pr s) a) fun k m => body C (den C pr k) f s (run C (den C pr k) s m) a := by
  unfold body
  split
  ·split
   ·exact arun_lt D_ltC (fun st r h => L_ev h) _ _ _
   ·exact lt_none
  ·exact lt_none
 obtain ⟨k0,h0⟩ := hb r h
 refine D_of (k0 := k0 + 1) fun k hk => ?_
 cases k with
 | zero => omega
 | succ k =>
  show (match pr f s a with
   | some r => some r
   | none => body C (den C pr k) f s (run C (den C pr k) s k) a) = _
  rw [hp]
  exact h0 k k (by omega) (by omega)
theorem L_from {C : Cfg} {pr : Rcall} {s : Sig} {st : St} {r : s.B} (h : from_ C (D C pr) s (L C pr s) st = some r) : L C pr s st = some r := by
 obtain ⟨k0,h0⟩ := arun_lt (Rtk := fun k m => run C (den C pr k) s m) D_ltC (fun st r h => L_ev h) _ _ _ r h
 refine L_of (k0 := k0 + 1) fun k m hk hm => ?_
 cases m with
 | zero => omega
 | succ m => exact h0 k m (by omega) (by omega)
theorem D_good {P : Program} {main : Bool} {Rl : Ow -> World -> World -> Prop} {C : Cfg} {pr : Rcall} (T : TyOK P C) (hcode : ∀ g fn c,look C.fns g = some fn -> fn.body = some c -> codeOk fn.ntmps c = true) (hdraws : ∀ g fn c,look C.fns g = some fn -> fn.body = some c -> drawsC C g c = true) (hR : Leaves Rl) (hp : Good P main Rl C pr) : Good P main Rl C (D C pr) := fun f s a r h => by
 obtain ⟨k0,h⟩ := D_ev h
 exact den_good T hcode hdraws hR hp k0 f s a r (h k0 (Nat.le_refl _))
end Go.E
end
section
namespace Go.E
def avPlainEq : AV -> AV -> Bool
 | .int k n,.int k' n' => kbeq k k' && decide (n = n')
 | .bool b,.bool b' => b == b'
 | .str s,.str s' => s.data.toList.isEmpty && s'.data.toList.isEmpty
 | .raw (.map none),.raw (.map none) => true
 | .nilsl,.nilsl | .nilptr,.nilptr | .nilfunc,.nilfunc | .nilif,.nilif => true
 | _,_ => false
def avsPlainEq : List AV -> List AV -> Bool
 | [],[] => true
 | x :: xs,y :: ys => avPlainEq x y && avsPlainEq xs ys
 | _,_ => false
theorem avPlainEq_eq {x y : AV} (h : avPlainEq x y = true) : x = y := by
 unfold avPlainEq at h
 split at h
 ·rw [Bool.and_eq_true,decide_eq_true_eq] at h
  rw [kbeq_eq h.1,h.2]
 ·rw [eq_of_beq h]
 ·rename_i s s'
  rw [Bool.and_eq_true,List.isEmpty_iff,List.isEmpty_iff] at h
  obtain ⟨⟨l⟩⟩ := s
  obtain ⟨⟨l'⟩⟩ := s'
  obtain rfl : l = [] := h.1
  obtain rfl : l' = [] := h.2
  rfl
 ·rfl
 ·rfl
 ·rfl
 ·rfl
 ·rfl
 ·cases h
theorem avsPlainEq_eq : ∀ {xs ys : List AV},avsPlainEq xs ys = true -> xs = ys
 | [],[],_ => rfl
 | x :: xs,y :: ys,h => by
  have h : (avPlainEq x y && avsPlainEq xs ys) = true := h
  rw [Bool.and_eq_true] at h
  rw [avPlainEq_eq h.1,avsPlainEq_eq h.2]
 | [],_ :: _,h => by cases h
 | _ :: _,[],h => by cases h
def zeroV : CT -> Value -> Bool
 | .int k,.int k' n => kbeq k k' && decide (n = 0)
 | .bool,.bool b => !b
 | .str,.string s => s.data.toList.isEmpty
 | .sl _,.slice _ 0 _ => true
 | _,_ => false
def zeroVs : CTs -> List Value -> Bool
 | .one t,[v] => zeroV t v
 | .cons t ts,v :: r => zeroV t v && zeroVs ts r
 | _,_ => false
theorem zeroV_rp {w : World} {N : Nat -> Prop} : ∀ {t : CT} {v : Value},zeroV t v = true -> t.rp w N t.zero v
 | .int k,.int k' n,h => by
  have h : (kbeq k k' && decide (n = 0)) = true := h
  rw [Bool.and_eq_true,decide_eq_true_eq] at h
  rw [<- kbeq_eq h.1,h.2]; unfold CT.rp; rfl
 | .bool,.bool b,h => by
  have h : (!b) = true := h
  cases b with
  | true => cases h
  | false => unfold CT.rp; rfl
 | .str,.string s,h => by
  have h : s.data.toList.isEmpty = true := h
  rw [List.isEmpty_iff] at h
  obtain ⟨⟨l⟩⟩ := s
  obtain rfl : l = [] := h
  unfold CT.rp; rfl
 | .sl ts,.slice a 0 cap,_ => rp_sl.2 ⟨a,0,cap,rfl,rfl,Nat.zero_le _,fun x => absurd rfl x⟩
theorem zeroVs_rp {w : World} {N : Nat -> Prop} : ∀ {ts : CTs} {l : List Value},zeroVs ts l = true -> ts.rp w N ts.zero l
 | .one t,[v],h => by unfold CTs.rp; exact ⟨v,rfl,zeroV_rp h⟩
 | .cons t ts,v :: r,h => by
  have h : (zeroV t v && zeroVs ts r) = true := h
  rw [Bool.and_eq_true] at h
  unfold CTs.rp; exact ⟨v,r,rfl,zeroV_rp h.1,zeroVs_rp h.2⟩
def rowIs (ty : List (Nat × TI)) (e : Nat) : Option CTs -> Bool
 | some (.one (.sl ts)) => match look ty e with
  | some te => match te.row with
   | some ts' => ts'.beq ts
   | none => false
  | none => false
 | _ => true
def fieldsOk (fs : List Field) : List (Nat × Nat) -> Bool
 | [] => true
 | (o,ft) :: r => match fs with
  | fl :: fs => Nat.beq fl.offset o && Nat.beq fl.type ft && fieldsOk fs r
  | [] => false
def fitsB (ty : List (Nat × TI)) (ti : TI) : TypeDesc -> Bool
 | .pointer e => Nat.beq ti.kd 1 && !ti.agg && Nat.beq ti.elem e
 | .interface _ => Nat.beq ti.kd 2 && !ti.agg
 | .func .. => Nat.beq ti.kd 3 && !ti.agg
 | .slice e => Nat.beq ti.kd 4 && !ti.agg && Nat.beq ti.elem e && rowIs ty e ti.row
 | .array n e => Nat.beq ti.kd 5 && ti.agg && Nat.beq ti.len n && Nat.beq ti.elem e
 | .struct fs => Nat.beq ti.kd 6 && ti.agg && fieldsOk fs.toList ti.fields
 | .map k v => Nat.beq ti.kd 7 && !ti.agg && Nat.beq ti.elem k && Nat.beq ti.len v
 | .string => Nat.beq ti.kd 9 && !ti.agg
 | .bool => Nat.beq ti.kd 10 && !ti.agg
 | .int k => Nat.beq ti.kd 11 && !ti.agg && (match ti.row with
  | some (.one (.int k')) => kbeq k k'
  | none => true
  | _ => false)
 | .named .. => false
 | _ => Nat.beq ti.kd 0 && !ti.agg
theorem fieldsOk_get : ∀ {l : List (Nat × Nat)} {fs : List Field} {f o ft : Nat},fieldsOk fs l = true -> nth l f = some (o,ft) -> ∃ fl,fs[f]? = some fl ∧ fl.offset = o ∧ fl.type = ft
 | [],_,_,_,_,_,h => by cases h
 | (o',ft') :: r,fs,f,o,ft,h,hn => by
  cases fs with
  | nil => cases h
  | cons fl fs =>
   have h : (Nat.beq fl.offset o' && Nat.beq fl.type ft' && fieldsOk fs r) = true := h
   rw [Bool.and_eq_true,Bool.and_eq_true] at h
   cases f with
   | zero =>
    cases hn
    exact ⟨fl,rfl,Nat.eq_of_beq_eq_true h.1.1,Nat.eq_of_beq_eq_true h.1.2⟩
   | succ f =>
    obtain ⟨fl',h1,h2⟩ := fieldsOk_get h.2 hn
    exact ⟨fl',by simpa using h1,h2⟩
theorem fitsB_fits {C : Cfg} {ti : TI} {d : TypeDesc} (h : fitsB C.ty ti d = true) : ti.fits C d := by
 have nb : ∀ {a b : Nat},Nat.beq a b = true -> a = b := fun h => Nat.eq_of_beq_eq_true h
 have nt : ∀ {b : Bool},(!b) = true -> b = false := fun {b} h => by cases b <;> first | rfl | cases h
 cases d with
 | pointer e => simp only [fitsB,Bool.and_eq_true] at h; exact ⟨nb h.1.1,nt h.1.2,nb h.2⟩
 | interface m => simp only [fitsB,Bool.and_eq_true] at h; exact ⟨nb h.1,nt h.2⟩
 | func a b c => simp only [fitsB,Bool.and_eq_true] at h; exact ⟨nb h.1,nt h.2⟩
 | slice e =>
  simp only [fitsB,Bool.and_eq_true] at h
  refine ⟨nb h.1.1.1,nt h.1.1.2,nb h.1.2,fun ts hr => ?_⟩
  have h2 := h.2
  rw [hr] at h2
  have h2 : (match look C.ty e with
   | some te => match te.row with
    | some ts' => ts'.beq ts
    | none => false
   | none => false) = true := h2
  split at h2
  ·rename_i te ht
   split at h2
   ·rename_i ts' hr'
    exact ⟨te,ht,by rw [hr',CTs.beq_eq h2]⟩
   ·cases h2
  ·cases h2
 | array n e => simp only [fitsB,Bool.and_eq_true] at h; exact ⟨nb h.1.1.1,h.1.1.2,nb h.1.2,nb h.2⟩
 | struct fs =>
  simp only [fitsB,Bool.and_eq_true] at h
  refine ⟨nb h.1.1,h.1.2,fun f o ft hf => ?_⟩
  obtain ⟨fl,h1,h2⟩ := fieldsOk_get h.2 hf
  exact ⟨fl,by rw [<- Array.getElem?_toList]; exact h1,h2⟩
 | string => simp only [fitsB,Bool.and_eq_true] at h; exact ⟨nb h.1,nt h.2⟩
 | bool => simp only [fitsB,Bool.and_eq_true] at h; exact ⟨nb h.1,nt h.2⟩
 | int k =>
  simp only [fitsB,Bool.and_eq_true] at h
  refine ⟨nb h.1.1,nt h.1.2,fun r hr => ?_⟩
  have h2 := h.2
  rw [hr] at h2
  split at h2
  ·rename_i k' e
   cases e
   rw [kbeq_eq h2]
  ·rename_i e; cases e
  ·cases h2
 | named a b => cases h
 | invalid => simp only [fitsB,Bool.and_eq_true] at h; exact ⟨nb h.1,nt h.2⟩
 | float k => simp only [fitsB,Bool.and_eq_true] at h; exact ⟨nb h.1,nt h.2⟩
 | complex k => simp only [fitsB,Bool.and_eq_true] at h; exact ⟨nb h.1,nt h.2⟩
 | unsafePointer => simp only [fitsB,Bool.and_eq_true] at h; exact ⟨nb h.1,nt h.2⟩
 | map a b => simp only [fitsB,Bool.and_eq_true] at h; exact ⟨nb h.1.1.1,nt h.1.1.2,nb h.1.2,nb h.2⟩
 | chan a b => simp only [fitsB,Bool.and_eq_true] at h; exact ⟨nb h.1,nt h.2⟩
 | tuple a => simp only [fitsB,Bool.and_eq_true] at h; exact ⟨nb h.1,nt h.2⟩
def zeroOk (ti : TI) (z : Option Value) : Bool := !Nat.beq ti.zero.length ti.size || match z with
 | some z => match ofValues z.cells.toList with
  | some l => avsPlainEq l ti.zero
  | none => false
 | none => false
def rowOk (ti : TI) (z : Option Value) : Bool := match ti.row with
 | none => true
 | some ts => Nat.beq ti.size ts.n && Nat.blt 0 ti.bytes && Nat.ble ti.bytes 65536 && match z with
  | some z => zeroVs ts z.cells.toList
  | none => false
def zeroRows (ts : CTs) : Nat -> List Value -> Bool
 | 0,_ => true
 | n + 1,l => Nat.ble ts.n l.length && zeroVs ts (l.take ts.n) && zeroRows ts n (l.drop ts.n)
theorem zeroRows_rp {w : World} {N : Nat -> Prop} {ts : CTs} : ∀ {n : Nat} {l : List Value},zeroRows ts n l = true -> rowsIn ts.n (ts.rp w N) (List.replicate n ts.zero) l
 | 0,_,_ => trivial
 | n + 1,l,h => by
  have h : (Nat.ble ts.n l.length && zeroVs ts (l.take ts.n) && zeroRows ts n (l.drop ts.n)) = true := h
  rw [Bool.and_eq_true,Bool.and_eq_true] at h
  exact ⟨Nat.le_of_ble_eq_true h.1.1,zeroVs_rp h.1.2,zeroRows_rp h.2⟩
def arrOk (ty : List (Nat × TI)) (ti : TI) (z : Option Value) : Bool := !Nat.beq ti.kd 5 || match look ty ti.elem with
 | some te => match te.row with
  | some ts => !Nat.beq ti.size (ti.len * ts.n) || match z with
   | some z => Nat.beq z.cells.toList.length ti.size && zeroRows ts ti.len z.cells.toList
   | none => false
  | none => true
 | none => true
def zshOk (ti : TI) (z : Option Value) : Bool := ti.agg || match z with
 | some (.agg _) => false
 | _ => true
def cmpOk (P : Program) (t : Nat) (ti : TI) : Bool := match ti.cmp with
 | [] => true
 | cs => cmpB P t cs
def methsOk1 (P : Program) (t : Nat) : List (String × FuncId) -> Bool
 | [] => true
 | (m,g) :: r => methB P t m g && methsOk1 P t r
def methsOk (P : Program) : List (Nat × List (String × FuncId)) -> Bool
 | [] => true
 | (t,l) :: r => methsOk1 P t l && methsOk P r
theorem methsOk_get {P : Program} {t : Nat} {m : String} {g : FuncId} : ∀ {L : List (Nat × List (String × FuncId))} {l : List (String × FuncId)},methsOk P L = true -> look L t = some l -> findS l m = some g -> methB P t m g = true
 | (t',l') :: r,l,h,hl,hg => by
  have h : (methsOk1 P t' l' && methsOk P r) = true := h
  rw [Bool.and_eq_true] at h
  have hl : (bif Nat.beq t' t then some l' else look r t) = some l := hl
  by_cases e : t' = t
  ·subst e
   rw [Nat.beq_refl] at hl; cases hl
   have : ∀ l : List (String × FuncId),methsOk1 P t' l = true -> findS l m = some g -> methB P t' m g = true := by
    intro l
    induction l with
    | nil => intro _ h; cases h
    | cons q r ih =>
     obtain ⟨n,x⟩ := q
     intro h hg
     have h : (methB P t' n x && methsOk1 P t' r) = true := h
     rw [Bool.and_eq_true] at h
     have hg : (bif n == m then some x else findS r m) = some g := hg
     cases hn : n == m with
     | true =>
      rw [hn] at hg; cases hg
      rw [eq_of_beq hn] at h; exact h.1
     | false => rw [hn] at hg; exact ih h.2 hg
   exact this _ h.1 hg
  ·rw [beq_ne e] at hl; exact methsOk_get h.2 hl hg
def knowsAll (P : Program) : List Field -> Bool
 | [] => true
 | f :: r => (match P.info? f.type with | some _ => true | none => false) && knowsAll P r
def tiOk (P : Program) (ty : List (Nat × TI)) (t : Nat) (ti : TI) : Bool :=
 (match P.info? t with
 | some i => Nat.beq i.size ti.size && Nat.beq i.bytes ti.bytes && zeroOk ti i.zero && rowOk ti i.zero && arrOk ty ti i.zero && zshOk ti i.zero
 | none => false) &&
 (match P.underlying t with
 | some d => fitsB ty ti d && (match d with | .struct fs => knowsAll P fs.toList | _ => true)
 | none => false) && (ti.fields.isEmpty || Nat.beq ti.kd 6) && cmpOk P t ti
def tysOk (P : Program) (ty : List (Nat × TI)) : List (Nat × TI) -> Bool
 | [] => true
 | (t,ti) :: r => tiOk P ty t ti && tysOk P ty r
def codesOk : List (Nat × Func) -> Bool
 | [] => true
 | (_,fn) :: r => (match fn.body with | some c => codeOk fn.ntmps c | none => true) && codesOk r
def FnsOk (P : Program) : List (Nat × Func) -> Prop
 | [] => True
 | (f,fn) :: r => (P.funcs[f]? = some fn ∧ (fn.name == "runtime.NumGoroutine") = false) ∧ FnsOk P r
theorem tysOk_get {P : Program} {ty : List (Nat × TI)} : ∀ {l : List (Nat × TI)} {t : Nat} {ti : TI},tysOk P ty l = true -> look l t = some ti -> tiOk P ty t ti = true
 | (t',ti') :: r,t,ti,h,hl => by
  have h : (tiOk P ty t' ti' && tysOk P ty r) = true := h
  rw [Bool.and_eq_true] at h
  have hl : (bif Nat.beq t' t then some ti' else look r t) = some ti := hl
  by_cases e : t' = t
  ·subst e; rw [Nat.beq_refl] at hl; cases hl; exact h.1
  ·rw [beq_ne e] at hl; exact tysOk_get h.2 hl
theorem fnsOk_get {P : Program} : ∀ {l : List (Nat × Func)} {f : Nat} {fn : Func},FnsOk P l -> look l f = some fn -> P.funcs[f]? = some fn ∧ (fn.name == "runtime.NumGoroutine") = false
 | (f',fn') :: r,f,fn,h,hl => by
  have hl : (bif Nat.beq f' f then some fn' else look r f) = some fn := hl
  by_cases e : f' = f
  ·subst e; rw [Nat.beq_refl] at hl; cases hl; exact h.1
  ·rw [beq_ne e] at hl; exact fnsOk_get h.2 hl
theorem codesOk_get : ∀ {l : List (Nat × Func)} {f : Nat} {fn : Func} {c : Code},codesOk l = true -> look l f = some fn -> fn.body = some c -> codeOk fn.ntmps c = true
 | (f',fn') :: r,f,fn,c,h,hl,hc => by
  have h : ((match fn'.body with | some c => codeOk fn'.ntmps c | none => true) && codesOk r) = true := h
  rw [Bool.and_eq_true] at h
  have hl : (bif Nat.beq f' f then some fn' else look r f) = some fn := hl
  by_cases e : f' = f
  ·subst e; rw [Nat.beq_refl] at hl; cases hl
   have h1 := h.1
   rw [hc] at h1; exact h1
  ·rw [beq_ne e] at hl; exact codesOk_get h.2 hl hc
theorem knowsAll_get {P : Program} : ∀ {l : List Field},knowsAll P l = true -> ∀ fl ∈ l,∃ i,P.info? fl.type = some i
 | f :: r,h,fl,hf => by
  have h : ((match P.info? f.type with | some _ => true | none => false) && knowsAll P r) = true := h
  rw [Bool.and_eq_true] at h
  rcases List.mem_cons.1 hf with e | hf
  ·subst e
   have h1 := h.1
   split at h1
   ·rename_i i hi; exact ⟨i,hi⟩
   ·cases h1
  ·exact knowsAll_get h.2 fl hf
def drawsOk (C : Cfg) : List (Nat × Func) -> Bool
 | [] => true
 | (f,fn) :: r => (match fn.body with | some c => drawsC C f c | none => true) && drawsOk C r
theorem drawsOk_get {C : Cfg} : ∀ {l : List (Nat × Func)} {f : Nat} {fn : Func} {c : Code},drawsOk C l = true -> look l f = some fn -> fn.body = some c -> drawsC C f c = true
 | (f',fn') :: r,f,fn,c,h,hl,hc => by
  have h : ((match fn'.body with | some c => drawsC C f' c | none => true) && drawsOk C r) = true := h
  rw [Bool.and_eq_true] at h
  have hl : (bif Nat.beq f' f then some fn' else look r f) = some fn := hl
  by_cases e : f' = f
  ·subst e; rw [Nat.beq_refl] at hl; cases hl
   have h1 := h.1
   rw [hc] at h1; exact h1
  ·rw [beq_ne e] at hl; exact drawsOk_get h.2 hl hc
theorem tyOK {P : Program} {C : Cfg} (h : tysOk P C.ty C.ty = true) (hf : FnsOk P C.fns) (hm : P.follows .mixedOrders = true) (hme : methsOk P C.meths = true) : TyOK P C := by
 have nb : ∀ {a b : Nat},Nat.beq a b = true -> a = b := fun h => Nat.eq_of_beq_eq_true h
 have get : ∀ {t : Nat} {ti : TI},look C.ty t = some ti -> (∃ i,P.info? t = some i ∧ i.size = ti.size ∧ i.bytes = ti.bytes ∧ zeroOk ti i.zero = true ∧ rowOk ti i.zero = true ∧ arrOk C.ty ti i.zero = true ∧ zshOk ti i.zero = true) ∧
   (∃ d,P.underlying t = some d ∧ fitsB C.ty ti d = true ∧ ∀ fs,d = .struct fs -> knowsAll P fs.toList = true) ∧ ((ti.fields.isEmpty || Nat.beq ti.kd 6) = true ∧ cmpOk P t ti = true) := fun {t ti} hl => by
  have := tysOk_get h hl
  unfold tiOk at this
  rw [Bool.and_eq_true,Bool.and_eq_true,Bool.and_eq_true] at this
  obtain ⟨⟨⟨h1,h2⟩,h3⟩,h4⟩ := this
  refine ⟨?_,?_,h3,h4⟩
  ·split at h1
   ·rename_i i hi
    simp only [Bool.and_eq_true] at h1
    exact ⟨i,hi,nb h1.1.1.1.1.1,nb h1.1.1.1.1.2,h1.1.1.1.2,h1.1.1.2,h1.1.2,h1.2⟩
   ·cases h1
  ·split at h2
   ·rename_i d hd
    rw [Bool.and_eq_true] at h2
    refine ⟨d,hd,h2.1,fun fs e => ?_⟩
    subst e; exact h2.2
   ·cases h2
 refine ⟨fun t ti hl => ?_,fun t ti hl => ?_,fun t ti fs hl hu fl hfl => ?_,fun t i hi ti hl => ?_,fun t ti hl hne => ?_,fun f fn hl => fnsOk_get hf hl,hm,fun t ti te ts hl hk hle hr hs => ?_,fun t ti hl hc => ?_,fun t m g hg => ?_,fun t ti i z hl hi hz hag cs => ?_⟩
 ·obtain ⟨⟨i,h1,h2,h3,h4,h5,_⟩,_,_⟩ := get hl
  refine ⟨i,h1,h2,h3,fun e => ?_,fun ts hr => ?_⟩
  ·unfold zeroOk at h4
   have hb : Nat.beq ti.zero.length ti.size = true := by rw [e]; exact Nat.beq_refl _
   rw [hb,Bool.not_true,Bool.false_or] at h4
   split at h4
   ·rename_i z hz
    split at h4
    ·rename_i l hl'
     exact ⟨z,hz,by rw [hl',avsPlainEq_eq h4]⟩
    ·cases h4
   ·cases h4
  ·unfold rowOk at h5
   rw [hr] at h5
   simp only [Bool.and_eq_true] at h5
   obtain ⟨⟨⟨a,b⟩,c⟩,d⟩ := h5
   refine ⟨nb a,Nat.le_of_ble_eq_true b,Nat.le_of_ble_eq_true c,?_⟩
   split at d
   ·rename_i z hz; exact ⟨z,hz,fun w N => zeroVs_rp d⟩
   ·cases d
 ·obtain ⟨_,⟨d,h1,h2,_⟩,_⟩ := get hl
  exact ⟨d,h1,fitsB_fits h2⟩
 ·obtain ⟨_,⟨d,h1,_,h3⟩,_⟩ := get hl
  rw [hu] at h1; cases h1
  exact knowsAll_get (h3 fs rfl) fl (by simpa using hfl)
 ·obtain ⟨⟨i',h1,h2,_⟩,_⟩ := get hl
  rw [hi] at h1; cases h1; exact h2
 ·have h3 := (get hl).2.2.1
  rw [Bool.or_eq_true] at h3
  rcases h3 with h3 | h3
  ·rw [List.isEmpty_iff] at h3; exact absurd h3 hne
  ·exact nb h3
 ·obtain ⟨⟨i,h1,h2,_,_,_,h6,_⟩,_,_⟩ := get hl
  unfold arrOk at h6
  rw [hk,Nat.beq_refl,Bool.not_true,Bool.false_or,hle] at h6
  dsimp only at h6
  rw [hr] at h6
  dsimp only at h6
  rw [<- hs,Nat.beq_refl,Bool.not_true,Bool.false_or] at h6
  split at h6
  ·rename_i z hz
   rw [Bool.and_eq_true] at h6
   exact ⟨i,z,h1,hz,by have := nb h6.1; simpa using this,fun w N => zeroRows_rp h6.2⟩
  ·cases h6
 ·have h4 := (get hl).2.2.2
  unfold cmpOk at h4
  split at h4
  ·rename_i e; exact absurd e hc
  ·exact h4
 ·unfold meth at hg
  split at hg
  ·rename_i l hl
   exact methsOk_get hme hl hg
  ·cases hg
 ·obtain ⟨⟨i',h1,_,_,_,_,_,h7⟩,_,_⟩ := get hl
  rw [hi] at h1; cases h1
  unfold zshOk at h7
  rw [hag,Bool.false_or,hz] at h7
  intro e
  rw [e] at h7; cases h7
end Go.E
end
section
namespace Go.E
section
variable {P : Program} {C : Cfg}
def Solo : Ow -> World -> World -> Prop := fun _ w w2 => w2 = w
theorem solo_leaves : Leaves Solo := fun _ w w2 h => by
 have h : w2 = w := h
 subst h
 exact ⟨Nat.le_refl _,fun _ _ => rfl⟩
theorem Via.steps {S : Ow -> Frame -> List Frame -> World -> Prop} {o : Ow} {fr : Frame} {cs : List Frame} {w : World} (h : Via P true Solo S o fr cs w) : ∃ o' fr' cs' w',S o' fr' cs' w' ∧ Steps P (lone fr cs w) (lone fr' cs' w') ∧ w'.os = w.os ∧ w'.output = w.output := by
 induction h with
 | stop h => exact ⟨_,_,_,_,h,Steps.refl _ _,rfl,rfl⟩
 | step a b _ ih =>
  obtain ⟨o',fr',cs',w',h1,h2,h3,h4⟩ := ih _ rfl
  refine ⟨o',fr',cs',w',h1,Steps.head (step_lone_go ?_) h2,h3.trans b.os,h4.trans b.output⟩
  have a := a
  unfold Conc.G at a
  rw [a]; rfl
def outE (w : World) : Env := ⟨w,fun _ => ⟨none,0⟩,fun b => b < w.heap.size,fun b => b < w.heap.size,[]⟩
def outX (f : FuncId) (w : World) : Ctx := ⟨fun b => b < w.heap.size,w,fun b => b < w.heap.size,[],f⟩
def outO (w : World) : Ow := ⟨fun _ => False,fun b => b < w.heap.size⟩
theorem out_ok (f : FuncId) (w : World) : OK (outX f w) (outO w) (outE w) 1 where
 pos := Nat.one_pos
 num := fun i a h => by cases h
 obj := fun i a h => by cases h
 inj := fun i j b hi => by obtain ⟨_,h,_⟩ := hi; cases h
 own := fun i b hi => by obtain ⟨_,h,_⟩ := hi; cases h
 nlt := fun b hb => ⟨hb,hb,fun _ => hb⟩
 kept := fun b hb => ⟨hb,rfl,hb⟩
 size := Nat.le_refl _
 fg := fun b hb => hb
 us := fun b hb => hb.elim
 bx := fun q hq => by cases hq
theorem calls_of {pr : Rcall} (T : TyOK P C) (hcode : codesOk C.fns = true) (hdraws : drawsOk C C.fns = true) (hp : Good P true Solo C pr) {f : FuncId} {s : Sig} {a : s.A} {r : s.B} (h : D C pr f s a = some r) {vals : List Value} {w : World} (hplain : (argAll s.ps a 1 (1 + nsts s.ps)).2 = ([],1)) (hst : nsts s.ps = 0)
  (hargs : VRs (outE w) (argAll s.ps a 1 (1 + nsts s.ps)).1 vals) {R : Ending -> World -> Prop}
  (hR : ∀ (o : Ow) (E : Env) (st : St) (vs : List AV) (v : Value),OK (outX f w) o E st.nid -> E.O = st.objs -> st.bx = [] -> fin s vs st = some r -> VR E (tupOf vs) v -> E.w.os = w.os -> E.w.output = w.output -> R (.returned v) E.w) : Calls P f vals.toArray w R := by
 intro cs
 obtain ⟨fn,body,hfn,hbody,hg⟩ := D_good (P := P) (main := true) (Rl := Solo) T (fun g fn c => codesOk_get hcode) (fun g fn c => drawsOk_get hdraws) solo_leaves hp f s a r h
 obtain ⟨f1,f2⟩ := T.fns f fn hfn
 have hst0 : StR (outX f w) (outO w) (outE w) (start f body s a) cs (frame f (vals.toArray ++ Array.replicate (fn.ntmps - vals.toArray.size) undef) [.code body]) cs := by
  rw [start_eq,hplain,hst]
  rw [hst] at hargs
  refine ⟨out_ok f w,rfl,⟨_,_,rfl,numTm_R hargs,?_⟩,⟨[],rfl,rfl⟩,rfl,rfl⟩
  refine TdR_mk ⟨rfl,codeOk_mono ?_ body (codesOk_get hcode hfn hbody)⟩ rfl
  simp only [Array.size_append,Array.size_replicate]; omega
 obtain ⟨o',fr',cs',w',hout,hsteps,hos,hput⟩ := (hg (outX f w) cs _ _ _ _ hst0).steps
 obtain ⟨E,st,tmps,todo,vs,fn',rfl,rfl,hw,hstR,htm,hfn',hdr,hfin⟩ := hout
 obtain ⟨v,hv,hacc⟩ := results_acc (P := P) T hstR.ok hstR.objs htm hdr
 have hrun := acc_same (hacc _ ⟨rfl,rfl⟩)
 obtain ⟨g1,_⟩ := T.fns _ fn' hfn'
 subst hw
 have hcal : st.callers = [] := by
  obtain ⟨cs1,e,hc⟩ := hstR.callers
  have : cs1 = [] := List.eq_nil_of_length_eq_zero (by have := congrArg List.length e; rw [List.length_append] at this; omega)
  subst this
  cases hcs : st.callers with
  | nil => rfl
  | cons x xs => rw [hcs] at hc; obtain ⟨_,_,e,_⟩ := hc; cases e
 have hroot : st.cur.fn = f := by
  have := hstR.root
  rw [hcal] at this
  exact this
 refine ⟨.returned v,E.w,{ frame st.cur.fn tmps todo with mode := .returning },hR o' E st vs v hstR.ok hstR.objs hstR.bx hfin hv hos hput,?_,hroot,rfl,rfl,rfl,fn',g1,hrun⟩
 ·have he : Frame.enter P f vals.toArray .normal = frame f (vals.toArray ++ Array.replicate (fn.ntmps - vals.toArray.size) undef) [.code body] := Conc.enter_at _ f1 hbody
  rw [he]
  exact hsteps
end
end Go.E
end
section
namespace Go.E
open Go.ChangeShapes Go.WideShapes Go.RowKit
abbrev u8s : CTs := .one (.int .u8)
theorem rows_of {w : World} {N : Nat -> Prop} : ∀ {rows : List Int} {l : List Value},(∀ i,i < rows.length -> l[i]? = some (.int .u8 (rows.getD i 0))) -> rowsIn 1 (CTs.rp w N u8s) rows l
 | [],l,_ => trivial
 | x :: rows,l,h => by
  have h0 := h 0 (by simp)
  match l,h0 with
  | v :: l,h0 =>
   have h0 : some v = some (.int .u8 x) := h0
   cases h0
   exact ⟨by simp,⟨_,rfl,rfl⟩,rows_of fun i hi => h (i + 1) (by simpa using hi)⟩
theorem post_of_old {H : Type} {enc : TypeId × Value -> H} {P : Program} {f : Func} {s : ChangeSpec} {apart fresh handsOn again : Bool} {W W' : World} {args : Array Value} {v : Value} {ds gs : List (DataW H)} {before pa pv : List MemPlace}
  (hW : DataW.Whole enc P f.params.toList s.vars apart W args.toList ds gs before)
  (hres : ∀ (b : Nat) (sp : Nat -> Bool) (hd : Bool),DataW.TrodAll enc P W' b sp hd f.resultTypes.toList (v.resultList f.resultTypes.size) (s.fn H (ds ++ gs)).results [])
  (hargs : ∀ sp : Nat -> Bool,(∀ p ∈ before,sp p.block = true) -> DataW.TrodAll enc P W' 0 sp true f.params.toList args.toList (s.fn H (ds ++ gs)).args pa)
  (hvars : ∀ sp : Nat -> Bool,(∀ p ∈ before,sp p.block = true) -> DataW.TrodVars enc P W' sp s.vars (s.fn H (ds ++ gs)).vars pv)
  (hps : before = pa ++ pv) (hos : W'.os = W.os) (hout : W'.output = W.output) (hold : ∀ b,b < W.heap.size -> W'.heap[b]? = W.heap[b]?)
  (hok : ∀ (j : Nat) (t : TypeId) (r : Value),f.resultTypes[j]? = some t -> (v.resultList f.resultTypes.size)[j]? = some r -> Value.okWide P W' .any 0 t r) :
  s.post enc P f apart fresh handsOn again W args v W' := by
 have hlt : ∀ p ∈ before,p.block < W.heap.size := fun p hp => hW.lt p hp
 have hdec : ∀ p ∈ before,(fun b => decide (b < W.heap.size)) p.block = true := fun p hp => by simpa using hlt p hp
 refine ⟨ds,gs,before,[],pa,pv,hW,hres _ _ _,hargs _ hdec,hvars _ hdec,⟨hos,hout,fun i hi => ?_⟩,fun _ => ?_⟩
 ·have e : W'.heap[i]? = W.heap[i]? := hold i hi
  rw [e]
  cases hc : W.heap[i]? with
  | none => rfl
  | some x => cases x with
   | cells c t fr => exact ⟨rfl,rfl,rfl,fun _ _ => rfl⟩
   | map es clock => exact .inr ⟨rfl,rfl⟩
   | _ => rfl
 ·obtain ⟨_,_,_,_,_,hz,hn⟩ := hW
  refine ⟨hok,_,_,([] ++ pa) ++ pv,⟨[] ++ pa,pv,trodAll_append (hargs _ (fun _ _ => rfl)) (hres _ _ _),hvars _ (fun _ _ => rfl),rfl,?_,?_⟩,?_⟩
  ·intro b off hp
   have hp' : MemPlace.cell b off ∈ before := by rw [hps]; simpa using hp
   have e : W'.heap[b]? = W.heap[b]? := hold b (hlt _ hp')
   have := hz b off hp'
   unfold World.frozen? at this ⊢
   dsimp only at this ⊢
   rw [e]; exact this
  ·intro ha
   have := hn ha
   rw [hps] at this
   simpa using this
  ·intro p hp _
   rw [hps]
   simpa using hp
end Go.E
end
section
namespace Go.E
open Go.ChangeShapes Go.WideShapes Go.RowKit
abbrev i5s : CTs := .cons (.int .i64) (.cons (.int .i64) (.cons (.int .i64) (.cons (.int .i64) (.one (.int .i64)))))
abbrev sTwo : Sig := ⟨[⟨.one (.sl u8s),[.ro]⟩,⟨.one (.sl i5s),[.ro]⟩],[⟨.one .bool,[]⟩],false⟩
theorem fin_two {vs : List AV} {st : St} {r : Bool} (h : fin sTwo vs st = some r) : vs = [.bool r] := by
 unfold fin at h
 rw [show slotsOf st.cur.tm (stSlots sTwo.ps 0) = some [] from rfl] at h
 dsimp only at h
 rw [List.append_nil] at h
 cases hc : (ptrsAre [] st.bx && restSt sTwo.rs vs.length) with
 | false => rw [hc] at h; cases h
 | true =>
  rw [hc,cond_true] at h
  match vs,h with
  | [],h => cases h
  | x :: y :: r,h => cases h
  | [x],h =>
   cases x <;> first
    | (cases h; rfl)
    | cases h
abbrev I5' := Int × Int × Int × Int × Int
def nums5 (d : I5') : List Value := [.int .i64 d.1,.int .i64 d.2.1,.int .i64 d.2.2.1,.int .i64 d.2.2.2.1,.int .i64 d.2.2.2.2]
theorem rows5_of {w : World} {N : Nat -> Prop} : ∀ {rows : List I5'} {l : List Value},(∀ i,i < rows.length -> ∀ j,j < 5 -> l[i * 5 + j]? = (nums5 (rows.getD i (0,0,0,0,0)))[j]?) -> rowsIn 5 (CTs.rp w N i5s) rows l
 | [],l,_ => trivial
 | x :: rows,l,h => by
  have h0 := fun j hj => h 0 (by simp) j hj
  have e0 := h0 0 (by decide); have e1 := h0 1 (by decide); have e2 := h0 2 (by decide); have e3 := h0 3 (by decide); have e4 := h0 4 (by decide)
  have e0 : l[0]? = some (.int .i64 x.1) := e0
  have e1 : l[1]? = some (.int .i64 x.2.1) := e1
  have e2 : l[2]? = some (.int .i64 x.2.2.1) := e2
  have e3 : l[3]? = some (.int .i64 x.2.2.2.1) := e3
  have e4 : l[4]? = some (.int .i64 x.2.2.2.2) := e4
  rcases l with _ | ⟨v0,_ | ⟨v1,_ | ⟨v2,_ | ⟨v3,_ | ⟨v4,l⟩⟩⟩⟩⟩
  ·cases e0
  ·cases e1
  ·cases e2
  ·cases e3
  ·cases e4
  ·cases e0; cases e1; cases e2; cases e3; cases e4
   refine ⟨by simp,⟨_,_,rfl,rfl,_,_,rfl,rfl,_,_,rfl,rfl,_,_,rfl,rfl,_,rfl,rfl⟩,rows5_of fun i hi j hj => ?_⟩
   have := h (i + 1) (by simpa using hi) j hj
   rw [show (i + 1) * 5 + j = (i * 5 + j) + 5 by omega] at this
   exact this
theorem mapM_of_get {α β : Type} {f : α -> Option β} : ∀ {l : List α} {r : List β},r.length = l.length -> (∀ j (hj : j < l.length),f l[j] = r[j]?) -> l.mapM f = some r
 | [],[],_,_ => rfl
 | [],_ :: _,h,_ => by cases h
 | _ :: _,[],h,_ => by cases h
 | x :: l,y :: r,h,hf => by
  have h0 : f x = some y := hf 0 (by simp)
  have ih := mapM_of_get (f := f) (l := l) (r := r) (by simpa using h) fun j hj => hf (j + 1) (by simpa using hj)
  rw [List.mapM_cons,h0,Option.bind_eq_bind,Option.bind_some,ih]
  rfl
theorem trod_num {H : Type} {enc : TypeId × Value -> H} {P : Program} {w : World} {base : Nat} {sp : Nat -> Bool} {held : Bool} {n : Nat} {t : TypeId} {k : IntKind} {cs : List Value} {x : DataW H × List MemPlace} (ht : P.underlying t = some (.int k)) (h : DataW.trod enc P w base sp held n t cs = some x) : ∃ z,cs = [.int k z] ∧ x.2 = [] := by
 cases n with
 | zero => simp [DataW.trod] at h
 | succ n =>
  unfold DataW.trod at h
  rw [ht] at h
  rcases cs with _ | ⟨v,_ | ⟨v',cs⟩⟩
  ·simp at h
  ·cases v <;> simp at h
   case int k' z =>
    obtain ⟨⟨rfl,_⟩,rfl⟩ := h
    exact ⟨z,rfl,rfl⟩
  ·simp at h
theorem trod_num_eq {H : Type} {enc : TypeId × Value -> H} {P : Program} {w w' : World} {base base' : Nat} {sp sp' : Nat -> Bool} {held : Bool} {n : Nat} {t : TypeId} {k : IntKind} {cs : List Value} {x : DataW H × List MemPlace} (ht : P.underlying t = some (.int k)) (h : DataW.trod enc P w base sp held n t cs = some x) : DataW.trod enc P w' base' sp' held n t cs = some x := by
 obtain ⟨z,rfl,_⟩ := trod_num ht h
 cases n with
 | zero => simp [DataW.trod] at h
 | succ n => simpa [DataW.trod,ht] using h
theorem trod_five {H : Type} {enc : TypeId × Value -> H} {P : Program} {w : World} {base : Nat} {sp : Nat -> Bool} {held : Bool} {n : Nat} {t : TypeId} {fs : Array Field} {cs : List Value} {x : DataW H × List MemPlace} (ht : P.underlying t = some (.struct fs)) (hn : P.cellsOf t = 5)
  (hf : ∀ j,j < 5 -> ∃ f,fs[j]? = some f ∧ f.offset = j ∧ P.cellsOf f.type = 1 ∧ P.underlying f.type = some (.int .i64)) (hz : fs.size = 5)
  (h : DataW.trod enc P w base sp held n t cs = some x) : (∃ d : I5',cs = nums5 d) ∧ x.2 = [] ∧ ∀ (w' : World) (base' : Nat) (sp' : Nat -> Bool),DataW.trod enc P w' base' sp' held n t cs = some x := by
 obtain ⟨xs,m,rfl,rfl,hl,hlen,hel⟩ := DataW.trod_struct ht h
 rw [hn] at hl
 rw [hz] at hlen
 have one : ∀ j,j < 5 -> ∃ z y,cs[j]? = some (.int .i64 z) ∧ xs[j]? = some y ∧ y.2 = [] := by
  intro j hj
  obtain ⟨f,h1,h2,h3,h4⟩ := hf j hj
  have e := hel j f h1
  rw [h2,h3] at e
  have : j < xs.length := by omega
  rw [List.getElem?_eq_getElem this] at e
  obtain ⟨z,hz1,hz2⟩ := trod_num h4 e
  refine ⟨z,xs[j],?_,List.getElem?_eq_getElem this,hz2⟩
  have hc : ((cs.drop j).take 1)[0]? = some (.int .i64 z) := by rw [hz1]; rfl
  simpa [List.getElem?_take,List.getElem?_drop] using hc
 refine ⟨?_,?_,?_⟩
 ·obtain ⟨z0,_,e0,_⟩ := one 0 (by decide)
  obtain ⟨z1,_,e1,_⟩ := one 1 (by decide)
  obtain ⟨z2,_,e2,_⟩ := one 2 (by decide)
  obtain ⟨z3,_,e3,_⟩ := one 3 (by decide)
  obtain ⟨z4,_,e4,_⟩ := one 4 (by decide)
  refine ⟨(z0,z1,z2,z3,z4),?_⟩
  rcases cs with _ | ⟨v0,_ | ⟨v1,_ | ⟨v2,_ | ⟨v3,_ | ⟨v4,_ | ⟨v5,l⟩⟩⟩⟩⟩⟩
  ·cases hl
  ·cases hl
  ·cases hl
  ·cases hl
  ·cases hl
  ·cases e0; cases e1; cases e2; cases e3; cases e4; rfl
  ·simp at hl
 ·refine List.flatMap_eq_nil_iff.2 fun y hy => ?_
  obtain ⟨j,hj,rfl⟩ := List.getElem_of_mem hy
  obtain ⟨_,y',_,h2,h3⟩ := one j (by omega)
  rw [List.getElem?_eq_getElem hj] at h2
  cases h2
  exact h3
 ·intro w' base' sp'
  refine trod_struct_mk ht (by rw [hn]; exact hl) ?_
  have : ∀ j (hj : j < fs.toList.length),DataW.trod enc P w' base' sp' held m fs.toList[j].type ((cs.drop fs.toList[j].offset).take (P.cellsOf fs.toList[j].type)) = xs[j]? := by
   intro j hj
   have hj5 : j < 5 := by rw [<- hz]; simpa using hj
   obtain ⟨f,h1,h2,h3,h4⟩ := hf j hj5
   have hfj : fs.toList[j] = f := by
    have : fs.toList[j]? = some f := by rw [Array.getElem?_toList]; exact h1
    rw [List.getElem?_eq_getElem hj] at this
    exact Option.some.inj this
   rw [hfj]
   have e := hel j f h1
   have hx : j < xs.length := by omega
   rw [List.getElem?_eq_getElem hx] at e ⊢
   exact trod_num_eq h4 e
  exact mapM_of_get (by simpa [hz] using hlen) this
end Go.E
end
section
namespace Go.E
open Go.ChangeShapes Go.WideShapes Go.RowKit
theorem add_block (a : Addr) (i : Nat) : (a.add i).block = a.block := by unfold Addr.add; split <;> rfl
theorem cell_old {W W' : World} (hold : ∀ b,b < W.heap.size -> W'.heap[b]? = W.heap[b]?) {a : Addr} (h : a.block < W.heap.size) : W'.cell? a = W.cell? a := by
 unfold World.cell?; rw [hold _ h]
section
variable {H : Type} {enc : TypeId × Value -> H} {P : Program} {W : World} {base : Nat}
theorem arg_ops {v : Value} {d : DataW H} {p : List MemPlace} {ts e : TypeId} {fs : Array Field} (hs : P.underlying ts = some (.slice e)) (he : P.underlying e = some (.struct fs)) (hn : P.cellsOf e = 5)
  (hf : ∀ j,j < 5 -> ∃ f,fs[j]? = some f ∧ f.offset = j ∧ P.cellsOf f.type = 1 ∧ P.underlying f.type = some (.int .i64)) (hz : fs.size = 5)
  (hval : Value.okWide P W .any base ts v) (h : DataW.Trod enc P W 0 (fun _ => true) true ts v d p) :
  ∃ rows : List I5',rows.length <= maxLen ∧ (∀ deps,SlR (outE W) deps i5s rows v) ∧ ∀ W' : World,(∀ b,b < W.heap.size -> W'.heap[b]? = W.heap[b]?) -> ∀ sp : Nat -> Bool,(∀ q ∈ p,sp q.block = true) -> DataW.Trod enc P W' 0 sp true ts v d p := by
 obtain ⟨a1,len,cap,rfl⟩ := okWide_slice hs hval
 obtain ⟨fuel,hf0⟩ := h
 rcases Deep.open_slice hs hf0 with ⟨hcs,hx⟩ | ⟨a,len',cap',m,n,D,Pl,hcs,_,hl,hm,hmm,hx,hel⟩
 ·simp [Value.cells] at hcs
  obtain ⟨rfl,rfl,rfl⟩ := hcs
  simp only [Prod.mk.injEq] at hx
  obtain ⟨rfl,rfl⟩ := hx
  exact ⟨[],Nat.zero_le _,fun deps => ⟨none,0,0,rfl,rfl,Nat.le_refl _,fun h => absurd rfl h⟩,fun W' _ sp _ => ⟨1,by simp [DataW.trod,Value.cells,hs]⟩⟩
 ·simp [Value.cells] at hcs
  obtain ⟨rfl,rfl,rfl⟩ := hcs
  simp only [Prod.mk.injEq] at hx
  obtain ⟨rfl,rfl⟩ := hx
  simp only [if_true] at hmm
  subst hmm
  rw [hn] at hel
  have each : ∀ i,i < m -> ∃ d : I5',W.cells? 0 (a.add (i * 5)) 5 = some (nums5 d) ∧ ∀ (w' : World) (b' : Nat) (sp' : Nat -> Bool),DataW.trod enc P w' b' sp' true n e (nums5 d) = some (D i,Pl i) := fun i hi => by
   obtain ⟨cs,h1,h2⟩ := hel i hi
   obtain ⟨⟨d,rfl⟩,_,h3⟩ := trod_five he hn hf hz h2
   exact ⟨d,h1,h3⟩
  obtain ⟨F,hF⟩ := Deep.choose_lt each
  have hblock : 0 < m -> a.block < W.heap.size := fun h => by
   have := World.cells?_block (hF 0 h).1 (by decide)
   rwa [add_block] at this
  refine ⟨(List.range len).map F,by rw [List.length_map,List.length_range]; omega,fun deps => ⟨some a,len,m,rfl,(show len = ((List.range len).map F).length by rw [List.length_map,List.length_range]),hl,fun hne => ?_⟩,?_⟩
  ·have hpos : 0 < len := by
    rcases Nat.eq_zero_or_pos len with h | h
    ·subst h; exact absurd rfl hne
    ·exact h
   have hbk := hblock (by omega)
   have hc : ∀ i,i < len -> ∀ j,j < 5 -> W.cell? (a.add (i * 5 + j)) = (nums5 (F i))[j]? := fun i hi j hj => by
    obtain ⟨_,_,h3⟩ := World.cells?_some (hF i (by omega)).1
    have := h3 j hj
    rwa [Deep.add_add] at this
   have hspot : a.spot = none := by
    have h0 := hc 0 hpos 0 (by decide)
    have e0 : a.add (0 * 5 + 0) = a := by simp [Addr.add]
    rw [e0] at h0
    exact World.cell?_spot h0
   obtain ⟨ab,ao,spot⟩ := a
   have hspot : spot = none := hspot
   subst hspot
   have h0 := hc 0 hpos 0 (by decide)
   rw [Addr.add_lit] at h0
   unfold World.cell? at h0
   dsimp only at h0
   cases hh : W.heap[ab]? with
   | none => rw [hh] at h0; cases h0
   | some x => cases x with
    | cells c e fz =>
     refine ⟨ab,ao,c,e,fz,rfl,.inl hbk,hh,rows5_of fun i hi j hj => ?_⟩
     have hi : i < len := by simpa using hi
     have hij := hc i hi j hj
     rw [Addr.add_lit] at hij
     unfold World.cell? at hij
     dsimp only at hij
     rw [hh] at hij
     have hij : c[ao + (i * 5 + j)]? = (nums5 (F i))[j]? := hij
     rw [List.getElem?_drop,Array.getElem?_toList,hij]
     congr 2
     simp [List.getD_eq_getElem?_getD,hi]
    | _ => rw [hh] at h0; cases h0
  ·intro W' hold sp hsp
   have hrow : ∀ i,i < m -> ∃ cs n,W'.cells? 0 (a.add (i * P.cellsOf e)) (P.cellsOf e) = some cs ∧ DataW.trod enc P W' 0 sp true n e cs = some (D i,Pl i) := fun i hi => by
    refine ⟨nums5 (F i),n,?_,(hF i hi).2 W' 0 sp⟩
    rw [hn]
    refine World.cells?_carry (hF i hi).1 fun q hq => ?_
    obtain ⟨k,hk,rfl⟩ := MemPlace.mem_row.1 hq
    have hb := World.cells?_block (hF i hi).1 (by decide)
    exact cell_old hold hb
   rcases Nat.eq_zero_or_pos m with h | h
   ·subst h
    have hl0 : len = 0 := by omega
    subst hl0
    cases hsa : sp a.block with
    | true => exact Deep.shut_slice_whole hs (Nat.zero_le _) hl hm hsa D Pl hrow
    | false => exact Deep.shut_slice hs (Nat.zero_le _) hl hm hsa D Pl hrow
   ·refine Deep.shut_slice_whole hs (Nat.zero_le _) hl hm (hsp (.cell a.block a.off) ?_) D Pl hrow
    refine List.mem_append_left _ (MemPlace.mem_row.2 ⟨0,?_,by simp⟩)
    rw [hn]; omega
theorem arg_bytes {v : Value} {d : DataW H} {p : List MemPlace} {tb te : TypeId} (hb : P.underlying tb = some (.slice te)) (he : P.underlying te = some (.int .u8)) (hc : P.cellsOf te = 1)
  (hval : Value.okWide P W .any base tb v) (h : DataW.Trod enc P W 0 (fun _ => true) true tb v d p) :
  ∃ rows : List Int,(∀ b ∈ rows,0 <= b ∧ b < 256) ∧ (∀ deps,SlR (outE W) deps u8s rows v) ∧ ∀ W' : World,(∀ b,b < W.heap.size -> W'.heap[b]? = W.heap[b]?) -> ∀ sp : Nat -> Bool,(∀ q ∈ p,sp q.block = true) -> DataW.Trod enc P W' 0 sp true tb v d p := by
 obtain ⟨a1,len,cap,rfl⟩ := okWide_slice hb hval
 obtain ⟨fuel,hf⟩ := h
 rcases open_ints hb he hc hf with ⟨hcs,hx⟩ | ⟨a,len',cap',zs,hcs,_,hl,hm,hz,hx,hcell,hwz⟩
 ·simp [Value.cells] at hcs
  obtain ⟨rfl,rfl,rfl⟩ := hcs
  simp only [Prod.mk.injEq] at hx
  obtain ⟨rfl,rfl⟩ := hx
  exact ⟨[],(fun _ h => by cases h),fun deps => ⟨none,0,0,rfl,rfl,Nat.le_refl _,fun h => absurd rfl h⟩,fun W' _ sp _ => ⟨1,by simp [DataW.trod,Value.cells,hb]⟩⟩
 ·simp [Value.cells] at hcs
  obtain ⟨rfl,rfl,rfl⟩ := hcs
  simp only [Prod.mk.injEq] at hx
  obtain ⟨rfl,rfl⟩ := hx
  simp only [if_true] at hz
  have e0 : a.add 0 = a := by simp [Addr.add]
  have hblock : 0 < zs.length -> a.block < W.heap.size := fun h => by
   have hc0 := hcell 0 h
   rcases Nat.lt_or_ge a.block W.heap.size with h | h
   ·exact h
   ·exfalso
    rw [e0] at hc0
    unfold World.cell? at hc0
    rw [Array.getElem?_eq_none h] at hc0
    cases hc0
  have htl : (zs.take len).length = len := by rw [List.length_take]; omega
  refine ⟨zs.take len,?_,fun deps => ⟨some a,len,cap,rfl,htl.symm,hl,fun hne => ?_⟩,?_⟩
  ·intro b hb
   have := hwz b (List.mem_of_mem_take hb)
   have : 0 <= b ∧ b <= 255 := by simpa [Lit.wf,IntKind.min,IntKind.max,IntKind.signed,IntKind.bits] using this
   omega
  ·have hpos : 0 < len := by
    rcases Nat.eq_zero_or_pos len with h | h
    ·subst h; exact absurd rfl hne
    ·exact h
   have hbk := hblock (by omega)
   have hc0 := hcell 0 (by omega)
   rw [e0] at hc0
   have hspot := World.cell?_spot hc0
   obtain ⟨ab,ao,spot⟩ := a
   have hspot : spot = none := hspot
   subst hspot
   unfold World.cell? at hc0
   dsimp only at hc0
   cases hh : W.heap[ab]? with
   | none => rw [hh] at hc0; cases hc0
   | some x => cases x with
    | cells c e fz =>
     refine ⟨ab,ao,c,e,fz,rfl,.inl hbk,hh,rows_of fun i hi => ?_⟩
     rw [htl] at hi
     have hci := hcell i (by omega)
     rw [Addr.add_lit] at hci
     unfold World.cell? at hci
     dsimp only at hci
     rw [hh] at hci
     have hci : c[ao + i]? = some (.int .u8 (zs.getD i 0)) := hci
     rw [List.getElem?_drop,Array.getElem?_toList,hci]
     congr 2
     simp [List.getD_eq_getElem?_getD,hi]
    | _ => rw [hh] at hc0; cases hc0
  ·intro W' hold sp hsp
   refine ⟨2,?_⟩
   have hpos : 0 < zs.length -> sp a.block = true := fun h => hsp (.cell a.block a.off) (MemPlace.mem_row.2 ⟨0,h,by simp⟩)
   refine shut_ints (base := 0) 0 hb he hc (Nat.zero_le _) hl hm ?_ (fun i hi => ?_) hwz
   ·rcases Nat.eq_zero_or_pos zs.length with h | h
    ·split <;> omega
    ·rw [hpos h,if_pos rfl]; exact hz
   ·rw [cell_old hold (by rw [add_block]; exact hblock (by omega))]
    exact hcell i hi
end
theorem law_two {P : Program} {C : Cfg} {pr : Rcall} (T : TyOK P C) (hcode : codesOk C.fns = true) (hdraws : drawsOk C C.fns = true) (hp : Good P true Solo C pr) {f : FuncId} {fn : Func} {tb te ts e t : TypeId} {fs : Array Field}
  (hlaw : ∀ (a : List Int) (o : List I5'),(∀ b ∈ a,0 <= b ∧ b < 256) -> o.length <= maxLen -> D C pr f sTwo (a,o) = some true)
  (hb : P.underlying tb = some (.slice te)) (hbe : P.underlying te = some (.int .u8)) (hc : P.cellsOf te = 1)
  (hs : P.underlying ts = some (.slice e)) (he : P.underlying e = some (.struct fs)) (hn : P.cellsOf e = 5)
  (hf : ∀ j,j < 5 -> ∃ f,fs[j]? = some f ∧ f.offset = j ∧ P.cellsOf f.type = 1 ∧ P.underlying f.type = some (.int .i64)) (hz : fs.size = 5)
  (ht : P.underlying t = some .bool) (hpar : fn.params = #[tb,ts]) (hres : fn.resultTypes = #[t])
  {s : ChangeSpec} (hvars : s.vars = []) (hfn : ∀ (H : Type) (d1 d2 : DataW H),s.fn H [d1,d2] = { results := [.lit (.bool true)],args := [d1,d2] })
  {H : Type} (enc : TypeId × Value -> H) (W : World) (base : Nat) (args : Array Value) (ds gs : List (DataW H)) (before : List MemPlace)
  (hval : ∀ (j : Nat) t v,fn.params[j]? = some t -> args[j]? = some v -> Value.okWide P W .any base t v)
  (hW : DataW.Whole enc P fn.params.toList s.vars false W args.toList ds gs before) :
  Calls P f args W fun e W' => ∃ v,e = .returned v ∧ s.post enc P fn false true false false W args v W' := by
 have hW0 := hW
 obtain ⟨p,q,hA,hV,rfl,hfz,hnd⟩ := hW
 rw [hpar] at hA hval
 obtain ⟨v0,vs0,d0,ds0,p0,q0,hargs,rfl,rfl,h0,r0⟩ := trodAll_cons hA
 obtain ⟨v1,vs1,d1,ds1,p1,q1,rfl,rfl,rfl,h1,r1⟩ := trodAll_cons r0
 obtain ⟨rfl,rfl,rfl⟩ := trodAll_nil r1
 obtain rfl : args = #[v0,v1] := by cases args; simp_all
 rw [hvars] at hV
 obtain ⟨rfl,rfl⟩ := trodVars_none hV
 obtain ⟨a,ha,sa,ka⟩ := arg_bytes hb hbe hc (hval 0 tb v0 rfl rfl) h0
 obtain ⟨o,lo,so,ko⟩ := arg_ops hs he hn hf hz (hval 1 ts v1 rfl rfl) h1
 refine calls_of (P := P) T hcode hdraws hp (s := sTwo) (a := (a,o)) (hlaw a o ha lo) (vals := [v0,v1]) (w := W) rfl rfl ?_ ?_
 ·show VRs (outE W) [AV.ro u8s a [foreign],AV.ro i5s o [foreign]] [v0,v1]
  unfold VRs
  refine ⟨_,_,rfl,?_,?_⟩
  ·unfold VR; exact sa _
  ·unfold VRs
   refine ⟨_,[],rfl,?_,?_⟩
   ·unfold VR; exact so _
   ·unfold VRs; rfl
 ·intro ow E st vs v hok _ _ hfin hv hos hout
  have hvs := fin_two hfin
  subst hvs
  have hv : VR E (.bool true) v := hv
  unfold VR at hv
  subst hv
  have hold : ∀ b,b < W.heap.size -> E.w.heap[b]? = W.heap[b]? := fun b hb => (hok.kept b hb).2.1
  refine ⟨_,rfl,post_of_old (pa := p0 ++ (p1 ++ [])) (pv := []) hW0 ?_ ?_ ?_ rfl hos hout hold ?_⟩
  ·intro b sp hd
   rw [hres,List.append_nil,hfn]
   exact trodAll_cons_mk (shut_bool ht _) trodAll_mk0
  ·intro sp hsp
   rw [hpar,List.append_nil,hfn]
   exact trodAll_cons_mk (ka E.w hold sp fun q hq => hsp q (by simp [hq])) (trodAll_cons_mk (ko E.w hold sp fun q hq => hsp q (by simp [hq])) trodAll_mk0)
  ·intro sp hsp
   rw [hvars,List.append_nil,hfn]
   rfl
  ·rw [show fn.resultTypes.size = 1 by rw [hres]; rfl]
   have := ok_one (P := P) (W' := E.w) (f := fn) (v := .bool true) hres rfl (okWide_bool_mk ht true)
   rw [show fn.resultTypes.size = 1 by rw [hres]; rfl] at this
   exact this
end Go.E
end
