/- Cuts, moved slices, states, further. -/
import Derived.Test.YtmceeioelenigaaGreatEf
section
namespace Go.E
section
variable {X : Ctx} {o : Ow} {E E1 Ec : Env} {mv : List Nat} {ay : Nat}
def Keys (l : bD) (A : Nat -> Prop) : Prop := (l.map (·.1)).Nodup ∧ ∀ q ∈ l,A q.1
theorem Keys.nil {A : Nat -> Prop} : Keys [] A := ⟨List.nodup_nil,fun _ h => (by cases h)⟩
theorem Keys.mono {l : bD} {A B : Nat -> Prop} (h : Keys l A) (k : ∀ i,A i -> B i) : Keys l B := ⟨h.1,fun q hq => k _ (h.2 q hq)⟩
theorem Keys.app {l l' : bD} {A B : Nat -> Prop} (h : Keys l A) (h' : Keys l' B) (hd : ∀ i,A i -> ¬ B i) : Keys (l ++ l') fun i => A i ∨ B i := by
 refine ⟨?_,fun q hq => (List.mem_append.1 hq).elim (fun x => .inl (h.2 q x)) fun x => .inr (h'.2 q x)⟩
 rw [List.map_append,List.nodup_append]
 refine ⟨h.1,h'.1,fun a ha b hb e => ?_⟩
 obtain ⟨q,hq,rfl⟩ := List.mem_map.1 ha
 obtain ⟨q',hq',rfl⟩ := List.mem_map.1 hb
 exact hd _ (h.2 q hq) (by rw [e]; exact h'.2 q' hq')
theorem Keys.one {i : Nat} {a : AO} {A : Nat -> Prop} (h : A i) : Keys [(i,a)] A := ⟨by simp,fun q hq => by obtain rfl := List.mem_singleton.1 hq; exact h⟩
theorem Bh : ∀ {l : bD} {q : Nat × AO},(l.map (·.1)).Nodup -> q ∈ l -> look l q.1 = some q.2
 | (i,a) :: r,q,hn,hq => by
  rw [List.map_cons,List.nodup_cons] at hn
  rcases List.mem_cons.1 hq with e | hq
  ·subst e; exact dn _ _ _
  ·have : i ≠ q.1 := fun e => hn.1 (by rw [e]; exact List.mem_map.2 ⟨q,hq,rfl⟩)
   rw [fC _ _ this]
   exact Bh hn.2 hq
theorem uH {A : Nat -> Prop} : ∀ {l : bD} {i : Nat},(∀ q ∈ l,A q.1) -> ¬ A i -> look l i = none
 | [],_,_,_ => rfl
 | (j,a) :: r,i,h,hi => by
  have : j ≠ i := fun e => hi (by rw [<- e]; exact h (j,a) List.mem_cons_self)
  rw [fC _ _ this]
  exact uH (fun q hq => h q (List.mem_cons_of_mem _ hq)) hi
theorem l7 (m : Md) (t : CT) (d : t.D) (n : Nat) : n <= (fQ m t d n).2.2 ∧ Keys (fQ m t d n).2.1 fun i => n <= i ∧ i < (fQ m t d n).2.2 := by
 cases t with
 | sl ts =>
  cases m with
  | mv => exact ⟨Nat.le_succ n,Keys.one ⟨Nat.le_refl _,Nat.lt_succ_self n⟩⟩
  | ro => exact ⟨Nat.le_refl n,Keys.nil⟩
  | leak => exact ⟨Nat.le_refl n,Keys.nil⟩
 | _ => cases m <;> exact ⟨Nat.le_refl n,Keys.nil⟩
theorem OM {t : CT} {ts : cZ} {ms : List Md} (ht : jL t = true) : ∃ m ms',∀ (d : (cZ.cons t ts).D) (n : Nat),dK (.cons t ts) ms d n =
  ((fQ m t d.1 n).1 :: (dK ts ms' d.2 (fQ m t d.1 n).2.2).1,(dK ts ms' d.2 (fQ m t d.1 n).2.2).2.1 ++ (fQ m t d.1 n).2.1,(dK ts ms' d.2 (fQ m t d.1 n).2.2).2.2) := by
 cases ms with
 | nil => exact ⟨.ro,[],fun d n => by show (bif jL t then _ else _) = _; rw [ht]; rfl⟩
 | cons m ms' => exact ⟨m,ms',fun d n => by show (bif jL t then _ else _) = _; rw [ht]; rfl⟩
theorem jB : ∀ (ts : cZ) (ms : List Md) (d : ts.D) (n : Nat),n <= (dK ts ms d n).2.2 ∧ Keys (dK ts ms d n).2.1 fun i => n <= i ∧ i < (dK ts ms d n).2.2
 | .one t,ms,d,n => l7 _ t d n
 | .cons t ts,ms,d,n => by
  cases ht : jL t with
  | false =>
   have e : dK (.cons t ts) ms d n = (t.av d.1 :: (dK ts ms d.2 n).1,(dK ts ms d.2 n).2.1,(dK ts ms d.2 n).2.2) := by
    show (bif jL t then _ else _) = _
    rw [ht]; rfl
   rw [e]
   exact jB ts ms d.2 n
  | true =>
   obtain ⟨m,ms',e⟩ := OM (ts := ts) (ms := ms) ht
   rw [e]
   obtain ⟨a1,a2⟩ := l7 m t d.1 n
   obtain ⟨b1,b2⟩ := jB ts ms' d.2 (fQ m t d.1 n).2.2
   refine ⟨Nat.le_trans a1 b1,(b2.app a2 fun i hi hi' => ?_).mono fun i hi => ?_⟩
   ·omega
   ·dsimp only at hi ⊢; omega
theorem Fh (p : PT) (d : p.sh.D) (b n : Nat) : n <= (eY p d b n).2.2 ∧ (b < n -> Keys (eY p d b n).2.1 fun i => (fB p = true ∧ i = b) ∨ (n <= i ∧ i < (eY p d b n).2.2)) := by
 match p,d with
 | ⟨.one t,ms⟩,d => exact ⟨(l7 _ t d n).1,fun _ => (l7 _ t d n).2.mono fun i => .inr⟩
 | ⟨.agg ts,ms⟩,d => exact ⟨(jB ts ms d n).1,fun _ => (jB ts ms d n).2.mono fun i => .inr⟩
 | ⟨.pz,ms⟩,d => exact ⟨Nat.le_refl n,fun _ => Keys.nil⟩
 | ⟨.st ts,ms⟩,d =>
  refine ⟨(jB ts ms d n).1,fun hb => ?_⟩
  refine ((Keys.one (i := b) (a := .box (dK ts ms d n).1) (A := fun i => fB ⟨.st ts,ms⟩ = true ∧ i = b) ⟨rfl,rfl⟩).app (jB ts ms d n).2 fun i hi hi' => ?_)
  omega
theorem Fj : ∀ (ps : List PT) (d : FX ps) (b n : Nat),n <= (gI ps d b n).2.2 ∧ (b + jf ps <= n -> Keys (gI ps d b n).2.1 fun i => (b <= i ∧ i < b + jf ps) ∨ (n <= i ∧ i < (gI ps d b n).2.2))
 | [],d,b,n => ⟨Nat.le_refl n,fun _ => Keys.nil⟩
 | [p],d,b,n => by
  obtain ⟨k1,k2⟩ := Fh p d b n
  refine ⟨k1,fun hb => ?_⟩
  cases hp : fB p with
  | true =>
   have e : jf [p] = 1 := by show (bif fB p then 0 + 1 else 0) = 1; rw [hp]; rfl
   rw [e] at hb ⊢
   exact (k2 (by omega)).mono fun i hi => by
    show _ ∨ (n <= i ∧ i < (eY p d b n).2.2)
    omega
  | false =>
   have : Keys (eY p d b n).2.1 fun i => (n <= i ∧ i < (eY p d b n).2.2) := by
    match p,d,hp with
    | ⟨.one t,ms⟩,d,_ => exact (l7 _ t d n).2
    | ⟨.agg ts,ms⟩,d,_ => exact (jB ts ms d n).2
    | ⟨.pz,ms⟩,d,_ => exact Keys.nil
   exact this.mono fun i => .inr
 | p :: q :: r,d,b,n => by
  have e : gI (p :: q :: r) d b n = ((eY p d.1 b n).1 :: (gI (q :: r) d.2 (bif fB p then b + 1 else b) (eY p d.1 b n).2.2).1,(gI (q :: r) d.2 (bif fB p then b + 1 else b) (eY p d.1 b n).2.2).2.1 ++ (eY p d.1 b n).2.1,
   (gI (q :: r) d.2 (bif fB p then b + 1 else b) (eY p d.1 b n).2.2).2.2) := rfl
  obtain ⟨k1,k2⟩ := Fh p d.1 b n
  obtain ⟨g1,g2⟩ := Fj (q :: r) d.2 (bif fB p then b + 1 else b) (eY p d.1 b n).2.2
  cases hp : fB p with
  | true =>
   have hb' : (bif fB p then b + 1 else b) = b + 1 := by rw [hp]; rfl
   rw [hb'] at e g1 g2
   rw [e]
   refine ⟨Nat.le_trans k1 g1,fun hb => ?_⟩
   have e : jf (p :: q :: r) = jf (q :: r) + 1 := by show (bif fB p then jf (q :: r) + 1 else jf (q :: r)) = _; rw [hp]; rfl
   rw [e] at hb ⊢
   refine ((g2 (by omega)).app (k2 (by omega)) fun i hi hi' => ?_).mono fun i hi => ?_
   ·omega
   ·dsimp only at hi ⊢; omega
  | false =>
   have hb' : (bif fB p then b + 1 else b) = b := by rw [hp]; rfl
   rw [hb'] at e g1 g2
   rw [e]
   refine ⟨Nat.le_trans k1 g1,fun hb => ?_⟩
   have e : jf (p :: q :: r) = jf (q :: r) := by show (bif fB p then jf (q :: r) + 1 else jf (q :: r)) = _; rw [hp]; rfl
   rw [e] at hb ⊢
   have k2 : Keys (eY p d.1 b n).2.1 fun i => (n <= i ∧ i < (eY p d.1 b n).2.2) := by
    match p,d,hp with
    | ⟨.one t,ms⟩,d,_ => exact (l7 _ t d.1 n).2
    | ⟨.agg ts,ms⟩,d,_ => exact (jB ts ms d.1 n).2
    | ⟨.pz,ms⟩,d,_ => exact Keys.nil
   refine ((g2 (by omega)).app k2 fun i hi hi' => ?_).mono fun i hi => ?_
   ·omega
   ·dsimp only at hi ⊢; omega
end
end Go.E
end
section
namespace Go.E
section
variable {X : Ctx} {o : Ow} {E E1 Ec : Env} {mv : List Nat} {ay : Nat}
def jF (O : bD) : PT -> AV -> List (Option Nat)
 | ⟨.one t,ms⟩,x => bQ [t] ms [x]
 | ⟨.agg ts,ms⟩,.agg cs => bQ ts.list ms cs
 | ⟨.st ts,ms⟩,.ptr id _ => match look O id with
  | some (.box cs) => bQ ts.list ms cs
  | _ => []
 | _,_ => []
def jg (O : bD) : List PT -> List AV -> List (Option Nat)
 | p :: ps,x :: xs => jF O p x ++ jg O ps xs
 | _,_ => []
theorem wO {O : bD} : ∀ {l : List Nat} {es : List Eff} {i : Nat},lC O l = some es -> bC i es = true -> i ∈ l
 | [],es,i,h,hi => by cases h; cases hi
 | id :: r,es,i,h,hi => by
  unfold lC at h
  split at h
  ·rename_i ts rows wr l h1 h2
   cases h
   have hi : (Nat.beq id i || bC i l) = true := hi
   simp only [Bool.or_eq_true] at hi
   rcases hi with hi | hi
   ·rw [Nat.eq_of_beq_eq_true hi]; exact List.mem_cons_self
   ·exact List.mem_cons_of_mem _ (wO h2 hi)
  ·cases h
theorem Fp {O : bD} {ts : cZ} {m : Md} {x : AV} {d : List ts.D} {es : List Eff} {mo us : List Nat} (hd : CT.je O (.sl ts) x = some d) (hu : sD m O x = some (es,mo,us)) :
  Lets O es mo ∧ mo = (dU m (.sl ts) x).filterMap id ∧ ∀ i,bC i es = true -> i ∈ us := by
 cases m with
 | ro =>
  rcases oK hd with ⟨rfl,rfl⟩ | ⟨deps,rfl⟩ | ⟨id,wr,rfl,hl⟩ <;> (cases hu; exact ⟨.nil,rfl,fun i hi => (by cases hi)⟩)
 | leak =>
  unfold sD at hu
  obtain ⟨e,he,hq⟩ := Option.map_eq_some_iff.1 hu
  cases hq
  refine ⟨(wC he).1.lets,rfl,fun i hi => ?_⟩
  rcases oK hd with ⟨rfl,rfl⟩ | ⟨deps,rfl⟩ | ⟨id,wr,rfl,hl⟩
  ·cases he; cases hi
  ·exact wO he hi
  ·exact wO he hi
 | mv =>
  rcases oK hd with ⟨rfl,rfl⟩ | ⟨deps,rfl⟩ | ⟨id,wr,rfl,hl⟩
  ·cases hu; exact ⟨.nil,rfl,fun i hi => (by cases hi)⟩
  ·cases hu
  ·cases hu; exact ⟨.gone hl .nil,rfl,fun i hi => (by cases hi)⟩
theorem oN {O : bD} : ∀ (ts : cZ) (ms : List Md) (xs : List AV) (d : ts.D) {es : List Eff} {mo us : List Nat},ts.iC O xs = some d -> gX O ts.list ms xs = some (es,mo,us) ->
  Lets O es mo ∧ mo = (bQ ts.list ms xs).filterMap id ∧ ∀ i,bC i es = true -> i ∈ us
 | .one t,ms,xs,d,es,mo,us,hd,hu => by
  match xs,hd,hu with
  | [x],hd,hu =>
   have hd : t.je O x = some d := hd
   cases ht : jL t with
   | false =>
    have hu : (bif jL t then _ else some ([],[],[])) = some (es,mo,us) := hu
    have e2 : bQ [t] ms [x] = [] := by show (bif jL t then _ else _) = _; rw [ht]; rfl
    rw [ht] at hu
    cases hu
    show _ ∧ _ = (bQ [t] ms [x]).filterMap id ∧ _
    rw [e2]
    exact ⟨.nil,rfl,fun i hi => (by cases hi)⟩
   | true =>
    cases t with
    | sl ts =>
     cases ms with
     | nil => cases hu
     | cons m ms =>
      have hu : (match sD m O x,(some ([],[],[]) : Option (List Eff × List Nat × List Nat)) with | some (a,b,c),some (a',b',c') => some (a ++ a',b ++ b',c ++ c') | _,_ => none) = some (es,mo,us) := hu
      split at hu
      ·rename_i a b c a' b' c' QY e
       cases e
       cases hu
       obtain ⟨h1,h2,h3⟩ := Fp hd QY
       show _ ∧ _ = (dU m (.sl ts) x ++ []).filterMap id ∧ _
       simp only [List.append_nil]
       exact ⟨h1,h2,h3⟩
      ·cases hu
    | _ => cases ht
  | [],hd,_ => cases hd
  | x :: y :: r,hd,_ => cases hd
 | .cons t ts,ms,xs,d,es,mo,us,hd,hu => by
  match xs,hd,hu with
  | [],hd,_ => cases hd
  | x :: xs,hd,hu =>
   have hd : (match t.je O x,ts.iC O xs with | some d,some e => some (d,e) | _,_ => none) = some d := hd
   split at hd
   case h_2 => cases hd
   rename_i d1 d2 g1 g2
   cases hd
   cases ht : jL t with
   | false =>
    have e2 : bQ (t :: ts.list) ms (x :: xs) = bQ ts.list ms xs := by show (bif jL t then _ else _) = _; rw [ht]; rfl
    have hu : (bif jL t then _ else gX O ts.list ms xs) = some (es,mo,us) := hu
    rw [ht] at hu
    show _ ∧ _ = (bQ (t :: ts.list) ms (x :: xs)).filterMap id ∧ _
    rw [e2]
    exact oN ts ms xs d2 g2 hu
   | true =>
    cases t with
    | sl vX =>
     cases ms with
     | nil => cases hu
     | cons m ms =>
      have hu : (match sD m O x,gX O ts.list ms xs with | some (a,b,c),some (a',b',c') => some (a ++ a',b ++ b',c ++ c') | _,_ => none) = some (es,mo,us) := hu
      split at hu
      case h_2 => cases hu
      rename_i a b c a' b' c' QY hub
      cases hu
      obtain ⟨h1,h2,h3⟩ := Fp g1 QY
      obtain ⟨k1,k2,k3⟩ := oN ts ms xs d2 g2 hub
      refine ⟨h1.append k1,?_,fun i hi => ?_⟩
      ·show _ = (dU m (.sl vX) x ++ bQ ts.list ms xs).filterMap id
       rw [List.filterMap_append, <- h2, <- k2]
      ·rw [gZ,Bool.or_eq_true] at hi
       exact List.mem_append.2 (hi.imp (h3 i) (k3 i))
    | _ => cases ht
structure Xa (O : bD) (p : PT) (x : AV) (es : List Eff) (mo us bs : List Nat) : Prop where
 lets : Lets O es mo
 src : mo = (jF O p x).filterMap id
 used : ∀ i,bC i es = true -> i ∈ us
 boxes : (fB p = false ∧ bs = []) ∨ (fB p = true ∧ ∃ id cs,bs = [id] ∧ look O id = some (.box cs))
theorem rM {O : bD} {p : PT} {x : AV} {d : p.sh.D} {es : List Eff} {mo us bs : List Nat} (hg : getArg O p x = some (d,es,mo,us,bs)) : Xa O p x es mo us bs := by
 match p,d,hg with
 | ⟨.one t,ms⟩,d,hg =>
  have hg : (match t.je O x,gX O [t] ms [x] with | some d,some (a,b,c) => some (d,a,b,c,([] : List Nat)) | _,_ => none) = some (d,es,mo,us,bs) := hg
  split at hg
  ·rename_i d' a b c h1 h2
   cases hg
   obtain ⟨k1,k2,k3⟩ := oN (.one t) ms [x] d h1 h2
   exact ⟨k1,k2,k3,.inl ⟨rfl,rfl⟩⟩
  ·cases hg
 | ⟨.agg ts,ms⟩,d,hg =>
  cases x with
  | agg cs =>
   have hg : (match ts.iC O cs,gX O ts.list ms cs with | some d,some (a,b,c) => some (d,a,b,c,([] : List Nat)) | _,_ => none) = some (d,es,mo,us,bs) := hg
   split at hg
   ·rename_i d' a b c h1 h2
    cases hg
    obtain ⟨k1,k2,k3⟩ := oN ts ms cs d h1 h2
    exact ⟨k1,k2,k3,.inl ⟨rfl,rfl⟩⟩
   ·cases hg
  | _ => cases hg
 | ⟨.pz,ms⟩,d,hg =>
  cases x with
  | agg cs =>
   cases cs with
   | nil => cases hg; exact ⟨.nil,rfl,fun i hi => (by cases hi),.inl ⟨rfl,rfl⟩⟩
   | cons _ _ => cases hg
  | _ => cases hg
 | ⟨.st ts,ms⟩,d,hg =>
  cases x with
  | ptr id off =>
   cases off with
   | succ _ => cases hg
   | zero =>
    have hg : (match look O id with
     | some (.box cs) => match ts.iC O cs,gX O ts.list ms cs with
      | some d,some (a,b,c) => some (d,a,b,c,[id])
      | _,_ => none
     | _ => none) = some (d,es,mo,us,bs) := hg
    split at hg
    ·rename_i cs hl
     split at hg
     ·rename_i d' a b c h1 h2
      cases hg
      obtain ⟨k1,k2,k3⟩ := oN ts ms cs d h1 h2
      refine ⟨k1,?_,k3,.inr ⟨rfl,id,cs,rfl,hl⟩⟩
      show _ = (match look O id with | some (.box cs) => bQ ts.list ms cs | _ => []).filterMap _
      rw [hl]; exact k2
     ·cases hg
    ·cases hg
  | _ => cases hg
theorem QZ {t : CT} {ms : List Md} {d : t.D} {b n : Nat} : dK (.one t) ms d n = ([(eY ⟨.one t,ms⟩ d b n).1],(eY ⟨.one t,ms⟩ d b n).2.1,(eY ⟨.one t,ms⟩ d b n).2.2) := by
 cases ms <;> rfl
theorem OO (h : OK X o E ay) (L : QX E E1 Ec mv) {p : PT} {x : AV} {d : p.sh.D} {v : Value} {b n : Nat} {es : List Eff} {mo us bs : List Nat} (hg : getArg E.O p x = some (d,es,mo,us,bs)) (hv : VR E x v) (hus : ∀ i ∈ us,i ∉ mv) (hsh : oM E E1 es)
  (gB : ∀ q ∈ (eY p d b n).2.1,look Ec.O q.1 = some q.2) (hρ : ∀ k q,(jF E.O p x)[k]? = some q -> Ec.ρ (n + k) = qO E q) (hb : ∀ id ∈ bs,Ec.ρ b = E.ρ id) :
  VR Ec (eY p d b n).1 v ∧ (∀ q ∈ (eY p d b n).2.1,fE Ec q.1 q.2) ∧ (eY p d b n).2.2 = n + (jF E.O p x).length := by
 match p,d,hg,gB,hρ with
 | ⟨.one t,ms⟩,d,hg,gB,hρ =>
  have hg : (match t.je E.O x,gX E.O [t] ms [x] with | some d,some (a,b,c) => some (d,a,b,c,([] : List Nat)) | _,_ => none) = some (d,es,mo,us,bs) := hg
  split at hg
  ·rename_i d' a b c h1 h2
   cases hg
   have e := QZ (ms := ms) (d := d) (b := b) (n := n)
   have k := tH (Ec := Ec) h L (.one t) ms [x] d [v] n h1 (by unfold dw; exact ⟨v,[],rfl,hv,by unfold dw; rfl⟩) h2 hus hsh
   rw [e] at k
   obtain ⟨k1,k2,k3⟩ := k gB hρ
   refine ⟨?_,k2,k3⟩
   have k1 : dw Ec [(eY ⟨.one t,ms⟩ d b n).1] [v] := k1
   unfold dw at k1
   obtain ⟨u,r,e,k1,_⟩ := k1
   cases e
   exact k1
  ·cases hg
 | ⟨.agg ts,ms⟩,d,hg,gB,hρ =>
  cases x with
  | agg cs =>
   have hg : (match ts.iC E.O cs,gX E.O ts.list ms cs with | some d,some (a,b,c) => some (d,a,b,c,([] : List Nat)) | _,_ => none) = some (d,es,mo,us,bs) := hg
   split at hg
   ·rename_i d' a b c h1 h2
    cases hg
    unfold VR at hv
    obtain ⟨l,rfl,hv⟩ := hv
    obtain ⟨k1,k2,k3⟩ := tH h L ts ms cs d l n h1 hv h2 hus hsh gB hρ
    refine ⟨?_,k2,k3⟩
    show VR Ec (.agg (dK ts ms d n).1) _
    unfold VR; exact ⟨l,rfl,k1⟩
   ·cases hg
  | _ => cases hg
 | ⟨.pz,ms⟩,d,hg,gB,hρ =>
  cases x with
  | agg cs =>
   cases cs with
   | nil =>
    cases hg
    refine ⟨?_,fun q hq => (by cases hq),rfl⟩
    show VR Ec (.agg []) v
    unfold VR at hv ⊢
    obtain ⟨l,rfl,hv⟩ := hv
    refine ⟨l,rfl,?_⟩
    unfold dw at hv ⊢; exact hv
   | cons _ _ => cases hg
  | _ => cases hg
 | ⟨.st ts,ms⟩,d,hg,gB,hρ =>
  cases x with
  | ptr id off =>
   cases off with
   | succ _ => cases hg
   | zero =>
    have hg : (match look E.O id with
     | some (.box cs) => match ts.iC E.O cs,gX E.O ts.list ms cs with
      | some d,some (a,b,c) => some (d,a,b,c,[id])
      | _,_ => none
     | _ => none) = some (d,es,mo,us,bs) := hg
    split at hg
    ·rename_i cs hl
     split at hg
     ·rename_i d' a b' c h1 h2
      cases hg
      have hb := hb id List.mem_cons_self
      unfold VR at hv
      obtain ⟨cs',blk,e1,e2,e3⟩ := hv
      rw [hl] at e1; cases e1
      obtain ⟨blk',c',t',f',q1,q2,q3,q4⟩ := h.obj id _ hl
      rw [e2] at q1; cases q1
      have hs : jF E.O ⟨.st ts,ms⟩ (.ptr id 0) = bQ ts.list ms cs := by
       show (match look E.O id with | some (.box cs) => bQ ts.list ms cs | _ => []) = _
       rw [hl]
      rw [hs] at hρ ⊢
      obtain ⟨k1,k2,k3⟩ := tH h L ts ms cs d c'.toList n h1 q4 h2 hus hsh (fun q hq => gB q (List.mem_cons_of_mem _ hq)) hρ
      refine ⟨?_,fun q hq => ?_,k3⟩
      ·show VR Ec (.ptr b 0) v
       unfold VR
       exact ⟨_,blk,gB (b,.box (dK ts ms d n).1) List.mem_cons_self,by rw [hb]; exact e2,e3⟩
      ·rcases List.mem_cons.1 hq with e | hq
       ·subst e
        exact ⟨blk,c',t',f',by rw [hb]; exact e2,by rw [L.w]; exact q2,q3,k1⟩
       ·exact k2 q hq
     ·cases hg
    ·cases hg
  | _ => cases hg
end
end Go.E
end
section
namespace Go.E
section
variable {X : Ctx} {o : Ow} {E E1 Ec : Env} {mv : List Nat} {ay : Nat}
theorem nodup_iff : ∀ {l : List Nat},nodup l = true ↔ l.Nodup
 | [] => by simp [nodup]
 | x :: r => by
  unfold nodup
  rw [Bool.and_eq_true,List.nodup_cons,nodup_iff (l := r),Bool.not_eq_true']
  constructor
  ·rintro ⟨a,b⟩; exact ⟨fun h => (by rw [dZ.2 h] at a; cases a),b⟩
  ·rintro ⟨a,b⟩
   refine ⟨?_,b⟩
   cases h : dJ x r with
   | false => rfl
   | true => exact absurd (dZ.1 h) a
theorem zJ : ∀ {a b : List Nat},apart a b = true -> ∀ i ∈ a,i ∉ b
 | x :: r,b,h,i,hi => by
  unfold apart at h
  rw [Bool.and_eq_true,Bool.not_eq_true'] at h
  rcases List.mem_cons.1 hi with e | hi
  ·subst e; intro hb; rw [dZ.2 hb] at h; cases h.1
  ·exact zJ h.2 i hi
structure U4 (O : bD) (ps : List PT) (xs : List AV) (es : List Eff) (mo us bs : List Nat) : Prop where
 lets : Lets O es mo
 src : mo = (jg O ps xs).filterMap id
 used : ∀ i,bC i es = true -> i ∈ us
 boxes : ∀ id ∈ bs,∃ cs,look O id = some (.box cs)
 len : bs.length = jf ps
theorem qg {O : bD} : ∀ (ps : List PT) (xs : List AV) (d : FX ps) {es : List Eff} {mo us bs : List Nat},getArgs O ps xs = some (d,es,mo,us,bs) -> U4 O ps xs es mo us bs
 | [],[],d,es,mo,us,bs,h => by cases h; exact ⟨.nil,rfl,fun i hi => (by cases hi),fun i hi => (by cases hi),rfl⟩
 | [p],[x],d,es,mo,us,bs,h => by
  obtain ⟨k1,k2,k3,k4⟩ := rM (p := p) (d := d) h
  refine ⟨k1,?_,k3,?_,?_⟩
  ·show _ = (jF O p x ++ []).filterMap _
   rw [List.append_nil]; exact k2
  ·rcases k4 with ⟨_,rfl⟩ | ⟨_,id,cs,rfl,hl⟩
   ·intro i hi; cases hi
   ·intro i hi; obtain rfl := List.mem_singleton.1 hi; exact ⟨cs,hl⟩
  ·show _ = (bif fB p then 0 + 1 else 0)
   rcases k4 with ⟨e,rfl⟩ | ⟨e,id,cs,rfl,hl⟩ <;> rw [e] <;> rfl
 | p :: q :: r,x :: y :: xs,d,es,mo,us,bs,h => by
  have h : (match getArg O p x,getArgs O (q :: r) (y :: xs) with
   | some (d,a,b,c,e),some (d',a',b',c',e') => some ((d,d'),a ++ a',b ++ b',c ++ c',e ++ e')
   | _,_ => none) = some (d,es,mo,us,bs) := h
  split at h
  ·rename_i d1 a b c e d2 a' b' c' e' h1 h2
   cases h
   obtain ⟨k1,k2,k3,k4⟩ := rM h1
   obtain ⟨g1,g2,g3,g4,g5⟩ := qg (q :: r) (y :: xs) d2 h2
   refine ⟨k1.append g1,?_,fun i hi => ?_,fun i hi => ?_,?_⟩
   ·show _ = (jF O p x ++ jg O (q :: r) (y :: xs)).filterMap _
    rw [List.filterMap_append, <- k2, <- g2]
   ·rw [gZ,Bool.or_eq_true] at hi
    exact List.mem_append.2 (hi.imp (k3 i) (g3 i))
   ·rcases List.mem_append.1 hi with hi | hi
    ·rcases k4 with ⟨_,rfl⟩ | ⟨_,id,cs,rfl,hl⟩
     ·cases hi
     ·obtain rfl := List.mem_singleton.1 hi; exact ⟨cs,hl⟩
    ·exact g4 i hi
   ·show _ = (bif fB p then jf (q :: r) + 1 else jf (q :: r))
    rw [List.length_append,g5]
    rcases k4 with ⟨e,rfl⟩ | ⟨e,id,cs,rfl,hl⟩ <;> rw [e]
    ·exact Nat.zero_add _
    ·exact Nat.add_comm _ _
  ·cases h
 | [],_ :: _,d,es,mo,us,bs,h => by cases h
 | [_],[],d,es,mo,us,bs,h => by cases h
 | [_],_ :: _ :: _,d,es,mo,us,bs,h => by cases h
 | _ :: _ :: _,[],d,es,mo,us,bs,h => by cases h
 | _ :: _ :: _,[_],d,es,mo,us,bs,h => by cases h
theorem OQ (h : OK X o E ay) (L : QX E E1 Ec mv) : ∀ (ps : List PT) (xs : List AV) (d : FX ps) (l : List Value) (b n : Nat) {es : List Eff} {mo us bs : List Nat},getArgs E.O ps xs = some (d,es,mo,us,bs) -> dw E xs l -> (∀ i ∈ us,i ∉ mv) -> oM E E1 es ->
  (∀ q ∈ (gI ps d b n).2.1,look Ec.O q.1 = some q.2) -> (∀ k q,(jg E.O ps xs)[k]? = some q -> Ec.ρ (n + k) = qO E q) -> (∀ k id,bs[k]? = some id -> Ec.ρ (b + k) = E.ρ id) ->
  dw Ec (gI ps d b n).1 l ∧ (∀ q ∈ (gI ps d b n).2.1,fE Ec q.1 q.2) ∧ (gI ps d b n).2.2 = n + (jg E.O ps xs).length
 | [],[],d,l,b,n,es,mo,us,bs,hg,hv,hus,hsh,gB,hρ,hb => by
  refine ⟨?_,fun q hq => (by cases hq),rfl⟩
  show dw Ec [] l
  unfold dw at hv ⊢; exact hv
 | [p],[x],d,l,b,n,es,mo,us,bs,hg,hv,hus,hsh,gB,hρ,hb => by
  unfold dw at hv
  obtain ⟨v,q,rfl,h1,h2⟩ := hv
  unfold dw at h2; subst h2
  obtain ⟨k1,k2,k3⟩ := OO (p := p) (d := d) (b := b) (n := n) h L hg h1 hus hsh gB (fun k q hq => hρ k q (by show (jF E.O p x ++ [])[k]? = _; rw [List.append_nil]; exact hq)) fun id hid => by
   obtain ⟨k,hk⟩ := List.getElem?_of_mem hid
   have hk0 : k = 0 := by
    rcases (rM (p := p) (d := d) hg).boxes with ⟨_,rfl⟩ | ⟨_,id,cs,rfl,hl⟩
    ·simp at hk
    ·cases k with
     | zero => rfl
     | succ k => simp at hk
   subst hk0
   exact hb 0 id hk
  refine ⟨?_,k2,?_⟩
  ·show dw Ec [(eY p d b n).1] [v]
   unfold dw; exact ⟨v,[],rfl,k1,by unfold dw; rfl⟩
  ·show (eY p d b n).2.2 = n + (jF E.O p x ++ []).length
   rw [List.append_nil]; exact k3
 | p :: q :: r,x :: y :: xs,d,l,b,n,es,mo,us,bs,hg,hv,hus,hsh,gB,hρ,hb => by
  have hg : (match getArg E.O p x,getArgs E.O (q :: r) (y :: xs) with
   | some (d,a,b,c,e),some (d',a',b',c',e') => some ((d,d'),a ++ a',b ++ b',c ++ c',e ++ e')
   | _,_ => none) = some (d,es,mo,us,bs) := hg
  split at hg
  ·rename_i d1 a bb c e d2 a' b' c' e' h1 h2
   cases hg
   unfold dw at hv
   obtain ⟨v,vr,rfl,v1,v2⟩ := hv
   have hx : gI (p :: q :: r) (d1,d2) b n = ((eY p d1 b n).1 :: (gI (q :: r) d2 (bif fB p then b + 1 else b) (eY p d1 b n).2.2).1,(gI (q :: r) d2 (bif fB p then b + 1 else b) (eY p d1 b n).2.2).2.1 ++ (eY p d1 b n).2.1,
    (gI (q :: r) d2 (bif fB p then b + 1 else b) (eY p d1 b n).2.2).2.2) := rfl
   rw [hx] at gB ⊢
   have hs : jg E.O (p :: q :: r) (x :: y :: xs) = jF E.O p x ++ jg E.O (q :: r) (y :: xs) := rfl
   rw [hs] at hρ ⊢
   have bx := (rM h1).boxes
   obtain ⟨k1,k2,k3⟩ := OO (b := b) (n := n) h L h1 v1 (fun i hi => hus i (List.mem_append.2 (.inl hi))) hsh.left (fun q hq => gB q (List.mem_append.2 (.inr hq))) (fun k q' hq => hρ k q' (by
     rw [List.getElem?_append_left]
     ·exact hq
     ·rcases Nat.lt_or_ge k (jF E.O p x).length with y | y
      ·exact y
      ·rw [List.getElem?_eq_none y] at hq; cases hq)) fun id hid => by
    rcases bx with ⟨_,rfl⟩ | ⟨_,id',cs,rfl,hl⟩
    ·cases hid
    ·obtain rfl := List.mem_singleton.1 hid
     exact hb 0 id rfl
   obtain ⟨g1,g2,g3⟩ := OQ h L (q :: r) (y :: xs) d2 vr (bif fB p then b + 1 else b) (eY p d1 b n).2.2 h2 v2 (fun i hi => hus i (List.mem_append.2 (.inr hi))) hsh.right (fun q hq => gB q (List.mem_append.2 (.inl hq))) (fun k q' hq => by
     rw [k3,Nat.add_assoc]
     refine hρ _ q' ?_
     rw [List.getElem?_append_right (by omega),Nat.add_sub_cancel_left]; exact hq) fun k id hk => by
    rcases bx with ⟨e0,rfl⟩ | ⟨e0,id',cs,rfl,hl⟩
    ·rw [e0]; exact hb k id hk
    ·rw [e0]
     show Ec.ρ (b + 1 + k) = _
     rw [Nat.add_assoc,Nat.add_comm 1 k]
     exact hb (k + 1) id hk
   refine ⟨?_,fun q hq => (List.mem_append.1 hq).elim (g2 q) (k2 q),?_⟩
   ·unfold dw; exact ⟨v,vr,rfl,k1,g1⟩
   ·show (gI (q :: r) d2 _ (eY p d1 b n).2.2).2.2 = n + _
    rw [List.length_append, <- Nat.add_assoc, <- k3]; exact g3
  ·cases hg
 | [],_ :: _,d,l,b,n,es,mo,us,bs,hg,_,_,_,_,_,_ => by cases hg
 | [_],[],d,l,b,n,es,mo,us,bs,hg,_,_,_,_,_,_ => by cases hg
 | [_],_ :: _ :: _,d,l,b,n,es,mo,us,bs,hg,_,_,_,_,_,_ => by cases hg
 | _ :: _ :: _,[],d,l,b,n,es,mo,us,bs,hg,_,_,_,_,_,_ => by cases hg
 | _ :: _ :: _,[_],d,l,b,n,es,mo,us,bs,hg,_,_,_,_,_,_ => by cases hg
end
end Go.E
end
section
namespace Go.E
section
variable {X : Ctx} {o : Ow} {E : Env} {ay : Nat}
theorem Bj : ∀ (ps : List PT) (d : FX ps) (b n k : Nat),k < jf ps -> ∃ cs,(b + k,AO.box cs) ∈ (gI ps d b n).2.1
 | [],d,b,n,k,hk => by cases hk
 | [p],d,b,n,k,hk => by
  match p,d,hk with
  | ⟨.st ts,ms⟩,d,hk =>
   have hk : k < 0 + 1 := hk
   obtain rfl : k = 0 := by omega
   exact ⟨_,List.mem_cons_self⟩
  | ⟨.one t,ms⟩,d,hk => cases hk
  | ⟨.agg ts,ms⟩,d,hk => cases hk
  | ⟨.pz,ms⟩,d,hk => cases hk
 | p :: q :: r,d,b,n,k,hk => by
  have hx : (gI (p :: q :: r) d b n).2.1 = (gI (q :: r) d.2 (bif fB p then b + 1 else b) (eY p d.1 b n).2.2).2.1 ++ (eY p d.1 b n).2.1 := rfl
  rw [hx]
  cases hp : fB p with
  | false =>
   have hk : k < (bif fB p then jf (q :: r) + 1 else jf (q :: r)) := hk
   rw [hp] at hk
   obtain ⟨cs,h⟩ := Bj (q :: r) d.2 b (eY p d.1 b n).2.2 k hk
   exact ⟨cs,List.mem_append.2 (.inl h)⟩
  | true =>
   cases k with
   | zero =>
    match p,d,hp with
    | ⟨.st ts,ms⟩,d,_ => exact ⟨_,List.mem_append.2 (.inr List.mem_cons_self)⟩
   | succ k =>
    have hk : k + 1 < (bif fB p then jf (q :: r) + 1 else jf (q :: r)) := hk
    rw [hp] at hk
    obtain ⟨cs,h⟩ := Bj (q :: r) d.2 (b + 1) (eY p d.1 b n).2.2 k (Nat.lt_of_succ_lt_succ hk)
    refine ⟨cs,List.mem_append.2 (.inl ?_)⟩
    show (b + (k + 1),AO.box cs) ∈ _
    rw [show b + (k + 1) = b + 1 + k by omega]; exact h
theorem Lets.mem {O : bD} {es : List Eff} {mv : List Nat} (h : Lets O es mv) : ∀ id ∈ mv,∃ ts rows wr,look O id = some (.arr ts rows wr) := by
 induction h with
 | nil => intro i hi; cases hi
 | shut _ _ ih => exact ih
 | gone a _ ih =>
  intro i hi
  rcases List.mem_cons.1 hi with e | hi
  ·subst e; exact ⟨_,_,_,a⟩
  ·exact ih i hi
theorem Lets.sealed {O : bD} {es : List Eff} {mv : List Nat} (h : Lets O es mv) : ∀ i,bC i es = true -> ∃ ts rows wr,look O i = some (.arr ts rows wr) := by
 induction h with
 | nil => intro i hi; cases hi
 | @shut id _ _ _ r _ a _ ih =>
  intro i hi
  have hi : (Nat.beq id i || bC i r) = true := hi
  rw [Bool.or_eq_true] at hi
  rcases hi with hi | hi
  ·rw [<- Nat.eq_of_beq_eq_true hi]; exact ⟨_,_,_,a⟩
  ·exact ih i hi
 | gone a _ ih => exact ih
theorem LV : ∀ {l : List (Option Nat)} {a b i : Nat},(l.filterMap id).Nodup -> l[a]? = some (some i) -> l[b]? = some (some i) -> a = b
 | [],a,b,i,_,h,_ => by simp at h
 | x :: l,a,b,i,hn,ha,hb => by
  have mem : ∀ k,l[k]? = some (some i) -> i ∈ l.filterMap id := fun k hk => List.mem_filterMap.2 ⟨some i,List.mem_of_getElem? hk,rfl⟩
  cases a with
  | zero =>
   cases b with
   | zero => rfl
   | succ b =>
    obtain rfl : x = some i := by simpa using ha
    rw [List.filterMap_cons] at hn
    exact absurd (mem b (by simpa using hb)) (List.nodup_cons.1 hn).1
  | succ a =>
   cases b with
   | zero =>
    obtain rfl : x = some i := by simpa using hb
    rw [List.filterMap_cons] at hn
    exact absurd (mem a (by simpa using ha)) (List.nodup_cons.1 hn).1
   | succ b =>
    have hn' : (l.filterMap id).Nodup := by
     cases x with
     | none => exact hn
     | some y => rw [List.filterMap_cons] at hn; exact (List.nodup_cons.1 hn).2
    have ha : l[a]? = some (some i) := by simpa using ha
    have hb : l[b]? = some (some i) := by simpa using hb
    rw [LV hn' ha hb]
theorem filterMap_some (l : List Nat) : (l.map some).filterMap id = l := by
 induction l with
 | nil => rfl
 | cons a l ih => simp
def Q5 (E : Env) : List Nat -> Nat -> List (Nat × Nat)
 | [],_ => []
 | id :: r,n => (n,((E.ρ id).b).getD 0) :: Q5 E r (n + 1)
theorem Ip {E : Env} : ∀ (l : List Nat) (n : Nat),(Q5 E l n).map (·.1) = jE n l.length
 | [],n => rfl
 | id :: r,n => by show n :: (Q5 E r (n + 1)).map (·.1) = n :: jE (n + 1) r.length; rw [Ip r]
theorem OT {E : Env} : ∀ (l : List Nat) (n : Nat) (q : Nat × Nat),q ∈ Q5 E l n -> ∃ k id,l[k]? = some id ∧ q.1 = n + k ∧ q.2 = ((E.ρ id).b).getD 0
 | id :: r,n,q,h => by
  rcases List.mem_cons.1 h with e | h
  ·subst e; exact ⟨0,id,rfl,rfl,rfl⟩
  ·obtain ⟨k,id',h1,h2,h3⟩ := OT r (n + 1) q h
   exact ⟨k + 1,id',by simpa using h1,by omega,h3⟩
theorem OU {E : Env} : ∀ (l : List Nat) (n k id : Nat),l[k]? = some id -> (n + k,((E.ρ id).b).getD 0) ∈ Q5 E l n
 | [],n,k,id,h => by simp at h
 | a :: r,n,0,id,h => by
  obtain rfl : a = id := by simpa using h
  exact List.mem_cons_self
 | a :: r,n,k + 1,id,h => by
  have := OU (E := E) r (n + 1) k id (by simpa using h)
  rw [show n + (k + 1) = n + 1 + k by omega]
  exact List.mem_cons_of_mem _ this
def uI (g : FuncId) (E E1 : Env) (o : Ow) (agR boxes : List Nat) : Ctx :=
 ⟨fun b => b < E.w.heap.size ∧ o.s b ∧ ∀ i ∈ agR,(E.ρ i).b ≠ some b,E.w,E1.N,Q5 E boxes 1,g⟩
theorem OV (g : FuncId) (h : OK X o E ay) {ps : List PT} {xs : List AV} {d : FX ps} {es : List Eff} {mo us bs : List Nat} {vals : List Value} (hg : getArgs E.O ps xs = some (d,es,mo,us,bs)) (hv : dw E xs vals) (hn : (mo ++ bs).Nodup) (ha : apart mo us = true) :
  ∃ E1 Ec : Env,E1.w = E.w ∧ E1.ρ = E.ρ ∧ E1.F = E.F ∧ OK X o E1 ay ∧ Step E E1 es ∧ (∀ i,look E1.O i = if i ∈ mo ∨ bC i es = true then (look E.O i).map fun _ => .dead else (look E.O i).map (iT es)) ∧
   (∀ i ∈ mo ++ bs,∀ b,(E.ρ i).b = some b -> ¬ E1.N b) ∧ Ec.w = E.w ∧ Ec.O = (gI ps d 1 (1 + jf ps)).2.1 ∧ OK (uI g E E1 o (mo ++ bs) bs) o Ec (gI ps d 1 (1 + jf ps)).2.2 ∧ dw Ec (gI ps d 1 (1 + jf ps)).1 vals := by
 obtain ⟨f1,f2,f3,f4,f5⟩ := qg ps xs d hg
 have hmo : ∀ i ∈ mo,bC i es = false := fun i hi => by
  cases hs : bC i es with
  | false => rfl
  | true => exact absurd (f3 i hs) (zJ ha i hi)
 have hnm : mo.Nodup := (List.nodup_append.1 hn).1
 obtain ⟨E1,w1,r1,ff1,ok1,st1,n1,l1,m1,b1⟩ := Il f1 h (fun _ _ _ _ hx _ => .inl hx) (fun i hi => by obtain ⟨ts,rows,wr,hl⟩ := f1.mem i hi; exact ⟨ts,rows,wr,hl,hl⟩) hnm hmo
 have hall : (bs.map some ++ jg E.O ps xs).filterMap id = bs ++ mo := by rw [List.filterMap_append,filterMap_some, <- f2]
 have hnd : ((bs.map some ++ jg E.O ps xs).filterMap id).Nodup := by
  rw [hall]
  have := List.nodup_append.1 hn
  exact List.nodup_append.2 ⟨this.2.1,this.1,fun a hb b hm e => this.2.2 b hm a hb e.symm⟩
 obtain ⟨k1,k2⟩ := Fj ps d 1 (1 + jf ps)
 have k2 := k2 (Nat.le_refl _)
 let Ec : Env := ⟨E.w,fun n => qO E (((bs.map some ++ jg E.O ps xs)[n - 1]?).getD none),E1.N,(uI g E E1 o (mo ++ bs) bs).G,(gI ps d 1 (1 + jf ps)).2.1⟩
 have live : ∀ i ∈ mo ++ bs,∃ a,look E.O i = some a ∧ live a = true := fun i hi => by
  rcases List.mem_append.1 hi with hi | hi
  ·obtain ⟨_,_,_,hl⟩ := f1.mem i hi; exact ⟨_,hl,rfl⟩
  ·obtain ⟨_,hl⟩ := f4 i hi; exact ⟨_,hl,rfl⟩
 have L : QX E E1 Ec mo := by
  refine ⟨rfl,w1,n1,fun b hb => hb,fun b hb => ?_,fun i ts rows wr b hl him hb => ?_⟩
  ·have hk := h.kept b (h.fg b hb)
   refine ⟨h.Zv (.inr (h.fg b hb)),hk.2.2,fun j hj hjb => ?_⟩
   exact (h.own j b (live j hj) hjb).2.2.1 (h.fg b hb)
  ·have ho := h.own i b ⟨_,hl,rfl⟩ hb
   refine ⟨ho.1,h.us b ho.2.2.2,fun j hj hjb => ?_⟩
   have := h.inj i j b ⟨_,hl,rfl⟩ (live j hj) hb hjb
   subst this
   rcases List.mem_append.1 hj with hj | hj
   ·exact him hj
   ·obtain ⟨cs,hc⟩ := f4 i hj
    rw [hl] at hc; cases hc
 have hsh : oM E E1 es := fun i hi => by
  obtain ⟨ts,rows,wr,hl⟩ := f1.sealed i hi
  refine ⟨(h.num i _ hl).2,fun b ts' rows' wr' hl' hb => ⟨m1 i ts' rows' wr' b hi hl' hb,by rw [w1]⟩⟩
 have aaH : ∀ q ∈ (gI ps d 1 (1 + jf ps)).2.1,look Ec.O q.1 = some q.2 := fun q hq => Bh k2.1 hq
 obtain ⟨a1,a2,a3⟩ := OQ (Ec := Ec) h L ps xs d vals 1 (1 + jf ps) hg hv (fun i hi hm => zJ ha i hm hi) hsh aaH (fun k q hq => by
   show qO E (((bs.map some ++ jg E.O ps xs)[1 + jf ps + k - 1]?).getD none) = _
   rw [List.getElem?_append_right (by rw [List.length_map,f5]; omega),List.length_map,f5,show 1 + jf ps + k - 1 - jf ps = k by omega,hq]; rfl) (fun k id hk => by
   show qO E (((bs.map some ++ jg E.O ps xs)[1 + k - 1]?).getD none) = _
   have hlt : k < bs.length := by
    rcases Nat.lt_or_ge k bs.length with y | y
    ·exact y
    ·rw [List.getElem?_eq_none y] at hk; cases hk
   rw [show 1 + k - 1 = k by omega,List.getElem?_append_left (by rw [List.length_map]; exact hlt),List.getElem?_map,hk]; rfl)
 have U5 : ∀ i ∈ mo ++ bs,∀ b,(E.ρ i).b = some b -> ¬ E1.N b := fun i hi b hb hN => by
  have ho := h.own i b (live i hi) hb
  rcases b1 b hN with hN | ⟨i',ts,rows,wr,s1,s2,s3⟩
  ·exact ho.2.1 hN
  ·have := h.inj i' i b ⟨_,s2,rfl⟩ (live i hi) s3 hb
   subst this
   rcases List.mem_append.1 hi with hm | hm
   ·rw [hmo i' hm] at s1; cases s1
   ·obtain ⟨cs,hc⟩ := f4 i' hm
    rw [s2] at hc; cases hc
 have from_ : ∀ i a b,look Ec.O i = some a -> (Ec.ρ i).b = some b -> 1 <= i ∧ ∃ id,(bs.map some ++ jg E.O ps xs)[i - 1]? = some (some id) ∧ id ∈ mo ++ bs ∧ (E.ρ id).b = some b := by
  intro i a b hi hb
  have hk := k2.2 _ (qy hi)
  dsimp only at hk
  refine ⟨by omega,?_⟩
  have hb : (qO E (((bs.map some ++ jg E.O ps xs)[i - 1]?).getD none)).b = some b := hb
  cases hx : (bs.map some ++ jg E.O ps xs)[i - 1]? with
  | none => rw [hx] at hb; cases hb
  | some q =>
   rw [hx] at hb
   cases q with
   | none => cases hb
   | some id =>
    refine ⟨id,rfl,?_,hb⟩
    have : id ∈ (bs.map some ++ jg E.O ps xs).filterMap _root_.id := List.mem_filterMap.2 ⟨some id,List.mem_of_getElem? hx,rfl⟩
    rw [hall] at this
    exact (List.mem_append.1 this).elim (fun x => List.mem_append.2 (.inr x)) fun x => List.mem_append.2 (.inl x)
 refine ⟨E1,Ec,w1,r1,ff1,ok1,st1,l1,U5,rfl,rfl,?_,a1⟩
 refine ⟨by omega,fun i a hi => ?_,fun i a hi => a2 _ (qy hi),fun i j b hi hj hbi hbj => ?_,fun i b hi hbi => ?_,fun b hb => ?_,fun b hb => ⟨hb.1,rfl,hb.2.1⟩,Nat.le_refl _,fun b hb => hb,h.us,fun q hq => ?_⟩
 ·have hk := k2.2 _ (qy hi)
  dsimp only at hk
  exact ⟨by omega,fun e => by rw [e] at hk; unfold foreign at hk; omega⟩
 ·obtain ⟨a,ha1,_⟩ := hi
  obtain ⟨a',ha2,_⟩ := hj
  obtain ⟨p1,id,p2,p3,p4⟩ := from_ i a b ha1 hbi
  obtain ⟨q1,id',q2,q3,q4⟩ := from_ j a' b ha2 hbj
  have := h.inj id id' b (live id p3) (live id' q3) p4 q4
  subst this
  have := LV hnd p2 q2
  omega
 ·obtain ⟨a,ha1,_⟩ := hi
  obtain ⟨p1,id,p2,p3,p4⟩ := from_ i a b ha1 hbi
  have ho := h.own id b (live id p3) p4
  exact ⟨ho.1,U5 id p3 b p4,fun hG => hG.2.2 id p3 p4,ho.2.2.2⟩
 ·have := ok1.zn b hb
  rw [w1] at this
  exact ⟨this.1,this.2.1,fun _ => hb⟩
 ·obtain ⟨k,id,hk,q1,q2⟩ := OT bs 1 q hq
  have hlt : k < bs.length := by
   rcases Nat.lt_or_ge k bs.length with y | y
   ·exact y
   ·rw [List.getElem?_eq_none y] at hk; cases hk
  obtain ⟨cs0,hcs0⟩ := f4 id (List.mem_of_getElem? hk)
  obtain ⟨blk,_,_,_,hblk,_⟩ := h.obj id _ hcs0
  obtain ⟨cs,hc⟩ := Bj ps d 1 (1 + jf ps) k (by rw [<- f5]; exact hlt)
  unfold VR
  refine ⟨cs,blk,by rw [q1]; exact aaH _ hc,?_,by rw [q2,hblk]; rfl⟩
  show (qO E (((bs.map some ++ jg E.O ps xs)[q.1 - 1]?).getD none)).b = _
  rw [q1,show 1 + k - 1 = k by omega,List.getElem?_append_left (by rw [List.length_map]; exact hlt),List.getElem?_map,hk]
  exact hblk
end
end Go.E
end
section
namespace Go.E
section
variable {X : Ctx} {o : Ow} {E Es E2 : Env} {ay : Nat}
structure Back (E Es E2 : Env) : Prop where
 w : E2.w = E.w
 ws : Es.w = E.w
 n : ∀ b,E.N b -> Es.N b
 n2 : ∀ b,Es.N b -> E2.N b
def zK (E Es : Env) (sn : List Nat) : Prop := ∀ i ∈ sn,i ≠ foreign ∧ ∀ b ts rows wr,look E.O i = some (.arr ts rows wr) -> (E.ρ i).b = some b -> Es.N b ∧ Es.w.heap[b]? = E.w.heap[b]?
theorem Q7 {m : Md} {x : AV} {mo sn : List Nat} (hu : JI m x = some (mo,sn)) (hs : zK E Es sn) (hm : m = .ro ∨ m = .leak) : Shut E Es x := by
 intro i hi
 refine hs i ?_
 cases x with
 | own id => rcases hm with rfl | rfl <;> (cases hu; exact hi)
 | ro ts rows deps => rcases hm with rfl | rfl <;> (cases hu; exact hi)
 | _ => cases hi
theorem Ky (h : OK X o E ay) (L : Back E Es E2) {ts : cZ} {m : Md} {x : AV} {d : List ts.D} {v : Value} {n : Nat} {mo sn : List Nat} (hd : CT.je E.O (.sl ts) x = some d) (hv : VR E x v) (hu : JI m x = some (mo,sn)) (hs : zK E Es sn)
  (gB : ∀ p ∈ (dA m (.sl ts) d n).2.1,look E2.O p.1 = some p.2) (hρ : ∀ q ∈ dU m (.sl ts) x,E2.ρ n = qO E q) :
  VR E2 (dA m (.sl ts) d n).1 v ∧ ∀ p ∈ (dA m (.sl ts) d n).2.1,fE E2 p.1 p.2 := by
 have hn : vw E.N E2.N E.w E2.w := fun b hb => ⟨L.n2 b (L.n b hb),by rw [L.w]⟩
 have plain : (m = .ro ∨ m = .leak) -> VR E2 (.ro ts d []) v := fun hm => by
  have h1 := zy (E' := Es) h (fun b hb => ⟨L.n b hb,by rw [L.ws]⟩) (.sl ts) x d v hd hv (Q7 hu hs hm)
  have h2 := CT.jM (w' := E2.w) (N' := E2.N) (fun b hb => ⟨L.n2 b hb,by rw [L.w,L.ws]⟩) (.sl ts) d v h1
  exact SK (E := E2) (.sl ts) d v h2
 cases m with
 | ro => exact ⟨plain (.inl rfl),fun p hp => by cases hp⟩
 | leak => exact ⟨plain (.inr rfl),fun p hp => by cases hp⟩
 | mv =>
  have hlook : look E2.O n = some (.arr ts d true) := gB (n,.arr ts d true) List.mem_cons_self
  show VR E2 (.own n) v ∧ _
  rcases oK hd with ⟨rfl,rfl⟩ | ⟨deps,rfl⟩ | ⟨id,wr,rfl,hl⟩
  ·have hp : E2.ρ n = ⟨none,0⟩ := hρ none List.mem_cons_self
   unfold VR at hv; subst hv
   refine ⟨?_,fun p hpm => ?_⟩
   ·unfold VR; exact ⟨ts,[],true,hlook,by rw [hp]; rfl⟩
   ·obtain rfl : p = (n,.arr ts [] true) := by simpa [dA] using hpm
    unfold fE; rw [hp]; exact ⟨rfl,rfl⟩
  ·cases hu
  ·have hp : E2.ρ n = E.ρ id := hρ (some id) List.mem_cons_self
   unfold VR at hv
   obtain ⟨ts',rows',wr',g1,g2⟩ := hv
   rw [hl] at g1; cases g1
   refine ⟨?_,fun p hpm => ?_⟩
   ·unfold VR; exact ⟨ts,d,true,hlook,by rw [hp]; exact g2⟩
   ·obtain rfl : p = (n,.arr ts d true) := by simpa [dA] using hpm
    have ho := h.obj id _ hl
    unfold fE at ho ⊢
    rw [hp]
    cases hb : (E.ρ id).b with
    | none => rw [hb] at ho; exact ho
    | some b =>
     rw [hb] at ho
     obtain ⟨c,t,f,k1,k2,k3,k4,k5⟩ := ho
     exact ⟨c,t,f,by rw [L.w]; exact k1,k2,k3,k4,eX (fun d l => cZ.jM hn ts d l) _ _ k5⟩
theorem Kz {O : bD} {ts : cZ} {m : Md} {x : AV} {d : List ts.D} {mo sn : List Nat} (hd : CT.je O (.sl ts) x = some d) (hu : JI m x = some (mo,sn)) : mo = (dU m (.sl ts) x).filterMap id := by
 cases m <;> (rcases oK hd with ⟨rfl,rfl⟩ | ⟨deps,rfl⟩ | ⟨id,wr,rfl,hl⟩ <;> (cases hu; try rfl))
theorem KA (m : Md) (t : CT) (d : t.D) (x : AV) (n : Nat) : (dA m t d n).2.2 = n + (dU m t x).length := by
 cases t <;> cases m <;> first | rfl | (cases x <;> rfl)
theorem Iq {ms : List Md} {t : CT} {d : t.D} {n : Nat} (ht : jL t = false) : putCells (.one t) ms d n = ([t.av d],[],n) := by
 cases t <;> first | rfl | cases ht
theorem tJ (h : OK X o E ay) (L : Back E Es E2) : ∀ (ts : cZ) (ms : List Md) (xs : List AV) (d : ts.D) (l : List Value) (n : Nat) {mo sn : List Nat},ts.iC E.O xs = some d -> dw E xs l -> oH ts.list ms xs = some (mo,sn) -> zK E Es sn ->
  (∀ p ∈ (putCells ts ms d n).2.1,look E2.O p.1 = some p.2) -> (∀ k q,(bQ ts.list ms xs)[k]? = some q -> E2.ρ (n + k) = qO E q) ->
  dw E2 (putCells ts ms d n).1 l ∧ (∀ p ∈ (putCells ts ms d n).2.1,fE E2 p.1 p.2) ∧ (putCells ts ms d n).2.2 = n + (bQ ts.list ms xs).length ∧ mo = (bQ ts.list ms xs).filterMap id
 | .one t,ms,xs,d,l,n,mo,sn,hd,hv,hu,hsh,gB,hρ => by
  match xs,hd,hv,hu,hρ with
  | [x],hd,hv,hu,hρ =>
   have hd : t.je E.O x = some d := hd
   unfold dw at hv
   obtain ⟨v,q,rfl,h1,h2⟩ := hv
   unfold dw at h2; subst h2
   cases ht : jL t with
   | false =>
    have e := Iq (ms := ms) (d := d) (n := n) ht
    have e2 : bQ [t] ms [x] = [] := by show (bif jL t then _ else _) = _; rw [ht]; rfl
    have hu : (bif jL t then _ else some ([],[])) = some (mo,sn) := hu
    rw [ht] at hu
    cases hu
    rw [e]
    refine ⟨?_,fun p hp => (by cases hp),?_,?_⟩
    ·unfold dw; exact ⟨v,[],rfl,Gl ht hd h1,by unfold dw; rfl⟩
    ·show n = n + (bQ [t] ms [x]).length; rw [e2,List.length_nil,Nat.add_zero]
    ·show _ = (bQ [t] ms [x]).filterMap id; rw [e2]; rfl
   | true =>
    cases t with
    | sl ts =>
     cases ms with
     | nil => cases hu
     | cons m ms =>
      have hu : (match JI m x,(some ([],[]) : Option (List Nat × List Nat)) with | some (a,b),some (a',b') => some (a ++ a',b ++ b') | _,_ => none) = some (mo,sn) := hu
      split at hu
      ·rename_i a b a' b' QY e
       cases e
       cases hu
       simp only [List.append_nil] at *
       have := Ky h L (n := n) hd h1 QY hsh gB fun q hq => by
        obtain ⟨k,hk⟩ := List.getElem?_of_mem hq
        have hk0 : k = 0 := by
         have : (dU m (.sl ts) x).length <= 1 := by cases m <;> first | exact Nat.zero_le _ | (cases x <;> exact Nat.le_refl _)
         have hlt : k < (dU m (.sl ts) x).length := by
          rcases Nat.lt_or_ge k (dU m (.sl ts) x).length with y | y
          ·exact y
          ·rw [List.getElem?_eq_none y] at hk; cases hk
         omega
        subst hk0
        exact hρ 0 q (by show (dU m (.sl ts) x ++ [])[0]? = some q; rw [List.append_nil]; exact hk)
       refine ⟨?_,this.2,?_,?_⟩
       ·show dw E2 [(dA m (.sl ts) d n).1] [v]
        unfold dw; exact ⟨v,[],rfl,this.1,by unfold dw; rfl⟩
       ·show (dA m (.sl ts) d n).2.2 = n + (dU m (.sl ts) x ++ []).length
        rw [List.append_nil]; exact KA m (.sl ts) d x n
       ·show _ = (dU m (.sl ts) x ++ []).filterMap id
        rw [List.append_nil]; exact Kz hd QY
      ·cases hu
    | _ => cases ht
  | [],hd,_,_,_ => cases hd
  | x :: y :: r,hd,_,_,_ => cases hd
 | .cons t ts,ms,xs,d,l,n,mo,sn,hd,hv,hu,hsh,gB,hρ => by
  match xs,hd,hv,hu,hρ with
  | [],hd,_,_,_ => cases hd
  | x :: xs,hd,hv,hu,hρ =>
   unfold dw at hv
   obtain ⟨v,q,rfl,h1,h2⟩ := hv
   have hd : (match t.je E.O x,ts.iC E.O xs with | some d,some e => some (d,e) | _,_ => none) = some d := hd
   split at hd
   case h_2 => cases hd
   rename_i d1 d2 g1 g2
   cases hd
   cases ht : jL t with
   | false =>
    have e : putCells (.cons t ts) ms (d1,d2) n = (t.av d1 :: (putCells ts ms d2 n).1,(putCells ts ms d2 n).2.1,(putCells ts ms d2 n).2.2) := by
     show (bif jL t then _ else _) = _
     rw [ht]; rfl
    have e2 : bQ (t :: ts.list) ms (x :: xs) = bQ ts.list ms xs := by show (bif jL t then _ else _) = _; rw [ht]; rfl
    have hu : (bif jL t then _ else oH ts.list ms xs) = some (mo,sn) := hu
    rw [ht] at hu
    rw [e] at gB ⊢
    have := tJ h L ts ms xs d2 q n g2 h2 hu hsh gB (fun k q' hq => hρ k q' (by show (bQ (t :: ts.list) ms (x :: xs))[k]? = _; rw [e2]; exact hq))
    refine ⟨?_,this.2.1,?_,?_⟩
    ·unfold dw; exact ⟨v,q,rfl,Gl ht g1 h1,this.1⟩
    ·show _ = n + (bQ (t :: ts.list) ms (x :: xs)).length; rw [e2]; exact this.2.2.1
    ·show _ = (bQ (t :: ts.list) ms (x :: xs)).filterMap id; rw [e2]; exact this.2.2.2
   | true =>
    cases t with
    | sl vX =>
     cases ms with
     | nil => cases hu
     | cons m ms =>
      have hu : (match JI m x,oH ts.list ms xs with | some (a,b),some (a',b') => some (a ++ a',b ++ b') | _,_ => none) = some (mo,sn) := hu
      split at hu
      case h_2 => cases hu
      rename_i a b a' b' QY hub
      cases hu
      have e : putCells (.cons (.sl vX) ts) (m :: ms) (d1,d2) n = ((dA m (.sl vX) d1 n).1 :: (putCells ts ms d2 (dA m (.sl vX) d1 n).2.2).1,(putCells ts ms d2 (dA m (.sl vX) d1 n).2.2).2.1 ++ (dA m (.sl vX) d1 n).2.1,(putCells ts ms d2 (dA m (.sl vX) d1 n).2.2).2.2) := rfl
      have hn := KA m (.sl vX) d1 x n
      rw [e] at gB ⊢
      have k1 := Ky h L (n := n) g1 h1 QY (fun i hi => hsh i (List.mem_append.2 (.inl hi))) (fun p hp => gB p (List.mem_append.2 (.inr hp))) fun q' hq => by
       obtain ⟨k,hk⟩ := List.getElem?_of_mem hq
       have hlt : k < (dU m (.sl vX) x).length := by
        rcases Nat.lt_or_ge k (dU m (.sl vX) x).length with y | y
        ·exact y
        ·rw [List.getElem?_eq_none y] at hk; cases hk
       have hk0 : k = 0 := by
        have : (dU m (.sl vX) x).length <= 1 := by cases m <;> first | exact Nat.zero_le _ | (cases x <;> exact Nat.le_refl _)
        omega
       subst hk0
       exact hρ 0 q' (by show (dU m (.sl vX) x ++ bQ ts.list ms xs)[0]? = _; rw [List.getElem?_append_left hlt]; exact hk)
      have k2 := tJ h L ts ms xs d2 q (dA m (.sl vX) d1 n).2.2 g2 h2 hub (fun i hi => hsh i (List.mem_append.2 (.inr hi))) (fun p hp => gB p (List.mem_append.2 (.inl hp))) fun k q' hq => by
       rw [hn,Nat.add_assoc]
       refine hρ _ q' ?_
       show (dU m (.sl vX) x ++ bQ ts.list ms xs)[_]? = _
       rw [List.getElem?_append_right (by omega),Nat.add_sub_cancel_left]; exact hq
      refine ⟨?_,fun p hp => (List.mem_append.1 hp).elim (k2.2.1 p) (k1.2 p),?_,?_⟩
      ·unfold dw; exact ⟨v,q,rfl,k1.1,k2.1⟩
      ·show _ = n + (dU m (.sl vX) x ++ bQ ts.list ms xs).length
       rw [List.length_append, <- Nat.add_assoc, <- hn]; exact k2.2.2.1
      ·show _ = (dU m (.sl vX) x ++ bQ ts.list ms xs).filterMap id
       rw [List.filterMap_append, <- Kz g1 QY, <- k2.2.2.2]
    | _ => cases ht
theorem wP (m : Md) (t : CT) (d : t.D) (n : Nat) : n <= (dA m t d n).2.2 ∧ Keys (dA m t d n).2.1 fun i => n <= i ∧ i < (dA m t d n).2.2 := by
 cases t with
 | sl ts =>
  cases m with
  | mv => exact ⟨Nat.le_succ n,Keys.one ⟨Nat.le_refl _,Nat.lt_succ_self n⟩⟩
  | ro => exact ⟨Nat.le_refl n,Keys.nil⟩
  | leak => exact ⟨Nat.le_refl n,Keys.nil⟩
 | _ => cases m <;> exact ⟨Nat.le_refl n,Keys.nil⟩
theorem Fq {t : CT} {ts : cZ} {ms : List Md} (ht : jL t = true) : ∃ m ms',∀ (d : (cZ.cons t ts).D) (n : Nat),putCells (.cons t ts) ms d n =
  ((dA m t d.1 n).1 :: (putCells ts ms' d.2 (dA m t d.1 n).2.2).1,(putCells ts ms' d.2 (dA m t d.1 n).2.2).2.1 ++ (dA m t d.1 n).2.1,(putCells ts ms' d.2 (dA m t d.1 n).2.2).2.2) := by
 cases ms with
 | nil => exact ⟨.ro,[],fun d n => by show (bif jL t then _ else _) = _; rw [ht]; rfl⟩
 | cons m ms' => exact ⟨m,ms',fun d n => by show (bif jL t then _ else _) = _; rw [ht]; rfl⟩
theorem eG : ∀ (ts : cZ) (ms : List Md) (d : ts.D) (n : Nat),n <= (putCells ts ms d n).2.2 ∧ Keys (putCells ts ms d n).2.1 fun i => n <= i ∧ i < (putCells ts ms d n).2.2
 | .one t,ms,d,n => wP _ t d n
 | .cons t ts,ms,d,n => by
  cases ht : jL t with
  | false =>
   have e : putCells (.cons t ts) ms d n = (t.av d.1 :: (putCells ts ms d.2 n).1,(putCells ts ms d.2 n).2.1,(putCells ts ms d.2 n).2.2) := by
    show (bif jL t then _ else _) = _
    rw [ht]; rfl
   rw [e]
   exact eG ts ms d.2 n
  | true =>
   obtain ⟨m,ms',e⟩ := Fq (ts := ts) (ms := ms) ht
   rw [e]
   obtain ⟨a1,a2⟩ := wP m t d.1 n
   obtain ⟨b1,b2⟩ := eG ts ms' d.2 (dA m t d.1 n).2.2
   refine ⟨Nat.le_trans a1 b1,(b2.app a2 fun i hi hi' => ?_).mono fun i hi => ?_⟩
   ·omega
   ·dsimp only at hi ⊢; omega
end
end Go.E
end
section
namespace Go.E
section
variable {X : Ctx} {o : Ow} {E Es E2 : Env} {ay : Nat}
theorem Bl {t : CT} {ms : List Md} {d : t.D} {b : List Nat} {n : Nat} : dY b ⟨.one t,ms⟩ d n = putCells (.one t) ms d n := by
 cases ms <;> rfl
theorem OW (h : OK X o E ay) (L : Back E Es E2) {p : PT} {x : AV} {d : p.sh.D} {v : Value} {boxes : List Nat} {n : Nat} {mo sn : List Nat} (hg : sN E.O p x = some (d,mo,sn)) (hv : VR E x v) (hsh : zK E Es sn)
  (gB : ∀ q ∈ (dY boxes p d n).2.1,look E2.O q.1 = some q.2) (hρ : ∀ k q,(jF E.O p x)[k]? = some q -> E2.ρ (n + k) = qO E q) (hb : fB p = true -> ∃ b bs id,boxes = b :: bs ∧ x = .ptr id 0 ∧ (E2.ρ b).b = (E.ρ id).b) :
  dw E2 (dY boxes p d n).1 (bif fB p then [] else [v]) ∧ (∀ q ∈ (dY boxes p d n).2.1,fE E2 q.1 q.2) ∧ (dY boxes p d n).2.2 = n + (jF E.O p x).length ∧ mo = (jF E.O p x).filterMap id := by
 match p,d,hg,gB,hρ,hb with
 | ⟨.one t,ms⟩,d,hg,gB,hρ,_ =>
  have hg : (match t.je E.O x,oH [t] ms [x] with | some d,some (a,b) => some (d,a,b) | _,_ => none) = some (d,mo,sn) := hg
  split at hg
  ·rename_i d' a b h1 h2
   cases hg
   have e : dY boxes ⟨.one t,ms⟩ d n = putCells (.one t) ms d n := Bl
   rw [e] at gB ⊢
   obtain ⟨k1,k2,k3,k4⟩ := tJ h L (.one t) ms [x] d [v] n h1 (by unfold dw; exact ⟨v,[],rfl,hv,by unfold dw; rfl⟩) h2 hsh gB hρ
   exact ⟨k1,k2,k3,k4⟩
  ·cases hg
 | ⟨.agg ts,ms⟩,d,hg,gB,hρ,_ =>
  cases x with
  | agg cs =>
   have hg : (match ts.iC E.O cs,oH ts.list ms cs with | some d,some (a,b) => some (d,a,b) | _,_ => none) = some (d,mo,sn) := hg
   split at hg
   ·rename_i d' a b h1 h2
    cases hg
    unfold VR at hv
    obtain ⟨l,rfl,hv⟩ := hv
    obtain ⟨k1,k2,k3,k4⟩ := tJ h L ts ms cs d l n h1 hv h2 hsh gB hρ
    refine ⟨?_,k2,k3,k4⟩
    show dw E2 [.agg (putCells ts ms d n).1] [_]
    unfold dw
    refine ⟨_,[],rfl,?_,by unfold dw; rfl⟩
    unfold VR; exact ⟨l,rfl,k1⟩
   ·cases hg
  | _ => cases hg
 | ⟨.pz,ms⟩,d,hg,gB,hρ,_ =>
  cases x with
  | agg cs =>
   cases cs with
   | nil =>
    cases hg
    refine ⟨?_,fun q hq => (by cases hq),rfl,rfl⟩
    show dw E2 [.agg []] [v]
    unfold dw
    refine ⟨v,[],rfl,?_,by unfold dw; rfl⟩
    unfold VR at hv ⊢
    obtain ⟨l,rfl,hv⟩ := hv
    refine ⟨l,rfl,?_⟩
    unfold dw at hv ⊢; exact hv
   | cons _ _ => cases hg
  | _ => cases hg
 | ⟨.st ts,ms⟩,d,hg,gB,hρ,hb =>
  obtain ⟨b,bs,id,rfl,rfl,hbb⟩ := hb rfl
  have hg : (match look E.O id with
   | some (.box cs) => match ts.iC E.O cs,oH ts.list ms cs with
    | some d,some (a,b) => some (d,a,b)
    | _,_ => none
   | _ => none) = some (d,mo,sn) := hg
  split at hg
  ·rename_i cs hl
   split at hg
   ·rename_i d' a b' h1 h2
    cases hg
    unfold VR at hv
    obtain ⟨cs',blk,e1,e2,e3⟩ := hv
    rw [hl] at e1; cases e1
    obtain ⟨blk',c',t',f',q1,q2,q3,q4⟩ := h.obj id _ hl
    rw [e2] at q1; cases q1
    have hs : jF E.O ⟨.st ts,ms⟩ (.ptr id 0) = bQ ts.list ms cs := by
     show (match look E.O id with | some (.box cs) => bQ ts.list ms cs | _ => []) = _
     rw [hl]
    rw [hs] at hρ ⊢
    obtain ⟨k1,k2,k3,k4⟩ := tJ h L ts ms cs d c'.toList n h1 q4 h2 hsh (fun q hq => gB q (List.mem_cons_of_mem _ hq)) hρ
    refine ⟨?_,fun q hq => ?_,k3,k4⟩
    ·show dw E2 [] []
     unfold dw; rfl
    ·have hq : q ∈ (b,AO.box (putCells ts ms d n).1) :: (putCells ts ms d n).2.1 := hq
     rcases List.mem_cons.1 hq with e | hq
     ·subst e
      exact ⟨blk,c',t',f',by rw [hbb]; exact e2,by rw [L.w]; exact q2,q3,k1⟩
     ·exact k2 q hq
   ·cases hg
  ·cases hg
def CX : List PT -> List Value -> List Value
 | p :: ps,v :: vs => bif fB p then CX ps vs else v :: CX ps vs
 | _,_ => []
def aeb : AV -> List Nat
 | .ptr id _ => [id]
 | _ => []
def nX : List PT -> List AV -> List Nat
 | p :: ps,x :: xs => bif fB p then aeb x ++ nX ps xs else nX ps xs
 | _,_ => []
theorem Ed {O : bD} {p : PT} {x : AV} {d : p.sh.D} {mo sn : List Nat} (hg : sN O p x = some (d,mo,sn)) (hp : fB p = true) : ∃ id,x = .ptr id 0 := by
 match p,d,hp,hg with
 | ⟨.st ts,ms⟩,d,_,hg =>
  cases x with
  | ptr id off =>
   cases off with
   | zero => exact ⟨id,rfl⟩
   | succ _ => cases hg
  | _ => cases hg
theorem OX (h : OK X o E ay) (L : Back E Es E2) : ∀ (ps : List PT) (xs : List AV) (d : FX ps) (l : List Value) (boxes : List Nat) (n : Nat) {mo sn : List Nat},sO E.O ps xs = some (d,mo,sn) -> dw E xs l -> zK E Es sn ->
  (∀ q ∈ (bZ boxes ps d n).2.1,look E2.O q.1 = some q.2) -> (∀ k q,(jg E.O ps xs)[k]? = some q -> E2.ρ (n + k) = qO E q) -> (nX ps xs).length <= boxes.length -> (∀ (k id b : Nat),(nX ps xs)[k]? = some id -> boxes[k]? = some b -> (E2.ρ b).b = (E.ρ id).b) ->
  dw E2 (bZ boxes ps d n).1 (CX ps l) ∧ (∀ q ∈ (bZ boxes ps d n).2.1,fE E2 q.1 q.2) ∧ (bZ boxes ps d n).2.2 = n + (jg E.O ps xs).length ∧ mo = (jg E.O ps xs).filterMap id
 | [],[],d,l,boxes,n,mo,sn,hg,hv,hsh,gB,hρ,hl,hb => by
  cases hg
  refine ⟨?_,fun q hq => (by cases hq),rfl,rfl⟩
  show dw E2 [] []
  unfold dw; rfl
 | [p],[x],d,l,boxes,n,mo,sn,hg,hv,hsh,gB,hρ,hl,hb => by
  unfold dw at hv
  obtain ⟨v,q,rfl,h1,h2⟩ := hv
  unfold dw at h2; subst h2
  have hg : sN E.O p x = some (d,mo,sn) := hg
  obtain ⟨k1,k2,k3,k4⟩ := OW (p := p) (d := d) (boxes := boxes) (n := n) h L hg h1 hsh gB (fun k q hq => hρ k q (by show (jF E.O p x ++ [])[k]? = _; rw [List.append_nil]; exact hq)) fun hp => by
   obtain ⟨id,rfl⟩ := Ed hg hp
   have hx : nX [p] [.ptr id 0] = [id] := by show (bif fB p then [id] ++ [] else []) = _; rw [hp]; rfl
   rw [hx] at hl hb
   cases boxes with
   | nil => simp at hl
   | cons b bs => exact ⟨b,bs,id,rfl,rfl,hb 0 id b rfl rfl⟩
  refine ⟨?_,k2,?_,?_⟩
  ·show dw E2 (dY boxes p d n).1 (bif fB p then [] else [v])
   exact k1
  ·show (dY boxes p d n).2.2 = n + (jF E.O p x ++ []).length
   rw [List.append_nil]; exact k3
  ·show _ = (jF E.O p x ++ []).filterMap _
   rw [List.append_nil]; exact k4
 | p :: q :: r,x :: y :: xs,d,l,boxes,n,mo,sn,hg,hv,hsh,gB,hρ,hl,hb => by
  have hg : (match sN E.O p x,sO E.O (q :: r) (y :: xs) with
   | some (d,a,b),some (d',a',b') => some ((d,d'),a ++ a',b ++ b')
   | _,_ => none) = some (d,mo,sn) := hg
  split at hg
  ·rename_i d1 a c d2 a' c' h1 h2
   cases hg
   unfold dw at hv
   obtain ⟨v,vr,rfl,v1,v2⟩ := hv
   have hx : bZ boxes (p :: q :: r) (d1,d2) n = ((dY boxes p d1 n).1 ++ (bZ (bif fB p then mJ boxes else boxes) (q :: r) d2 (dY boxes p d1 n).2.2).1,
    (bZ (bif fB p then mJ boxes else boxes) (q :: r) d2 (dY boxes p d1 n).2.2).2.1 ++ (dY boxes p d1 n).2.1,(bZ (bif fB p then mJ boxes else boxes) (q :: r) d2 (dY boxes p d1 n).2.2).2.2) := rfl
   rw [hx] at gB ⊢
   have hs : jg E.O (p :: q :: r) (x :: y :: xs) = jF E.O p x ++ jg E.O (q :: r) (y :: xs) := rfl
   rw [hs] at hρ ⊢
   have hst : nX (p :: q :: r) (x :: y :: xs) = bif fB p then aeb x ++ nX (q :: r) (y :: xs) else nX (q :: r) (y :: xs) := rfl
   obtain ⟨k1,k2,k3,k4⟩ := OW (boxes := boxes) (n := n) h L h1 v1 (fun i hi => hsh i (List.mem_append.2 (.inl hi))) (fun q hq => gB q (List.mem_append.2 (.inr hq))) (fun k q' hq => hρ k q' (by
     rw [List.getElem?_append_left]
     ·exact hq
     ·rcases Nat.lt_or_ge k (jF E.O p x).length with y | y
      ·exact y
      ·rw [List.getElem?_eq_none y] at hq; cases hq)) fun hp => by
    obtain ⟨id,rfl⟩ := Ed h1 hp
    rw [hp] at hst
    have hst : nX (p :: q :: r) (.ptr id 0 :: y :: xs) = id :: nX (q :: r) (y :: xs) := hst
    rw [hst] at hl hb
    cases boxes with
    | nil => simp at hl
    | cons b bs => exact ⟨b,bs,id,rfl,rfl,hb 0 id b rfl rfl⟩
   have rest : (nX (q :: r) (y :: xs)).length <= (bif fB p then mJ boxes else boxes).length ∧ ∀ (k id b : Nat),(nX (q :: r) (y :: xs))[k]? = some id -> (bif fB p then mJ boxes else boxes)[k]? = some b -> (E2.ρ b).b = (E.ρ id).b := by
    cases hp : fB p with
    | false =>
     rw [hp] at hst
     have hst : nX (p :: q :: r) (x :: y :: xs) = nX (q :: r) (y :: xs) := hst
     rw [hst] at hl hb
     exact ⟨hl,hb⟩
    | true =>
     obtain ⟨id,rfl⟩ := Ed h1 hp
     rw [hp] at hst
     have hst : nX (p :: q :: r) (.ptr id 0 :: y :: xs) = id :: nX (q :: r) (y :: xs) := hst
     rw [hst] at hl hb
     cases boxes with
     | nil => simp at hl
     | cons b bs =>
      refine ⟨?_,fun k id' b' hk hk' => ?_⟩
      ·show _ <= bs.length
       simpa using hl
      ·exact hb (k + 1) id' b' (by simpa using hk) (by have hk' : bs[k]? = some b' := hk'; simpa using hk')
   obtain ⟨g1,g2,g3,g4⟩ := OX h L (q :: r) (y :: xs) d2 vr (bif fB p then mJ boxes else boxes) (dY boxes p d1 n).2.2 h2 v2 (fun i hi => hsh i (List.mem_append.2 (.inr hi))) (fun q hq => gB q (List.mem_append.2 (.inl hq))) (fun k q' hq => by
     rw [k3,Nat.add_assoc]
     refine hρ _ q' ?_
     rw [List.getElem?_append_right (by omega),Nat.add_sub_cancel_left]; exact hq) rest.1 rest.2
   refine ⟨?_,fun q hq => (List.mem_append.1 hq).elim (g2 q) (k2 q),?_,?_⟩
   ·have := pK k1 g1
    show dw E2 _ (bif fB p then CX (q :: r) vr else v :: CX (q :: r) vr)
    cases hp : fB p <;> rw [hp] at this <;> exact this
   ·show (bZ _ (q :: r) d2 (dY boxes p d1 n).2.2).2.2 = n + _
    rw [List.length_append, <- Nat.add_assoc, <- k3]; exact g3
   ·rw [List.filterMap_append, <- k4, <- g4]
  ·cases hg
 | [],_ :: _,d,l,boxes,n,mo,sn,hg,_,_,_,_,_,_ => by cases hg
 | [_],[],d,l,boxes,n,mo,sn,hg,_,_,_,_,_,_ => by cases hg
 | [_],_ :: _ :: _,d,l,boxes,n,mo,sn,hg,_,_,_,_,_,_ => by cases hg
 | _ :: _ :: _,[],d,l,boxes,n,mo,sn,hg,_,_,_,_,_,_ => by cases hg
 | _ :: _ :: _,[_],d,l,boxes,n,mo,sn,hg,_,_,_,_,_,_ => by cases hg
end
end Go.E
end
section
namespace Go.E
section
variable {X : Ctx} {o : Ow} {E Es E2 : Env} {ay : Nat}
theorem oO {O : bD} : ∀ (ts : cZ) (ms : List Md) (xs : List AV) (d : ts.D) (i : Nat),ts.iC O xs = some d -> some i ∈ bQ ts.list ms xs -> ∃ ts rows wr,look O i = some (.arr ts rows wr)
 | .one t,ms,xs,d,i,hd,hi => by
  match xs,hd,hi with
  | [x],hd,hi =>
   have hd : t.je O x = some d := hd
   cases t with
   | sl ts =>
    cases ms with
    | nil => cases hi
    | cons m ms =>
     have hi : some i ∈ dU m (.sl ts) x ++ [] := hi
     rw [List.append_nil] at hi
     cases m with
     | mv =>
      rcases oK hd with ⟨rfl,rfl⟩ | ⟨deps,rfl⟩ | ⟨id,wr,rfl,hl⟩
      ·have hi : some i ∈ [none] := hi
       simp at hi
      ·have hi : some i ∈ [none] := hi
       simp at hi
      ·have hi : some i ∈ [some id] := hi
       simp at hi; subst hi; exact ⟨_,_,_,hl⟩
     | _ => cases hi
   | _ => cases hi
  | [],hd,_ => cases hd
  | x :: y :: r,hd,_ => cases hd
 | .cons t ts,ms,xs,d,i,hd,hi => by
  match xs,hd,hi with
  | [],hd,_ => cases hd
  | x :: xs,hd,hi =>
   have hd : (match t.je O x,ts.iC O xs with | some d,some e => some (d,e) | _,_ => none) = some d := hd
   split at hd
   case h_2 => cases hd
   rename_i d1 d2 g1 g2
   cases hd
   cases t with
   | sl vX =>
    cases ms with
    | nil => cases hi
    | cons m ms =>
     have hi : some i ∈ dU m (.sl vX) x ++ bQ ts.list ms xs := hi
     rcases List.mem_append.1 hi with hi | hi
     ·cases m with
      | mv =>
       rcases oK g1 with ⟨rfl,rfl⟩ | ⟨deps,rfl⟩ | ⟨id,wr,rfl,hl⟩
       ·have hi : some i ∈ [none] := hi
        simp at hi
       ·have hi : some i ∈ [none] := hi
        simp at hi
       ·have hi : some i ∈ [some id] := hi
        simp at hi; subst hi; exact ⟨_,_,_,hl⟩
      | _ => cases hi
     ·exact oO ts ms xs d2 i g2 hi
   | _ => exact oO ts ms xs d2 i g2 hi
theorem Ir {O : bD} {p : PT} {x : AV} {d : p.sh.D} {mo sn : List Nat} (hg : sN O p x = some (d,mo,sn)) (i : Nat) (hi : some i ∈ jF O p x) : ∃ ts rows wr,look O i = some (.arr ts rows wr) := by
 match p,d,hg,hi with
 | ⟨.one t,ms⟩,d,hg,hi =>
  have hg : (match t.je O x,oH [t] ms [x] with | some d,some (a,b) => some (d,a,b) | _,_ => none) = some (d,mo,sn) := hg
  split at hg
  ·rename_i d' a b h1 h2
   exact oO (.one t) ms [x] d' i h1 hi
  ·cases hg
 | ⟨.agg ts,ms⟩,d,hg,hi =>
  cases x with
  | agg cs =>
   have hg : (match ts.iC O cs,oH ts.list ms cs with | some d,some (a,b) => some (d,a,b) | _,_ => none) = some (d,mo,sn) := hg
   split at hg
   ·rename_i d' a b h1 h2
    exact oO ts ms cs d' i h1 hi
   ·cases hg
  | _ => cases hg
 | ⟨.pz,ms⟩,d,hg,hi => cases x <;> cases hi
 | ⟨.st ts,ms⟩,d,hg,hi =>
  cases x with
  | ptr id off =>
   have hi : some i ∈ (match look O id with | some (.box cs) => bQ ts.list ms cs | _ => []) := hi
   split at hi
   ·rename_i cs hl
    have hi' := hi
    cases off with
    | succ _ => cases hg
    | zero =>
     have hg : (match look O id with
      | some (.box cs) => match ts.iC O cs,oH ts.list ms cs with
       | some d,some (a,b) => some (d,a,b)
       | _,_ => none
      | _ => none) = some (d,mo,sn) := hg
     rw [hl] at hg
     dsimp only at hg
     split at hg
     ·rename_i d' a b h1 h2
      exact oO ts ms cs d' i h1 (by simpa using hi')
     ·cases hg
   ·cases hi
  | _ => cases hg
theorem Iu {O : bD} : ∀ (ps : List PT) (xs : List AV) (d : FX ps) {mo sn : List Nat},sO O ps xs = some (d,mo,sn) -> ∀ i,some i ∈ jg O ps xs -> ∃ ts rows wr,look O i = some (.arr ts rows wr)
 | [],[],d,mo,sn,hg,i,hi => by cases hi
 | [p],[x],d,mo,sn,hg,i,hi => by
  have hi : some i ∈ jF O p x ++ [] := hi
  rw [List.append_nil] at hi
  exact Ir (p := p) (d := d) hg i hi
 | p :: q :: r,x :: y :: xs,d,mo,sn,hg,i,hi => by
  have hg : (match sN O p x,sO O (q :: r) (y :: xs) with
   | some (d,a,b),some (d',a',b') => some ((d,d'),a ++ a',b ++ b')
   | _,_ => none) = some (d,mo,sn) := hg
  split at hg
  ·rename_i d1 a c d2 a' c' h1 h2
   have hi : some i ∈ jF O p x ++ jg O (q :: r) (y :: xs) := hi
   rcases List.mem_append.1 hi with hi | hi
   ·exact Ir h1 i hi
   ·exact Iu (q :: r) (y :: xs) d2 h2 i hi
  ·cases hg
 | [],_ :: _,d,mo,sn,hg,_,_ => by cases hg
 | [_],[],d,mo,sn,hg,_,_ => by cases hg
 | [_],_ :: _ :: _,d,mo,sn,hg,_,_ => by cases hg
 | _ :: _ :: _,[],d,mo,sn,hg,_,_ => by cases hg
 | _ :: _ :: _,[_],d,mo,sn,hg,_,_ => by cases hg
theorem Iw {O : bD} : ∀ (ps : List PT) (xs : List AV) (d : FX ps) {mo sn : List Nat},sO O ps xs = some (d,mo,sn) -> ps.length = xs.length
 | [],[],d,mo,sn,hg => rfl
 | [p],[x],d,mo,sn,hg => rfl
 | p :: q :: r,x :: y :: xs,d,mo,sn,hg => by
  have hg : (match sN O p x,sO O (q :: r) (y :: xs) with
   | some (d,a,b),some (d',a',b') => some ((d,d'),a ++ a',b ++ b')
   | _,_ => none) = some (d,mo,sn) := hg
  split at hg
  ·rename_i d1 a c d2 a' c' h1 h2
   rw [List.length_cons,List.length_cons (a := x),Iw (q :: r) (y :: xs) d2 h2]
  ·cases hg
 | [],_ :: _,d,mo,sn,hg => by cases hg
 | [_],[],d,mo,sn,hg => by cases hg
 | [_],_ :: _ :: _,d,mo,sn,hg => by cases hg
 | _ :: _ :: _,[],d,mo,sn,hg => by cases hg
 | _ :: _ :: _,[_],d,mo,sn,hg => by cases hg
theorem Fv {O : bD} : ∀ {l : List Nat},DL O l = true -> ∃ es,lC O l = some es
 | [],_ => ⟨[],rfl⟩
 | i :: r,h => by
  unfold DL at h
  rw [Bool.and_eq_true] at h
  obtain ⟨es,he⟩ := Fv h.2
  unfold lC
  split at h
  ·rename_i ts rows wr hl
   rw [hl,he]; exact ⟨_,rfl⟩
  ·cases h.1
theorem Iy : ∀ {xs : List AV} {l : List Nat},zl xs l = true -> xs = l.map fun i => AV.ptr i 0
 | [],[],_ => rfl
 | .ptr i 0 :: r,j :: l,h => by
  have h : (Nat.beq i j && zl r l) = true := h
  rw [Bool.and_eq_true] at h
  rw [Nat.eq_of_beq_eq_true h.1,Iy h.2]; rfl
 | [],_ :: _,h => by cases h
 | x :: _,[],h => by
  cases x with
  | ptr i off => cases off <;> cases h
  | _ => cases h
 | .ptr i (_ + 1) :: r,_ :: _,h => by cases h
 | .int .. :: _,_ :: _,h | .bool _ :: _,_ :: _,h | .str _ :: _,_ :: _,h | .aO :: _,_ :: _,h | .ro .. :: _,_ :: _,h | .own _ :: _,_ :: _,h | .fH :: _,_ :: _,h | .iJ .. :: _,_ :: _,h | .iY .. :: _,_ :: _,h
 | .aQ :: _,_ :: _,h | .func .. :: _,_ :: _,h | .o7 :: _,_ :: _,h | .iface .. :: _,_ :: _,h | .agg _ :: _,_ :: _,h | .BJ _ :: _,_ :: _,h | .undef :: _,_ :: _,h | .dead :: _,_ :: _,h | .mp _ :: _,_ :: _,h | .raw _ :: _,_ :: _,h | .sub .. :: _,_ :: _,h => by cases h
theorem Iz : ∀ {ps : List PT} {l : List Nat},pI ps 0 = true -> ps.length = l.length -> nX ps (l.map fun i => AV.ptr i 0) = l ∧ ∀ v : List Value,CX ps v = []
 | [],[],_,_ => ⟨rfl,fun v => rfl⟩
 | p :: r,i :: l,h,hl => by
  have h : (fB p && pI r 0) = true := h
  rw [Bool.and_eq_true] at h
  obtain ⟨k1,k2⟩ := Iz (l := l) h.2 (by simpa using hl)
  refine ⟨?_,fun v => ?_⟩
  ·show (bif fB p then [i] ++ nX r (l.map fun i => AV.ptr i 0) else _) = _
   rw [h.1,k1]; rfl
  ·cases v with
   | nil => rfl
   | cons a v => show (bif fB p then CX r v else _) = _; rw [h.1]; exact k2 v
theorem OY : ∀ {ps : List PT} {vs : List AV} {l : List Nat},pI ps vs.length = true -> ps.length = (vs ++ l.map fun i => AV.ptr i 0).length -> nX ps (vs ++ l.map fun i => AV.ptr i 0) = l ∧ ∀ lv lb : List Value,lv.length = vs.length -> CX ps (lv ++ lb) = lv
 | ps,[],l,h,hl => by
  obtain ⟨k1,k2⟩ := Iz (ps := ps) (l := l) h (by simpa using hl)
  refine ⟨k1,fun lv lb e => ?_⟩
  obtain rfl : lv = [] := List.length_eq_zero_iff.1 e
  exact k2 _
 | [],x :: vs,l,h,hl => by simp at hl
 | p :: ps,x :: vs,l,h,hl => by
  have h : (!fB p && pI ps vs.length) = true := h
  rw [Bool.and_eq_true,Bool.not_eq_true'] at h
  obtain ⟨k1,k2⟩ := OY (ps := ps) (vs := vs) (l := l) h.2 (by simpa using hl)
  refine ⟨?_,fun lv lb e => ?_⟩
  ·show (bif fB p then _ else nX ps (vs ++ l.map fun i => AV.ptr i 0)) = _
   rw [h.1]; exact k1
  ·cases lv with
   | nil => cases e
   | cons a lv =>
    show (bif fB p then _ else a :: CX ps (lv ++ lb)) = _
    rw [h.1,k2 lv lb (by simpa using e)]; rfl
def IB : Eff -> Nat
 | .kill i | .shut i _ _ | .dQ i => i
theorem IC {x : AV} : ∀ {es : List Eff},(∀ e ∈ es,e.av x = x) -> eP es x = x
 | [],_ => rfl
 | e :: r,h => by show eP r (e.av x) = x; rw [h e List.mem_cons_self]; exact IC fun e he => h e (List.mem_cons_of_mem _ he)
theorem rW (es : List Eff) : ∀ (t : CT) (d : t.D),eP es (t.av d) = t.av d
 | .int k,d => gY (fun e => by cases e <;> rfl) es
 | .bool,d => gY (fun e => by cases e <;> rfl) es
 | .str,d => gY (fun e => by cases e <;> rfl) es
 | .sl ts,d => gY (fun e => by cases e <;> rfl) es
theorem CY {es : List Eff} {n : Nat} (h : ∀ e ∈ es,IB e < n) (m : Md) (t : CT) (d : t.D) : eP es (dA m t d n).1 = (dA m t d n).1 ∧ ∀ q ∈ (dA m t d n).2.1,iT es q.2 = q.2 := by
 cases t with
 | sl ts =>
  cases m with
  | mv =>
   refine ⟨?_,fun q hq => ?_⟩
   ·show eP es (.own n) = .own n
    refine IC fun e he => ?_
    have hne : IB e ≠ n := Nat.ne_of_lt (h e he)
    cases e with
    | kill j => show (bif Nat.beq n j then AV.dead else .own n) = _; rw [cO (j := j) (fun x => hne x.symm)]; rfl
    | shut j ts rows => show (bif Nat.beq n j then AV.ro ts rows [] else .own n) = _; rw [cO (j := j) (fun x => hne x.symm)]; rfl
    | dQ j => rfl
   ·obtain rfl : q = (n,.arr ts d true) := by simpa [dA] using hq
    rfl
  | ro => exact ⟨rW es (.sl ts) d,fun q hq => by cases hq⟩
  | leak => exact ⟨rW es (.sl ts) d,fun q hq => by cases hq⟩
 | int k => cases m <;> exact ⟨rW es _ d,fun q hq => by cases hq⟩
 | bool => cases m <;> exact ⟨rW es _ d,fun q hq => by cases hq⟩
 | str => cases m <;> exact ⟨rW es _ d,fun q hq => by cases hq⟩
theorem mY {es : List Eff} : ∀ (ts : cZ) (ms : List Md) (d : ts.D) (n : Nat),(∀ e ∈ es,IB e < n) -> fU es (putCells ts ms d n).1 = (putCells ts ms d n).1 ∧ ∀ q ∈ (putCells ts ms d n).2.1,iT es q.2 = q.2
 | .one t,ms,d,n,h => by
  have gen : ∀ m,fU es [(dA m t d n).1] = [(dA m t d n).1] ∧ ∀ q ∈ (dA m t d n).2.1,iT es q.2 = q.2 := fun m => by
   have := CY h m t d
   refine ⟨?_,this.2⟩
   rw [lW,uj,this.1]
  cases ms with
  | nil => exact gen .ro
  | cons m _ => exact gen m
 | .cons t ts,ms,d,n,h => by
  cases ht : jL t with
  | false =>
   have e : putCells (.cons t ts) ms d n = (t.av d.1 :: (putCells ts ms d.2 n).1,(putCells ts ms d.2 n).2.1,(putCells ts ms d.2 n).2.2) := by
    show (bif jL t then _ else _) = _
    rw [ht]; rfl
   rw [e]
   have := mY ts ms d.2 n h
   refine ⟨?_,this.2⟩
   rw [lW,rW,this.1]
  | true =>
   obtain ⟨m,ms',e⟩ := Fq (ts := ts) (ms := ms) ht
   rw [e]
   have h1 := CY h m t d.1
   have h2 := mY ts ms' d.2 (dA m t d.1 n).2.2 fun e he => Nat.lt_of_lt_of_le (h e he) (wP m t d.1 n).1
   refine ⟨?_,fun q hq => (List.mem_append.1 hq).elim (h2.2 q) (h1.2 q)⟩
   rw [lW,h1.1,h2.1]
theorem Fz {es : List Eff} {boxes : List Nat} {p : PT} {d : p.sh.D} {n : Nat} (h : ∀ e ∈ es,IB e < n) : n <= (dY boxes p d n).2.2 ∧ ∀ q ∈ (dY boxes p d n).2.1,iT es q.2 = q.2 := by
 match p,d with
 | ⟨.one t,ms⟩,d =>
  have e : dY boxes ⟨.one t,ms⟩ d n = putCells (.one t) ms d n := Bl
  rw [e]
  exact ⟨(eG (.one t) ms d n).1,(mY (.one t) ms d n h).2⟩
 | ⟨.agg ts,ms⟩,d => exact ⟨(eG ts ms d n).1,(mY ts ms d n h).2⟩
 | ⟨.pz,ms⟩,d => exact ⟨Nat.le_refl n,fun q hq => by cases hq⟩
 | ⟨.st ts,ms⟩,d =>
  have k := mY ts ms d n h
  cases boxes with
  | nil => exact ⟨(eG ts ms d n).1,k.2⟩
  | cons b bs =>
   refine ⟨(eG ts ms d n).1,fun q hq => ?_⟩
   have hq : q ∈ (b,AO.box (putCells ts ms d n).1) :: (putCells ts ms d n).2.1 := hq
   rcases List.mem_cons.1 hq with e | hq
   ·subst e; show AO.box (fU es _) = _; rw [k.1]
   ·exact k.2 q hq
theorem FB {es : List Eff} : ∀ (ps : List PT) (boxes : List Nat) (d : FX ps) (n : Nat),(∀ e ∈ es,IB e < n) -> ∀ q ∈ (bZ boxes ps d n).2.1,iT es q.2 = q.2
 | [],boxes,d,n,h,q,hq => by cases hq
 | [p],boxes,d,n,h,q,hq => (Fz (p := p) (d := d) h).2 q hq
 | p :: p' :: r,boxes,d,n,h,q,hq => by
  have hq : q ∈ (bZ (bif fB p then mJ boxes else boxes) (p' :: r) d.2 (dY boxes p d.1 n).2.2).2.1 ++ (dY boxes p d.1 n).2.1 := hq
  have k := Fz (boxes := boxes) (p := p) (d := d.1) h
  rcases List.mem_append.1 hq with hq | hq
  ·exact FB (p' :: r) _ d.2 _ (fun e he => Nat.lt_of_lt_of_le (h e he) k.1) q hq
  ·exact k.2 q hq
end
end Go.E
end
section
namespace Go.E
section
variable {P : Program} {main : Bool} {Rl : Ow -> World -> World -> Prop}
theorem Via.weaken {S S' : Ow -> Frame -> List Frame -> World -> Prop} {o : Ow} {fr : Frame} {cs : List Frame} {w : World} (h : Via P main Rl S o fr cs w) (k : ∀ o fr cs w,S o fr cs w -> S' o fr cs w) : Via P main Rl S' o fr cs w :=
 h.trans fun o fr cs w x => .stop (k o fr cs w x)
theorem Via.grow {S : Ow -> Frame -> List Frame -> World -> Prop} {o : Ow} {fr : Frame} {cs : List Frame} {w : World} (h : Via P main Rl S o fr cs w) :
  Via P main Rl (fun o' fr cs w => S o' fr cs w ∧ (∀ b,o.u b -> o'.u b) ∧ ∀ b,o.s b -> o'.s b) o fr cs w := by
 induction h with
 | stop h => exact .stop ⟨h,fun _ x => x,fun _ x => x⟩
 | step a b _ ih => exact .step a b fun w2 hw => (ih w2 hw).weaken fun o' fr cs w x => ⟨x.1,fun b hb => x.2.1 b (.inl hb),fun b hb => x.2.2 b (.inl hb)⟩
theorem FC {boxes : List Nat} {p : PT} {d : p.sh.D} {n : Nat} : n <= (dY boxes p d n).2.2 ∧ ((∀ b ∈ boxes,b < n) -> Keys (dY boxes p d n).2.1 fun i => (fB p = true ∧ ∃ r,boxes = i :: r) ∨ (n <= i ∧ i < (dY boxes p d n).2.2)) := by
 match p,d with
 | ⟨.one t,ms⟩,d =>
  have e : dY boxes ⟨.one t,ms⟩ d n = putCells (.one t) ms d n := Bl
  rw [e]
  exact ⟨(eG (.one t) ms d n).1,fun _ => (eG (.one t) ms d n).2.mono fun i => .inr⟩
 | ⟨.agg ts,ms⟩,d => exact ⟨(eG ts ms d n).1,fun _ => (eG ts ms d n).2.mono fun i => .inr⟩
 | ⟨.pz,ms⟩,d => exact ⟨Nat.le_refl n,fun _ => Keys.nil⟩
 | ⟨.st ts,ms⟩,d =>
  cases boxes with
  | nil => exact ⟨(eG ts ms d n).1,fun _ => (eG ts ms d n).2.mono fun i => .inr⟩
  | cons b bs =>
   refine ⟨(eG ts ms d n).1,fun hb => ?_⟩
   refine ((Keys.one (i := b) (a := .box (putCells ts ms d n).1) (A := fun i => fB ⟨.st ts,ms⟩ = true ∧ ∃ r,b :: bs = i :: r) ⟨rfl,bs,rfl⟩).app (eG ts ms d n).2 fun i hi hi' => ?_)
   obtain ⟨_,r,e⟩ := hi
   cases e
   have := hb b List.mem_cons_self
   omega
theorem FD : ∀ (ps : List PT) (boxes : List Nat) (d : FX ps) (n : Nat),n <= (bZ boxes ps d n).2.2 ∧ ((∀ b ∈ boxes,b < n) -> boxes.Nodup -> Keys (bZ boxes ps d n).2.1 fun i => i ∈ boxes ∨ (n <= i ∧ i < (bZ boxes ps d n).2.2))
 | [],boxes,d,n => ⟨Nat.le_refl n,fun _ _ => Keys.nil⟩
 | [p],boxes,d,n => by
  obtain ⟨k1,k2⟩ := FC (boxes := boxes) (p := p) (d := d) (n := n)
  refine ⟨k1,fun hb _ => (k2 hb).mono fun i hi => ?_⟩
  rcases hi with ⟨_,r,rfl⟩ | hi
  ·exact .inl List.mem_cons_self
  ·exact .inr hi
 | p :: q :: r,boxes,d,n => by
  have hx : bZ boxes (p :: q :: r) d n = ((dY boxes p d.1 n).1 ++ (bZ (bif fB p then mJ boxes else boxes) (q :: r) d.2 (dY boxes p d.1 n).2.2).1,
    (bZ (bif fB p then mJ boxes else boxes) (q :: r) d.2 (dY boxes p d.1 n).2.2).2.1 ++ (dY boxes p d.1 n).2.1,(bZ (bif fB p then mJ boxes else boxes) (q :: r) d.2 (dY boxes p d.1 n).2.2).2.2) := rfl
  rw [hx]
  obtain ⟨k1,k2⟩ := FC (boxes := boxes) (p := p) (d := d.1) (n := n)
  obtain ⟨g1,g2⟩ := FD (q :: r) (bif fB p then mJ boxes else boxes) d.2 (dY boxes p d.1 n).2.2
  refine ⟨Nat.le_trans k1 g1,fun hb hn => ?_⟩
  have sub : ∀ i,i ∈ (bif fB p then mJ boxes else boxes) -> i ∈ boxes := fun i hi => by
   cases hp : fB p <;> rw [hp] at hi
   ·exact hi
   ·cases boxes with
    | nil => cases hi
    | cons b bs => exact List.mem_cons_of_mem _ hi
  have ndp : (bif fB p then mJ boxes else boxes).Nodup := by
   cases fB p
   ·exact hn
   ·cases boxes with
    | nil => exact hn
    | cons b bs => exact (List.nodup_cons.1 hn).2
  refine ((g2 (fun b hb' => Nat.lt_of_lt_of_le (hb b (sub b hb')) k1) ndp).app (k2 hb) fun i hi hi' => ?_).mono fun i hi => ?_
  ·rcases hi' with ⟨hp,r',rfl⟩ | hi'
   ·rcases hi with hi | hi
    ·rw [hp] at hi
     have hi : i ∈ r' := hi
     exact (List.nodup_cons.1 hn).1 hi
    ·have := hb i List.mem_cons_self
     omega
   ·rcases hi with hi | hi
    ·have := hb i (sub i hi); omega
    ·omega
  ·rcases hi with (hi | hi) | ⟨_,r',rfl⟩ | hi
   ·exact .inl (sub i hi)
   ·dsimp only; omega
   ·exact .inl List.mem_cons_self
   ·dsimp only; omega
theorem Bo : ∀ (ps : List PT) (boxes : List Nat) (d : FX ps) (n : Nat),boxes.length = jf ps -> ∀ b ∈ boxes,∃ cs,(b,AO.box cs) ∈ (bZ boxes ps d n).2.1
 | [],boxes,d,n,hl,b,hb => by
  obtain rfl : boxes = [] := List.length_eq_zero_iff.1 hl
  cases hb
 | [p],boxes,d,n,hl,b,hb => by
  match p,d,hl with
  | ⟨.st ts,ms⟩,d,hl =>
   have hl : boxes.length = 0 + 1 := hl
   match boxes,hl,hb with
   | [b'],_,hb =>
    obtain rfl := List.mem_singleton.1 hb
    exact ⟨_,List.mem_cons_self⟩
  | ⟨.one t,ms⟩,d,hl => obtain rfl : boxes = [] := List.length_eq_zero_iff.1 hl; cases hb
  | ⟨.agg ts,ms⟩,d,hl => obtain rfl : boxes = [] := List.length_eq_zero_iff.1 hl; cases hb
  | ⟨.pz,ms⟩,d,hl => obtain rfl : boxes = [] := List.length_eq_zero_iff.1 hl; cases hb
 | p :: q :: r,boxes,d,n,hl,b,hb => by
  have hx : (bZ boxes (p :: q :: r) d n).2.1 = (bZ (bif fB p then mJ boxes else boxes) (q :: r) d.2 (dY boxes p d.1 n).2.2).2.1 ++ (dY boxes p d.1 n).2.1 := rfl
  rw [hx]
  have hl : boxes.length = bif fB p then jf (q :: r) + 1 else jf (q :: r) := hl
  cases hp : fB p with
  | false =>
   rw [hp] at hl
   obtain ⟨cs,h⟩ := Bo (q :: r) boxes d.2 (dY boxes p d.1 n).2.2 hl b hb
   exact ⟨cs,List.mem_append.2 (.inl h)⟩
  | true =>
   rw [hp] at hl
   cases boxes with
   | nil => cases hb
   | cons b' bs =>
    rcases List.mem_cons.1 hb with e | hb
    ·subst e
     match p,d,hp with
     | ⟨.st ts,ms⟩,d,_ => exact ⟨_,List.mem_append.2 (.inr List.mem_cons_self)⟩
    ·obtain ⟨cs,h⟩ := Bo (q :: r) bs d.2 (dY (b' :: bs) p d.1 n).2.2 (by simpa using hl) b hb
     exact ⟨cs,List.mem_append.2 (.inl h)⟩
theorem IE : ∀ {ps : List PT} {n : Nat},pI ps n = true -> ps.length = n + jf ps
 | [],0,_ => rfl
 | [],_ + 1,h => by cases h
 | p :: r,0,h => by
  have h : (fB p && pI r 0) = true := h
  rw [Bool.and_eq_true] at h
  have := IE h.2
  show r.length + 1 = 0 + (bif fB p then jf r + 1 else jf r)
  rw [h.1,cond_true]; omega
 | p :: r,n + 1,h => by
  have h : (!fB p && pI r n) = true := h
  rw [Bool.and_eq_true,Bool.not_eq_true'] at h
  have := IE h.2
  show r.length + 1 = n + 1 + (bif fB p then jf r + 1 else jf r)
  rw [h.1,cond_false]; omega
theorem ZP {E : Env} {vs : List AV} {v : Value} (h : VR E (jy vs) v) : ∃ lv,dw E vs lv ∧ ∀ (E2 : Env) vs2,dw E2 vs2 lv -> VR E2 (jy vs2) v := by
 match vs,h with
 | [x],h =>
  refine ⟨[v],by unfold dw; exact ⟨v,[],rfl,h,by unfold dw; rfl⟩,fun E2 vs2 h2 => ?_⟩
  match vs2,h2 with
  | [y],h2 =>
   unfold dw at h2
   obtain ⟨u,q,e,h2,_⟩ := h2
   cases e; exact h2
  | [],h2 => unfold dw at h2; cases h2
  | _ :: _ :: _,h2 =>
   unfold dw at h2
   obtain ⟨u,q,e,h2,h3⟩ := h2
   cases e
   unfold dw at h3
   obtain ⟨_,_,e,_⟩ := h3
   cases e
 | [],h1 =>
  unfold jy VR at h1
  obtain ⟨l,rfl,h3⟩ := h1
  unfold dw at h3; subst h3
  refine ⟨[],by unfold dw; rfl,fun E2 vs2 h2 => ?_⟩
  match vs2,h2 with
  | [],h2 => unfold jy VR; exact ⟨[],rfl,h2⟩
  | _ :: _,h2 => unfold dw at h2; obtain ⟨_,_,e,_⟩ := h2; cases e
 | x :: y :: r,h1 =>
  unfold jy VR at h1
  obtain ⟨l,rfl,h3⟩ := h1
  refine ⟨l,h3,fun E2 vs2 h2 => ?_⟩
  have e1 := lV h3
  match vs2,h2 with
  | [],h2 => have e2 := lV h2; rw [e1] at e2; simp at e2
  | [_],h2 => have e2 := lV h2; rw [e1] at e2; simp at e2
  | _ :: _ :: _,h2 => unfold jy VR; exact ⟨l,rfl,h2⟩
theorem KC {E : Env} {tm : List (Nat × AV)} {tmps : Array Value} (h : kH E tm tmps) : ∀ {l : List Nat} {bs : List AV},slotsOf tm l = some bs -> ∃ lb,dw E bs lb
 | [],bs,hs => by cases hs; exact ⟨[],by unfold dw; rfl⟩
 | i :: r,bs,hs => by
  unfold slotsOf at hs
  split at hs
  ·rename_i v vs h1 h2
   cases hs
   obtain ⟨lb,h3⟩ := KC h h2
   exact ⟨_ :: lb,by unfold dw; exact ⟨_,lb,rfl,h i v h1,h3⟩⟩
  ·cases hs
end
end Go.E
end
section
namespace Go.E
section
variable {X : Ctx} {o o' : Ow} {E E1 Eo : Env} {ay agS : Nat}
theorem uV : ∀ (l : List Nat) (i : Nat),look (iG l) i = if i ∈ l then some .dead else none
 | [],i => by simp [iG,look]
 | j :: r,i => by
  show (bif Nat.beq j i then some AO.dead else look (iG r) i) = _
  by_cases e : j = i
  ·subst e; simp
  ·rw [cO e,cond_false,uV r]
   have : i ≠ j := fun x => e x.symm
   simp [this]
theorem Lets.ids {O : bD} {es : List Eff} {mv : List Nat} (h : Lets O es mv) : ∀ e ∈ es,∃ a,look O (IB e) = some a := by
 induction h with
 | nil => intro e he; cases he
 | shut a _ ih =>
  intro e he
  rcases List.mem_cons.1 he with x | he
  ·subst x; exact ⟨_,a⟩
  ·exact ih e he
 | gone a _ ih =>
  intro e he
  rcases List.mem_cons.1 he with x | he
  ·subst x; exact ⟨_,a⟩
  ·rcases List.mem_cons.1 he with x | he
   ·subst x; exact ⟨_,a⟩
   ·exact ih e he
theorem qo.arr {O : bD} {es : List Eff} (h : qo O es) : ∀ i,bC i es = true -> ∃ ts rows wr,look O i = some (.arr ts rows wr) := h.lets.sealed
theorem CZ : ∀ (m n k : Nat),k < m -> (jE n m)[k]? = some (n + k)
 | 0,n,k,h => by omega
 | m + 1,n,0,h => rfl
 | m + 1,n,k + 1,h => by
  show (jE (n + 1) m)[k]? = _
  rw [CZ m (n + 1) k (by omega)]
  congr 1; omega
theorem wQ : ∀ (n m : Nat),(jE n m).length = m
 | _,0 => rfl
 | n,m + 1 => by show (jE (n + 1) m).length + 1 = _; rw [wQ]
theorem acn (g : FuncId) (h : OK X o E ay) {ps : List PT} {xs : List AV} {d : FX ps} {es : List Eff} {mo us bs : List Nat} (hg : getArgs E.O ps xs = some (d,es,mo,us,bs)) (hn : (mo ++ bs).Nodup)
  (w1 : E1.w = E.w) (r1 : E1.ρ = E.ρ) (g1 : E1.F = E.F) (ok1 : OK X o E1 ay) (st1 : Step E E1 es) (l1 : ∀ i,look E1.O i = if i ∈ mo ∨ bC i es = true then (look E.O i).map fun _ => .dead else (look E.O i).map (iT es))
  (U5 : ∀ i ∈ mo ++ bs,∀ b,(E.ρ i).b = some b -> ¬ E1.N b) (oko : OK (uI g E E1 o (mo ++ bs) bs) o' Eo agS) (hou : ∀ b,o.u b -> o'.u b) (hos : ∀ b,o.s b -> o'.s b)
  {rs : List PT} {vs : List AV} {r : FX rs} {mo' sn : List Nat} {lv lb : List Value} (hout : sO Eo.O rs (vs ++ (jE 1 bs.length).map fun i => AV.ptr i 0) = some (r,mo',sn)) (hrs : pI rs vs.length = true)
  (hv : dw Eo (vs ++ (jE 1 bs.length).map fun i => AV.ptr i 0) (lv ++ lb)) (hlv : lv.length = vs.length) (hnd : mo'.Nodup) (hap : ∀ i ∈ mo',i ∉ sn) (hsn : DL Eo.O sn = true) :
  ∃ E2 : Env,E2.w = Eo.w ∧ E2.O = dh es ((bZ bs rs r ay).2.1 ++ (iG mo ++ E.O)) ∧ OK X o' E2 (bZ bs rs r ay).2.2 ∧ Step E E2 es ∧ dw E2 (bZ bs rs r ay).1 lv := by
 obtain ⟨f1,f2,f3,f4,f5⟩ := qg ps xs d hg
 obtain ⟨ess,aec⟩ := Fv hsn
 obtain ⟨q1,q2⟩ := mV aec
 obtain ⟨Es,ws,rs_,fs,ls,oks,sts,ns,ms⟩ := vC q1 oko fun _ _ _ _ hx => .inl hx
 have hsh : zK Eo Es sn := fun i hi => by
  have hsi := q2 i hi
  obtain ⟨ts,rows,wr,hl⟩ := q1.arr i hsi
  exact ⟨(oko.num i _ hl).2,fun b ts' rows' wr' hl' hb => ⟨ms i ts' rows' wr' b hsi hl' hb,by rw [ws]⟩⟩
 have hlen := Iw rs _ r hout
 obtain ⟨hst,hkv⟩ := OY (l := jE 1 bs.length) hrs hlen
 have agT : bs.length = jf rs := by
  have := IE hrs
  rw [List.length_append,List.length_map,wQ] at hlen
  omega
 have Xb : ∀ b ∈ bs,b < ay := fun b hb => by obtain ⟨cs,hc⟩ := f4 b hb; exact (h.num b _ hc).1
 have agU : bs.Nodup := (List.nodup_append.1 hn).2.1
 have aed : ∀ e ∈ es,IB e < ay := fun e he => by obtain ⟨a,ha⟩ := f1.ids e he; exact (h.num _ a ha).1
 have live0 : ∀ i ∈ mo ++ bs,∃ a,look E.O i = some a ∧ live a = true := fun i hi => by
  rcases List.mem_append.1 hi with hi | hi
  ·obtain ⟨_,_,_,hl⟩ := f1.mem i hi; exact ⟨_,hl,rfl⟩
  ·obtain ⟨_,hl⟩ := f4 i hi; exact ⟨_,hl,rfl⟩
 have KD : ∀ k b,bs[k]? = some b -> (Eo.ρ (1 + k)).b = (E.ρ b).b ∧ ∃ cs,look Eo.O (1 + k) = some (.box cs) := fun k b hk => by
  obtain ⟨cs,hc⟩ := f4 b (List.mem_of_getElem? hk)
  obtain ⟨blk,_,_,_,hblk,_⟩ := h.obj b _ hc
  have hm := OU (E := E) bs 1 k b hk
  have := oko.bx _ hm
  rw [hblk] at this
  unfold VR at this
  obtain ⟨cs',blk',e1,e2,e3⟩ := this
  have e3 : Value.pointer (some ⟨blk,0,none⟩) = Value.pointer (some ⟨blk',0,none⟩) := e3
  cases e3
  exact ⟨by rw [e2,hblk],cs',e1⟩
 have stand : ∀ b,(uI g E E1 o (mo ++ bs) bs).G b -> Eo.w.heap[b]? = E.w.heap[b]? := fun b hb => (oko.kept b hb).2.1
 have GN : ∀ b,E1.N b -> (uI g E E1 o (mo ++ bs) bs).G b := fun b hb => by
  have := ok1.zn b hb
  rw [w1] at this
  exact ⟨this.1,this.2.1,fun i hi hib => U5 i hi b hib hb⟩
 have GX : ∀ b,X.G b -> (uI g E E1 o (mo ++ bs) bs).G b := fun b hb =>
  ⟨h.Zv (.inr hb),(h.kept b hb).2.2,fun i hi hib => (h.own i b (live0 i hi) hib).2.2.1 hb⟩
 have GL : ∀ i b,Live E i -> i ∉ mo ++ bs -> (E.ρ i).b = some b -> (uI g E E1 o (mo ++ bs) bs).G b := fun i b hi hni hb => by
  have ho := h.own i b hi hb
  refine ⟨ho.1,h.us b ho.2.2.2,fun j hj hjb => ?_⟩
  have := h.inj i j b hi (live0 j hj) hb hjb
  subst this; exact hni hj
 let objs := (bZ bs rs r ay).2.1
 let srcs := jg Eo.O rs (vs ++ (jE 1 bs.length).map fun i => AV.ptr i 0)
 obtain ⟨kn,kk⟩ := FD rs bs r ay
 have kk := kk Xb agU
 let E2 : Env := ⟨Eo.w,fun i => if i < ay then E.ρ i else qO Eo ((srcs[i - ay]?).getD none),fun b => E1.N b ∨ Es.N b,E.F,dh es (objs ++ (iG mo ++ E.O))⟩
 have LW : ∀ i,i < ay -> E2.ρ i = E.ρ i := fun i hi => if_pos hi
 have agV : ∀ k,E2.ρ (ay + k) = qO Eo ((srcs[k]?).getD none) := fun k => by
  show (if ay + k < ay then _ else _) = _
  rw [if_neg (by omega),Nat.add_sub_cancel_left]
 have Xc : ∀ q ∈ objs,look E2.O q.1 = some q.2 := fun q hq => by
  show look (dh es (objs ++ (iG mo ++ E.O))) q.1 = _
  rw [bV,iH,Bh kk.1 hq]
  have hns : ¬ bC q.1 es = true := fun hs => by
   obtain ⟨ts,rows,wr,hl⟩ := f1.sealed _ hs
   rcases kk.2 q hq with hb | hb
   ·obtain ⟨cs,hc⟩ := f4 _ hb; rw [hl] at hc; cases hc
   ·have := (h.num _ _ hl).1; omega
  rw [if_neg hns]
  show some (iT es q.2) = _
  rw [FB rs bs r ay aed q hq]
 have OZ : ∀ i,i ∉ bs -> i < ay -> look E2.O i = look E1.O i := fun i hi hlt => by
  show look (dh es (objs ++ (iG mo ++ E.O))) i = _
  have hno : look objs i = none := uH (A := fun i => i ∈ bs ∨ (ay <= i ∧ i < (bZ bs rs r ay).2.2)) kk.2 (by
   rintro (x | x)
   ·exact hi x
   ·omega)
  rw [bV,iH,hno,l1]
  dsimp only
  rw [iH,uV]
  by_cases hm : i ∈ mo
  ·obtain ⟨ts,rows,wr,hl⟩ := f1.mem i hm
   rw [if_pos hm,if_pos (Or.inl hm),hl]
   split <;> rfl
  ·rw [if_neg hm]
   dsimp only
   by_cases hs : bC i es = true
   ·obtain ⟨ts,rows,wr,hl⟩ := f1.sealed i hs
    rw [if_pos hs,if_pos (Or.inr hs),hl]; rfl
   ·rw [if_neg hs,if_neg (by rintro (x | x); exact hm x; exact hs x)]
 have agW : ∀ i,ay <= i -> ∀ a,look E2.O i = some a -> (i,a) ∈ objs := fun i hi a ha => by
  have ha : look (dh es (objs ++ (iG mo ++ E.O))) i = some a := ha
  cases hlo : look objs i with
  | some a' =>
   have := Xc (i,a') (qy hlo)
   have this : look (dh es (objs ++ (iG mo ++ E.O))) i = some a' := this
   rw [ha] at this; cases this
   exact qy hlo
  | none =>
   rw [bV,iH,hlo] at ha
   dsimp only at ha
   rw [iH,uV] at ha
   have h0 : look E.O i = none := by
    cases hl : look E.O i with
    | none => rfl
    | some a => have := (h.num i a hl).1; omega
   have hm : i ∉ mo := fun x => by obtain ⟨ts,rows,wr,hl⟩ := f1.mem i x; rw [h0] at hl; cases hl
   have hs : ¬ bC i es = true := fun x => by obtain ⟨ts,rows,wr,hl⟩ := f1.sealed i x; rw [h0] at hl; cases hl
   rw [if_neg hs,if_neg hm] at ha
   dsimp only at ha
   rw [h0] at ha; cases ha
 have aaJ : ∀ b ∈ bs,∃ cs,look E2.O b = some (.box cs) ∧ (b,AO.box cs) ∈ objs := fun b hb => by
  obtain ⟨cs,hc⟩ := Bo rs bs r ay agT b hb
  exact ⟨cs,Xc _ hc,hc⟩
 have L : Back Eo Es E2 := ⟨rfl,ws,ns,fun b hb => .inr hb⟩
 obtain ⟨p1,p2,p3,p4⟩ := OX (E2 := E2) oko L rs _ r (lv ++ lb) bs ay hout hv hsh Xc (fun k q hq => by
   have hq : srcs[k]? = some q := hq
   rw [agV,hq]; rfl) (by rw [hst,wQ]; exact Nat.le_refl _) (fun k id b hk hb => by
   rw [hst] at hk
   have hlt : k < bs.length := by
    rcases Nat.lt_or_ge k bs.length with y | y
    ·exact y
    ·rw [List.getElem?_eq_none y] at hb; cases hb
   rw [CZ _ _ _ hlt] at hk
   cases hk
   rw [LW b (Xb b (List.mem_of_getElem? hb))]
   exact (KD k b hb).1.symm)
 rw [hkv lv lb hlv] at p1
 have Xd : ∀ i b,ay <= i -> Live E2 i -> (E2.ρ i).b = some b -> ∃ id,srcs[i - ay]? = some (some id) ∧ id ∈ mo' ∧ (Eo.ρ id).b = some b ∧ ∃ ts rows wr,look Eo.O id = some (.arr ts rows wr) := fun i b hi hl hb => by
  have hb : (if i < ay then E.ρ i else qO Eo ((srcs[i - ay]?).getD none)).b = some b := hb
  rw [if_neg (by omega)] at hb
  cases hx : srcs[i - ay]? with
  | none => rw [hx] at hb; cases hb
  | some q =>
   rw [hx] at hb
   cases q with
   | none => cases hb
   | some id =>
    refine ⟨id,rfl,?_,hb,Iu rs _ r hout id (List.mem_of_getElem? hx)⟩
    rw [p4]
    exact List.mem_filterMap.2 ⟨some id,List.mem_of_getElem? hx,rfl⟩
 have aaK : ∀ id ∈ mo',∀ ts rows wr,look Eo.O id = some (.arr ts rows wr) -> ∃ a,look Es.O id = some a ∧ live a = true := fun id hid ts rows wr hl => by
  refine ⟨.arr ts rows wr,?_,rfl⟩
  rw [ls,bV]
  have : ¬ bC id ess = true := fun hs => hap id hid (wO aec hs)
  rw [if_neg this,hl]; rfl
 have aaL : ∀ k b,bs[k]? = some b -> ∃ a,look Es.O (1 + k) = some a ∧ live a = true := fun k b hk => by
  obtain ⟨_,cs,hc⟩ := KD k b hk
  refine ⟨iT ess (.box cs),?_,rfl⟩
  rw [ls,bV]
  have : ¬ bC (1 + k) ess = true := fun hs => by
   obtain ⟨ts,rows,wr,hl⟩ := q1.arr _ hs
   rw [hc] at hl; cases hl
  rw [if_neg this,hc]; rfl
 have keep : Keep E1 E2 fun _ => False := by
  refine ⟨fun b hb => ⟨.inl hb,by rw [w1]; exact stand b (GN b hb)⟩,fun b hb => ⟨by rw [g1] at hb; exact hb,by rw [w1]; exact stand b (GX b (ok1.fg b hb))⟩,fun i _ ts rows wr hl => ?_,fun i cs hl => ?_,fun i m hl => ?_⟩
  ·have hlt := (ok1.num i _ hl).1
   have hl' := hl
   rw [l1] at hl'
   have hnm : ¬ (i ∈ mo ∨ bC i es = true) := fun x => by
    rw [if_pos x] at hl'
    obtain ⟨a,_,e⟩ := Option.map_eq_some_iff.1 hl'
    cases e
   rw [if_neg hnm] at hl'
   obtain ⟨a,ha,e⟩ := Option.map_eq_some_iff.1 hl'
   have ha' : look E.O i = some (.arr ts rows wr) := by cases a <;> cases e; exact ha
   have hnb : i ∉ bs := fun x => by obtain ⟨cs,hc⟩ := f4 i x; rw [ha'] at hc; cases hc
   refine ⟨by rw [OZ i hnb hlt]; exact hl,by rw [LW i hlt,r1],fun b hb => ?_⟩
   rw [r1] at hb
   rw [w1]
   exact stand b (GL i b ⟨_,ha',rfl⟩ (fun x => (List.mem_append.1 x).elim (fun y => hnm (.inl y)) hnb) hb)
  ·have hlt := (ok1.num i _ hl).1
   by_cases hb : i ∈ bs
   ·obtain ⟨cs',hc',_⟩ := aaJ i hb
    exact ⟨cs',hc',by rw [LW i hlt,r1]⟩
   ·exact ⟨cs,by rw [OZ i hb hlt]; exact hl,by rw [LW i hlt,r1]⟩
  ·have hlt := (ok1.num i _ hl).1
   have hl' := hl
   rw [l1] at hl'
   have hnm : ¬ (i ∈ mo ∨ bC i es = true) := fun x => by
    rw [if_pos x] at hl'
    obtain ⟨a,_,e⟩ := Option.map_eq_some_iff.1 hl'
    cases e
   rw [if_neg hnm] at hl'
   obtain ⟨a,ha,e⟩ := Option.map_eq_some_iff.1 hl'
   have ha' : look E.O i = some (.map m) := by cases a <;> cases e; exact ha
   have hnb : i ∉ bs := fun x => by obtain ⟨cs,hc⟩ := f4 i x; rw [ha'] at hc; cases hc
   exact ⟨m,by rw [OZ i hnb hlt]; exact hl,by rw [LW i hlt,r1]⟩
 have st2 : Step E E2 es := by have := st1.trans keep.step; rwa [List.append_nil] at this
 refine ⟨E2,rfl,rfl,?_,st2,p1⟩
 refine ok1.next keep.step (fun i => i ∈ bs ∨ ay <= i) (fun b hb => by rw [w1]; exact stand b (hb.elim (GN b) (GX b))) (by rw [w1]; exact oko.size) (fun b hb => .inl hb) g1.symm hou hos oko.us kn ?_ ?_ ?_ ?_
 ·intro i a hi hni
  have hnb : i ∉ bs := fun x => hni (.inl x)
  have hlt : i < ay := Nat.lt_of_not_le fun x => hni (.inr x)
  rw [OZ i hnb hlt] at hi
  refine ⟨a,hi,(lX a).symm,fun l => ⟨by rw [LW i hlt,r1],fun b hb => ?_⟩⟩
  have ho := ok1.own i b ⟨a,hi,l⟩ hb
  rw [r1] at hb
  have hnm : i ∉ mo ∧ ∃ a0,look E.O i = some a0 ∧ live a0 = true := by
   rw [l1] at hi
   by_cases x : i ∈ mo ∨ bC i es = true
   ·rw [if_pos x] at hi
    obtain ⟨a0,_,e⟩ := Option.map_eq_some_iff.1 hi
    subst e; cases l
   ·rw [if_neg x] at hi
    obtain ⟨a0,h0,e⟩ := Option.map_eq_some_iff.1 hi
    subst e
    rw [pO] at l
    exact ⟨fun y => x (.inl y),a0,h0,l⟩
  have hG := GL i b hnm.2 (fun x => (List.mem_append.1 x).elim hnm.1 hnb) hb
  refine ⟨?_,by rw [w1]; exact stand b hG⟩
  rintro (hN | hN)
  ·exact ho.2.1 hN
  ·exact ho.2.1 ((oks.zn b hN).2.2 hG)
 ·intro i a hsp hi
  have hmem : (i,a) ∈ objs := by
   rcases hsp with hb | hge
   ·obtain ⟨cs,hc,hm⟩ := aaJ i hb
    rw [hc] at hi; cases hi; exact hm
   ·exact agW i hge a hi
  have hk := kk.2 _ hmem
  refine ⟨?_,?_,p2 _ hmem⟩
  ·rcases hk with hb | hb
   ·exact Nat.lt_of_lt_of_le (Xb i hb) kn
   ·exact hb.2
  ·rcases hk with hb | hb
   ·obtain ⟨cs,hc⟩ := f4 i hb; exact (h.num i _ hc).2
   ·have := h.pos; unfold foreign; have := hb.1; dsimp only at this; omega
 ·intro i b hsp hli hb
  have U6 : ∃ j,(Es.ρ j).b = some b ∧ (∃ a,look Es.O j = some a ∧ live a = true) ∧ ((∃ k,bs[k]? = some i ∧ j = 1 + k) ∨ (ay <= i ∧ srcs[i - ay]? = some (some j) ∧ ∃ ts rows wr,look Eo.O j = some (.arr ts rows wr))) := by
   by_cases hbs : i ∈ bs
   ·obtain ⟨k,hk⟩ := List.getElem?_of_mem hbs
    rw [LW i (Xb i hbs)] at hb
    exact ⟨1 + k,by rw [rs_,(KD k i hk).1]; exact hb,aaL k i hk,.inl ⟨k,hk,rfl⟩⟩
   ·have hge : ay <= i := hsp.resolve_left hbs
    obtain ⟨id,s1,s2,s3,ts,rows,wr,s4⟩ := Xd i b hge hli hb
    exact ⟨id,by rw [rs_]; exact s3,aaK id s2 ts rows wr s4,.inr ⟨hge,s1,ts,rows,wr,s4⟩⟩
  obtain ⟨j,j1,j2,j3⟩ := U6
  have ho := oks.own j b j2 j1
  rw [ws] at ho
  refine ⟨ho.1,?_,fun hX => ho.2.2.1 (GX b hX),ho.2.2.2,?_⟩
  ·rintro (hN | hN)
   ·exact ho.2.2.1 (GN b hN)
   ·exact ho.2.1 hN
  ·intro i' aee hb'
   by_cases hsp' : i' ∈ bs ∨ ay <= i'
   ·
    have num' : ∃ j',(Es.ρ j').b = some b ∧ (∃ a,look Es.O j' = some a ∧ live a = true) ∧ ((∃ k,bs[k]? = some i' ∧ j' = 1 + k) ∨ (ay <= i' ∧ srcs[i' - ay]? = some (some j') ∧ ∃ ts rows wr,look Eo.O j' = some (.arr ts rows wr))) := by
     by_cases hbs : i' ∈ bs
     ·obtain ⟨k,hk⟩ := List.getElem?_of_mem hbs
      rw [LW i' (Xb i' hbs)] at hb'
      exact ⟨1 + k,by rw [rs_,(KD k i' hk).1]; exact hb',aaL k i' hk,.inl ⟨k,hk,rfl⟩⟩
     ·have hge : ay <= i' := hsp'.resolve_left hbs
      obtain ⟨id,s1,s2,s3,ts,rows,wr,s4⟩ := Xd i' b hge aee hb'
      exact ⟨id,by rw [rs_]; exact s3,aaK id s2 ts rows wr s4,.inr ⟨hge,s1,ts,rows,wr,s4⟩⟩
    obtain ⟨j',t1,t2,t3⟩ := num'
    have := oks.inj j j' b j2 t2 j1 t1
    subst this
    rcases j3 with ⟨k,a1,a2⟩ | ⟨a0,a1,ts,rows,wr,a2⟩ <;> rcases t3 with ⟨k',c1,c2⟩ | ⟨c0,c1,ts',rows',wr',c2⟩
    ·have : k = k' := by omega
     subst this
     rw [a1] at c1; cases c1; rfl
    ·obtain ⟨_,cs,hc⟩ := KD k i a1
     rw [<- a2,c2] at hc; cases hc
    ·obtain ⟨_,cs,hc⟩ := KD k' i' c1
     rw [<- c2,a2] at hc; cases hc
    ·have := LV (l := srcs) (by rw [show srcs.filterMap id = mo' from p4.symm]; exact hnd) a1 c1
     omega
   ·
    exfalso
    have hnb : i' ∉ bs := fun x => hsp' (.inl x)
    have hlt : i' < ay := Nat.lt_of_not_le fun x => hsp' (.inr x)
    obtain ⟨a,ha,la⟩ := aee
    rw [OZ i' hnb hlt] at ha
    rw [LW i' hlt] at hb'
    have hnm : i' ∉ mo ∧ ∃ a0,look E.O i' = some a0 ∧ live a0 = true := by
     rw [l1] at ha
     by_cases x : i' ∈ mo ∨ bC i' es = true
     ·rw [if_pos x] at ha
      obtain ⟨a0,_,e⟩ := Option.map_eq_some_iff.1 ha
      subst e; cases la
     ·rw [if_neg x] at ha
      obtain ⟨a0,h0,e⟩ := Option.map_eq_some_iff.1 ha
      subst e
      rw [pO] at la
      exact ⟨fun y => x (.inl y),a0,h0,la⟩
    exact ho.2.2.1 (GL i' b hnm.2 (fun x => (List.mem_append.1 x).elim hnm.1 hnb) hb')
 ·rintro b (hb | hb)
  ·have := ok1.zn b hb
   rw [w1] at this
   exact ⟨Nat.lt_of_lt_of_le this.1 oko.size,hos b this.2.1,this.2.2⟩
  ·have := oks.zn b hb
   rw [ws] at this
   refine ⟨this.1,this.2.1,fun hX => ?_⟩
   have hN1 : E1.N b := this.2.2 (GX b hX)
   exact (ok1.zn b hN1).2.2 hX
end
end Go.E
end
section
namespace Go.E
section
variable {P : Program} {main : Bool} {Rl : Ow -> World -> World -> Prop} {C : kG} {Rc : ak} {R : Type} {X : Ctx} {cs0 : List Frame} {Stop : R -> Ow -> Frame -> List Frame -> World -> Prop}
def Good (P : Program) (main : Bool) (Rl : Ow -> World -> World -> Prop) (C : kG) (Rc : ak) : Prop :=
 ∀ f s a r,Rc f s a = some r -> ∃ fn body,look C.fns f = some fn ∧ fn.body = some body ∧ ∀ X cs0,Goes P main Rl X cs0 (Out C s X cs0 r) (start f body s a)
theorem Xe {K : KK R} {r : R} {tm : List (Nat × AV)} {O : bD} {ay : Nat} {op : Oper} {q : FuncId × List AV} (hop : callee C tm op.op = some q) (h : fA C Rc tm O ay op K = some r) :
  ∃ s,look C.sig q.1 = some s ∧ qN Rc q.1 s O ay q.2 K = some r := by
 obtain ⟨dst,op,ty,pos,aft,guard⟩ := op
 obtain ⟨g,vs⟩ := q
 have hA : ∀ {A : Option R},(A = match callee C tm op with
  | some (g,vs) => match look C.sig g with
   | some s => qN Rc g s O ay vs K
   | none => none
  | none => none) -> A = some r -> ∃ s,look C.sig g = some s ∧ qN Rc g s O ay vs K = some r := by
  intro A e h
  rw [e] at h
  have hop : callee C tm op = some (g,vs) := hop
  rw [hop] at h
  dsimp only at h
  split at h
  ·rename_i s hs; exact ⟨s,hs,h⟩
  ·cases h
 cases op with
 | call c =>
  obtain ⟨cal,args,tys⟩ := c
  cases cal with
  | builtin b => cases hop
  | value f => exact hA rfl h
  | invoke x m => exact hA rfl h
 | _ => cases hop
theorem Q8 {f : FuncId} {s : fM} {O : bD} {ay : Nat} {args : List AV} {K : KK R} {r : R} (h : qN Rc f s O ay args K = some r) :
  ∃ d iF moved used boxes b,getArgs O s.ps args = some (d,iF,moved,used,boxes) ∧ (moved ++ boxes).Nodup ∧ apart moved used = true ∧ Rc f s d = some b ∧
   (K (jy (bZ boxes s.rs b ay).1) ((bZ boxes s.rs b ay).2.1 ++ (iG moved ++ O)) (bZ boxes s.rs b ay).2.2 iF = some r ∨
    (iF = [] ∧ moved = [] ∧ (∀ q ∈ (bZ boxes s.rs b ay).2.1,look O q.1 = some q.2) ∧ K (jy (bZ boxes s.rs b ay).1) O (bZ boxes s.rs b ay).2.2 [] = some r)) := by
 unfold qN at h
 split at h
 ·rename_i d iF moved used boxes hg
  obtain ⟨hn,h⟩ := bH h
  rw [Bool.and_eq_true] at hn
  obtain ⟨b,hb,h⟩ := Option.bind_eq_some_iff.1 h
  have h : (bif s.lk then (bif iF.isEmpty && moved.isEmpty then kR boxes O (bZ boxes s.rs b ay).2.1 (K (jy (bZ boxes s.rs b ay).1) O (bZ boxes s.rs b ay).2.2 []) else none)
   else K (jy (bZ boxes s.rs b ay).1) ((bZ boxes s.rs b ay).2.1 ++ (iG moved ++ O)) (bZ boxes s.rs b ay).2.2 iF) = some r := h
  refine ⟨d,iF,moved,used,boxes,b,hg,nodup_iff.1 hn.1,hn.2,hb,?_⟩
  cases hlk : s.lk with
  | false => rw [hlk,cond_false] at h; exact .inl h
  | true =>
   rw [hlk,cond_true] at h
   obtain ⟨he,h⟩ := bH h
   rw [Bool.and_eq_true] at he
   obtain ⟨h1,h2⟩ := wI _ h
   exact .inr ⟨List.isEmpty_iff.1 he.1,List.isEmpty_iff.1 he.2,(h2 (none : Option R) O fun _ _ => rfl).1,h1⟩
 ·cases h
theorem Xf {s : fM} {vs : List AV} {st : St} {r : s.B} (h : fin s vs st = some r) :
  ∃ bs moved seen,slotsOf st.cur.tm (BU s.ps 0) = some bs ∧ zl bs st.bx = true ∧ pI s.rs vs.length = true ∧ sO st.objs s.rs (vs ++ bs) = some (r,moved,seen) ∧ moved.Nodup ∧ apart moved seen = true ∧ DL st.objs seen = true := by
 unfold fin at h
 split at h
 ·rename_i bs hs
  obtain ⟨h1,h⟩ := bH h
  rw [Bool.and_eq_true] at h1
  split at h
  ·rename_i d moved seen ho
   obtain ⟨h2,h⟩ := bH h
   rw [Bool.and_eq_true,Bool.and_eq_true] at h2
   cases h
   exact ⟨bs,moved,seen,hs,h1.1,h1.2,ho,nodup_iff.1 h2.1.1,h2.1.2,h2.2⟩
  ·cases h
 ·cases h
theorem start_eq (f : FuncId) (body : Code) (s : fM) (a : s.A) : start f body s a =
  { cur := { fn := f,tm := vg (gI s.ps a 1 (1 + jf s.ps)).1 0,td := [.code body] },callers := [],objs := (gI s.ps a 1 (1 + jf s.ps)).2.1,ay := (gI s.ps a 1 (1 + jf s.ps)).2.2,bx := jE 1 (jf s.ps) } := rfl
theorem acp (T : fV P C) (hcode : ∀ g fn c,look C.fns g = some fn -> fn.body = some c -> codeOk fn.ntmps c = true) (hR : Leaves Rl) (hRc : Good P main Rl C Rc) (K : KK R) (s : St) (all : List Oper) (op : Oper) (rest : List Oper) (k : List It) (r : R)
  (q : FuncId × List AV) (hop : callee C s.cur.tm op.op = some q) (ha : fA C Rc s.cur.tm s.objs s.ay op K = some r)
  (hK : ∀ v O1 dP es,K v O1 dP es = some r -> Goes P main Rl X cs0 (Stop r) (after s op.dst (.ops all rest :: k) v O1 dP es)) (o : Ow) (E : Env) (tmps : Array Value) (todo : List Item) (cs : List Frame) (ops : Array Oper) (i : Nat) (idx : List Nat) (todo' : List Item)
  (h : rD X o E s cs0 (frame s.cur.fn tmps todo) cs) (ht : kH E s.cur.tm tmps) (e : todo = .inRegion ops (i :: idx) :: todo') (hi : ops[i]? = some op) (hd : ∀ d,op.dst = some d -> d < tmps.size) (htd : EX tmps.size (.ops all rest :: k) (.inRegion ops idx :: todo'))
  (hw : Region.wanted op (yielded ops tmps) = true) : Via P main Rl (Stop r) o (frame s.cur.fn tmps todo) cs E.w := by
 obtain ⟨sg,h3,hac⟩ := Xe hop ha
 obtain ⟨g,pq⟩ := q
 obtain ⟨d,iF,moved,used,boxes,rr,hg,hn,hap,hrc,hkk⟩ := Q8 hac
 obtain ⟨fn,body,hfn,hbody,hgoes⟩ := hRc g sg d rr hrc
 obtain ⟨f1,f2⟩ := T.fns g fn hfn
 obtain ⟨vals,hrun,aef⟩ := Go.E.Og T hop ht hfn hbody
 subst e
 have hst := Conc.stepG_enter (main := main) (b := Conc.base s.cur.fn) (a := ⟨tmps,[]⟩) (k := todo') (cs := cs) (rest := idx) hi hw (fun x => by cases x) (hrun E.w)
 rw [Conc.enter_at _ f1 hbody] at hst
 refine .step hst (Keeps.refl _ _) fun w2 hw2 => ?_
 rw [Ow.lg] at hw2 ⊢
 have hh := h.rely hR hw2
 obtain ⟨_,hs2⟩ := h.ok.rely hR hw2
 have ht2 : kH { E with w := w2 } s.cur.tm tmps := by have := ht.step hs2; simpa [jZ] using this
 have hvs := aef _ ht2
 rw [<- hh.objs] at hg
 obtain ⟨E1,Ec,w1,r1,g1,ok1,st1,l1,U5,wc,Oc,okc,vrc⟩ := OV g hh.ok hg hvs hn hap
 have aeg := (qg _ _ _ hg).len
 have ZQ : rD (uI g { E with w := w2 } E1 o (moved ++ boxes) boxes) o Ec (start g body sg d) (frame s.cur.fn tmps (.inRegion ops (i :: idx) :: todo') :: cs)
   (frame g (vals.toArray ++ Array.replicate (fn.ntmps - vals.toArray.size) undef) [.code body]) (frame s.cur.fn tmps (.inRegion ops (i :: idx) :: todo') :: cs) := by
  rw [start_eq]
  refine ⟨okc,Oc,⟨_,_,rfl,LG vrc,?_⟩,⟨[],rfl,rfl⟩,?_,rfl⟩
  ·refine lI ⟨rfl,jP ?_ body (hcode g fn body hfn hbody)⟩ rfl
   simp only [Array.size_append,Array.size_replicate]; omega
  ·show jE 1 (jf sg.ps) = (Q5 _ boxes 1).map _
   rw [Ip,aeg]
 have hv := (hgoes _ _ o Ec _ _ ZQ).grow
 rw [wc] at hv
 refine hv.trans fun o' fr' cs' w' hx => ?_
 obtain ⟨⟨Eo,st,aji,acr,vs,fn',rfl,rfl,hwo,Xg,hto,hfn',hdr,hfin⟩,hou,hos⟩ := hx
 obtain ⟨bs,mo',sn,t1,t2,t3,t4,t5,t6,t7⟩ := Xf hfin
 have hbs := Iy t2
 have hbx : st.bx = jE 1 boxes.length := by rw [Xg.bx]; exact Ip _ _
 rw [hbx] at hbs
 subst hbs
 obtain ⟨v,hvv,hacc⟩ := yD (P := P) T Xg.ok Xg.objs hto hdr
 have aeh := yE (hacc _ ⟨rfl,rfl⟩)
 obtain ⟨f1',_⟩ := T.fns _ fn' hfn'
 subst hwo
 obtain ⟨evs,hst2⟩ := stepG_ret (main := main) (todo := acr) (c := frame s.cur.fn tmps (.inRegion ops (i :: idx) :: todo')) (cs := cs) f1' aeh
 have hf : (frame s.cur.fn tmps (.inRegion ops (i :: idx) :: todo')).finish v = frame s.cur.fn ((Act.put ⟨tmps,[]⟩ op.dst v).tmps) (.inRegion ops idx :: todo') := by
  unfold frame
  rw [Frame.finish_at,hi]
  show (Conc.base s.cur.fn).at (Act.put ⟨tmps,[]⟩ op.dst v) _ = _
  rw [put_defers]
 rw [hf] at hst2
 refine .step hst2 (Keeps.refl _ _) fun w3 hw3 => ?_
 rw [Ow.lg] at hw3 ⊢
 obtain ⟨lv,hlv,hback⟩ := ZP hvv
 obtain ⟨lb,hlb⟩ := KC hto t1
 rw [<- Xg.objs] at t4 t7
 obtain ⟨E2,k1,k2,k3,k4,k5⟩ := acn g hh.ok hg hn w1 r1 g1 ok1 st1 l1 U5 Xg.ok hou hos t4 t3 (pK hlv hlb) (lV hlv) t5 (zJ t6) t7
 have acs := F9 (cs0 := cs0) (X := X) (o' := o') (E' := E2) (s := s) (cs := cs) (tmps := tmps) (todo := .inRegion ops idx :: todo') (dst := op.dst) (rest := .ops all rest :: k) (v := jy (bZ boxes sg.rs rr s.ay).1) (u := v) (es := iF)
  ht2 hh.callers hh.bx hh.root (by rw [k2,hh.objs]) k3 k4 (hback E2 _ k5) hd (by rw [yF]; exact htd)
 rw [<- k1] at hw3
 have hf3 := acs.rely hR hw3
 rcases hkk with hkk | ⟨rfl,rfl,hsame,hkk⟩
 ·exact hK _ _ _ _ hkk _ _ _ _ hf3
 ·refine Kq (s := after s op.dst (.ops all rest :: k) (jy (bZ boxes sg.rs rr s.ay).1) ((bZ boxes sg.rs rr s.ay).2.1 ++ (iG [] ++ s.objs)) (bZ boxes sg.rs rr s.ay).2.2 []) (hK _ _ _ _ hkk) rfl rfl rfl (fun j => ?_) rfl rfl rfl _ _ _ _ hf3
  show look s.objs j = look ((bZ boxes sg.rs rr s.ay).2.1 ++ s.objs) j
  rw [iH]
  cases hl : look (bZ boxes sg.rs rr s.ay).2.1 j with
  | none => rfl
  | some a => exact hsame _ (qy hl)
end
end Go.E
end
