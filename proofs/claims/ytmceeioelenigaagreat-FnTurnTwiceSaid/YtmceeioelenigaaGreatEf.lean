/- Cuts, moved slices, states. -/
import Derived.Test.YtmceeioelenigaaGreatEe
section
namespace Go.E
section
variable {P : Program} {main : Bool} {Rl : Ow -> World -> World -> Prop} {C : kG} {Rc : ak} {R : Type} {X : Ctx} {cs0 : List Frame} {Stop : R -> Ow -> Frame -> List Frame -> World -> Prop} {Rt : St -> Option R} {fin : List AV -> St -> Option R}
theorem Bd {fn : FuncId} {id : Nat} : ∀ {k k' : List It},wu id k = some k' -> fO C fn k = true -> fO C fn k' = true
 | [],k',h,_ => by cases h
 | .inBlock j :: k,k',h,hd => by
  have h : (bif Nat.beq j id then some k else wu id k) = some k' := h
  cases hb : Nat.beq j id with
  | true => rw [hb] at h; cases h; exact hd
  | false => rw [hb] at h; exact Bd (k := k) h hd
 | .code c :: k,k',h,hd => by
  have hd : (gJ C fn c && fO C fn k) = true := hd
  rw [Bool.and_eq_true] at hd
  exact Bd (k := k) h hd.2
 | .inLoop c :: k,k',h,hd => by
  have hd : (gJ C fn c && fO C fn k) = true := hd
  rw [Bool.and_eq_true] at hd
  exact Bd (k := k) h hd.2
 | .ops _ _ :: k,k',h,hd => Bd (k := k) h hd
 | .drawn _ _ _ _ _ :: k,k',h,hd => Bd (k := k) h hd
 | .wait _ _ _ _ :: k,k',h,hd => Bd (k := k) h hd
theorem Kr {f : Fr -> Fr} (hf : ∀ fr,(f fr).fn = fr.fn ∧ (f fr).td = fr.td) : ∀ (l : List Fr) (d : Nat),(mM f l d).map (fun f => (f.fn,f.td)) = l.map fun f => (f.fn,f.td)
 | [],_ => rfl
 | x :: r,0 => by show ((f x).fn,(f x).td) :: _ = _; rw [(hf x).1,(hf x).2]; rfl
 | x :: r,d + 1 => by show _ :: (mM f r d).map _ = _; rw [Kr hf r d]; rfl
theorem rV : ∀ (l : Loc) (f : AV -> AV) (s : St),fd (uP s l f) = fd s
 | .slot 0 i,f,s => rfl
 | .slot (d + 1) i,f,s => by
  show (s.cur.fn,s.cur.td) :: (mM (fun fr : Fr => { fr with tm := xg f i fr.tm }) s.callers d).map _ = _
  rw [Kr (f := fun fr : Fr => { fr with tm := xg f i fr.tm }) (fun _ => ⟨rfl,rfl⟩)]; rfl
 | .cell l c,f,s => by
  unfold uP
  split
  ·split <;> rfl
  ·exact rV l _ s
  ·exact rV l _ s
  ·exact rV l _ s
  ·rfl
theorem LQ (es : List Eff) (s : St) : fd (zk es s) = fd s := by
 cases es with
 | nil => rfl
 | cons e r =>
  show _ :: List.map (fun f => (f.fn,f.td)) (jH (e :: r) s.callers) = _
  unfold jH
  rw [List.map_map]; rfl
theorem ZL {l : Loc} {ts : cZ} {b : Bool} {s s' : St} (h : VK l ts b s = some s') : fd s' = fd s := by
 unfold VK at h
 split at h
 ·cases h; exact rV l _ s
 ·split at h
  ·split at h
   ·obtain ⟨_,h⟩ := bH h
    cases h
    rw [rV,LQ]
   ·cases h
  ·cases h
 ·cases h
theorem OJ : ∀ {l : List (Loc × cZ × Bool)} {s s' : St},JH l s = some s' -> fd s' = fd s
 | [],s,s',h => by cases h; rfl
 | (l,ts,b) :: r,s,s',h => by
  unfold JH at h
  split at h
  ·rename_i s1 h1
   rw [OJ h,ZL h1]
  ·cases h
theorem CV : ∀ {l : List (Loc × Option cZ)} {s : St},fd (sJ s l) = fd s
 | [],s => rfl
 | (l,none) :: r,s => CV (l := r)
 | (l,some ts) :: r,s => by
  unfold sJ
  split
  ·rw [CV (l := r),rV]; rfl
  ·exact CV (l := r)
theorem Bf {m : List (Nat × Nat)} : ∀ (l : List Fr) (ks : List (List Nat)),(lT m l ks).map (fun f => (f.fn,f.td)) = l.map fun f => (f.fn,f.td)
 | [],ks => by cases ks <;> rfl
 | fr :: r,[] => by show _ :: (lT m r []).map _ = _; rw [Bf r []]; rfl
 | fr :: r,k :: ks => by show _ :: (lT m r ks).map _ = _; rw [Bf r ks]; rfl
theorem Bg : ∀ (l : List Fr) (ks : List (List Nat)),(lU l ks).map (fun f => (f.fn,f.td)) = l.map fun f => (f.fn,f.td)
 | [],ks => by cases ks <;> rfl
 | fr :: r,[] => by show _ :: (lU r []).map _ = _; rw [Bg r []]; rfl
 | fr :: r,k :: ks => by show _ :: (lU r ks).map _ = _; rw [Bg r ks]; rfl
theorem WY {t : dD} {s s' : St} (h : canon t s = some s') : fd s' = fd s := by
 unfold canon at h
 cases hraw : t.raw with
 | true =>
  rw [hraw,cond_true] at h
  split at h
  ·cases h; rfl
  ·split at h
   ·rename_i c cs hk
    cases h
    have := Bg (s.cur :: s.callers) t.keep
    rw [hk] at this
    exact this
   ·cases h
 | false =>
  rw [hraw] at h
  dsimp only [cond_false] at h
  split at h
  ·rename_i s1 h1
   split at h
   ·rename_i m hm
    obtain ⟨_,h⟩ := bH h
    split at h
    ·rename_i O hO
     split at h
     ·rename_i c cs hk
      cases h
      have := Bf (m := m) ((sJ s1 t.DI).cur :: (sJ s1 t.DI).callers) t.keep
      rw [hk] at this
      have h2 : fd (sJ s1 t.DI) = ((sJ s1 t.DI).cur :: (sJ s1 t.DI).callers).map fun f => (f.fn,f.td) := rfl
      exact Eq.trans this (h2.symm.trans ((CV (l := t.DI) (s := s1)).trans (OJ h1)))
     ·cases h
    ·cases h
   ·cases h
  ·cases h
theorem H9 (L : Hl P main Rl C Rc X cs0 Stop Rt fin) : ∀ (n : Nat) (fresh : Bool) (s : St) (r : R),FT C s -> iZ C Rc Rt fin n fresh s = some r -> Goes P main Rl X cs0 (Stop r) s := by
 intro n
 induction n using Nat.strongRecOn with
 | _ n IH =>
 intro fresh s r hsd hr
 cases n with
 | zero => cases hr
 | succ n =>
  have ih : ∀ s,iZ C Rc Rt fin n false s = some r -> FT C s -> Goes P main Rl X cs0 (Stop r) s := fun s h hs => IH n (Nat.lt_succ_self n) false s r hs h
  have hkw : ∀ (s2 : St) (ps : List Nat) (ops : Array Oper) (rest : List (Nat × List Nat)) (kk : List It) (σ : List Nat) (rest' : List Oper),iZ C Rc Rt fin n false (pG s2 (some ps) ops.toList rest kk) = some r -> FT C (qj s2 kk) -> Left ps ops.toList rest σ -> σ.map (ops[·]?) = rest'.map some -> Goes P main Rl X cs0 (Stop r) (qj s2 (.ops ops.toList rest' :: kk)) :=
   fun s2 ps ops rest kk σ rest' h hs ⟨an,D,ha,hp⟩ hm => OI L h hp ha hm hs fun m hm s hs hh => IH m (Nat.lt_succ_of_lt hm) false s r hs hh
  have toK : ∀ c b td,(fO C s.cur.fn s.cur.td = true -> fO C s.cur.fn td = true) -> FT C (qj (pF s c b) td) := fun c b td h p hp => by
   have hp : p ∈ (s.cur.fn,td) :: s.callers.map fun f => (f.fn,f.td) := by cases c <;> exact hp
   rcases List.mem_cons.1 hp with e | hp
   ·subst e; exact h (hsd (s.cur.fn,s.cur.td) List.mem_cons_self)
   ·exact hsd p (List.mem_cons_of_mem _ hp)
  have ad9 : fO C s.cur.fn s.cur.td = true := hsd (s.cur.fn,s.cur.td) List.mem_cons_self
  have ZM : ∀ td,(fO C s.cur.fn s.cur.td = true -> fO C s.cur.fn td = true) -> FT C (qj s td) := fun td h p hp => by
   rcases List.mem_cons.1 hp with e | hp
   ·subst e; exact h ad9
   ·exact hsd p (List.mem_cons_of_mem _ hp)
  unfold iZ at hr
  dsimp only at hr
  split at hr
  ·
   rename_i htd
   exact Ho L (k := iZ C Rc Rt fin n false) hr hsd ih hkw (.inl htd)
  ·rename_i id k htd
   refine qc L.rely (ih _ hr (ZM _ (by rw [htd]; exact fun h => h))) fun tmps todo h => ?_
   rw [htd] at h; obtain ⟨y,ys,rfl,e,h2⟩ := uT h
   have e : y = .inBlock id := e
   subst e
   exact ⟨ys,h2,fun cs w => ⟨_,Conc.stepG_inBlock⟩⟩
  ·rename_i b k htd
   refine qc L.rely (ih _ hr (ZM _ (by rw [htd]; intro h; simp only [fO,gJ,Bool.and_eq_true,Bool.true_and] at h ⊢; simp [h]))) fun tmps todo h => ?_
   rw [htd] at h; obtain ⟨y,ys,rfl,⟨rfl,e⟩,h2⟩ := uT h
   exact ⟨_,lI ⟨rfl,e⟩ (lI ⟨rfl,e⟩ h2),fun cs w => ⟨_,Conc.stepG_inLoop⟩⟩
  ·rename_i k htd
   refine qc L.rely (ih _ hr (ZM _ (by rw [htd]; intro h; simp only [fO,gJ,Bool.and_eq_true,Bool.true_and] at h ⊢; simp [h]))) fun tmps todo h => ?_
   rw [htd] at h; obtain ⟨y,ys,rfl,⟨rfl,e⟩,h2⟩ := uT h
   exact ⟨ys,h2,fun cs w => ⟨_,Conc.stepG_skip⟩⟩
  ·rename_i a b k htd
   refine qc L.rely (ih _ hr (ZM _ (by rw [htd]; intro h; simp only [fO,gJ,Bool.and_eq_true,Bool.true_and] at h ⊢; simp [h]))) fun tmps todo h => ?_
   rw [htd] at h; obtain ⟨y,ys,rfl,⟨rfl,e⟩,h2⟩ := uT h
   unfold codeOk at e
   simp only [Bool.and_eq_true] at e
   exact ⟨_,lI ⟨rfl,e.1⟩ (lI ⟨rfl,e.2⟩ h2),fun cs w => ⟨_,Conc.stepG_seq⟩⟩
  ·
   rename_i c x y k htd
   split at hr
   ·rename_i t hc
    intro o E fr cs h
    obtain ⟨tmps,todo,rfl,ht,h1⟩ := h.at
    rw [htd] at h1; obtain ⟨z,ys,rfl,⟨rfl,e⟩,h2⟩ := uT h1
    unfold codeOk at e
    simp only [Bool.and_eq_true] at e
    have ec := dO (a := ⟨tmps,[]⟩) ht hc
    unfold VR at ec
    have hst := Conc.stepG_cond (P := P) (main := main) (b := Conc.base s.cur.fn) (a := ⟨tmps,[]⟩) (k := ys) (cs := cs) (w := E.w) (x := x) (y := y) ec
    refine .step hst (Keeps.refl _ _) fun w2 hw2 => ?_
    rw [Ow.lg] at hw2 ⊢
    have hkn := WA (b := t) h hc
    obtain ⟨tm',td',e1,e2,_⟩ := hkn.cur
    have efn : (pF s c t).cur.fn = s.cur.fn := by cases c <;> rfl
    have etm : tm' = tmps := by
     rw [efn] at e1
     have := congrArg Frame.tmps e1
     exact this.symm
    subst etm
    cases t with
    | true =>
     have h' : rD X o E (qj (pF s c true) (.code x :: k)) cs0 (frame s.cur.fn tm' (.code x :: ys)) cs :=
      ⟨hkn.ok,hkn.objs,⟨tm',_,by show _ = frame (pF s c true).cur.fn _ _; rw [efn],e2,lI ⟨rfl,e.1⟩ h2⟩,hkn.callers,hkn.bx,(iL (qj (pF s c true) (.code x :: k)).cur (pF s c true).cur _ rfl).trans hkn.root⟩
     exact ih _ hr (toK c true _ (by rw [htd]; intro h; simp only [fO,gJ,Bool.and_eq_true,Bool.true_and] at h ⊢; simp [h])) _ _ _ _ (h'.rely L.rely hw2)
    | false =>
     have h' : rD X o E (qj (pF s c false) (.code y :: k)) cs0 (frame s.cur.fn tm' (.code y :: ys)) cs :=
      ⟨hkn.ok,hkn.objs,⟨tm',_,by show _ = frame (pF s c false).cur.fn _ _; rw [efn],e2,lI ⟨rfl,e.2⟩ h2⟩,hkn.callers,hkn.bx,(iL (qj (pF s c false) (.code y :: k)).cur (pF s c false).cur _ rfl).trans hkn.root⟩
     exact ih _ hr (toK c false _ (by rw [htd]; intro h; simp only [fO,gJ,Bool.and_eq_true,Bool.true_and] at h ⊢; simp [h])) _ _ _ _ (h'.rely L.rely hw2)
   ·cases hr
  ·rename_i id b k htd
   refine qc L.rely (ih _ hr (ZM _ (by rw [htd]; intro h; simp only [fO,gJ,Bool.and_eq_true,Bool.true_and] at h ⊢; simp [h]))) fun tmps todo h => ?_
   rw [htd] at h; obtain ⟨y,ys,rfl,⟨rfl,e⟩,h2⟩ := uT h
   exact ⟨_,lI ⟨rfl,e⟩ (lI (y := .inBlock id) rfl h2),fun cs w => ⟨_,Conc.stepG_block⟩⟩
  ·rename_i b k htd
   refine qc L.rely (ih _ hr (ZM _ (by rw [htd]; intro h; simp only [fO,gJ,Bool.and_eq_true,Bool.true_and] at h ⊢; simp [h]))) fun tmps todo h => ?_
   rw [htd] at h; obtain ⟨y,ys,rfl,⟨rfl,e⟩,h2⟩ := uT h
   exact ⟨_,lI ⟨rfl,e⟩ (lI ⟨rfl,e⟩ h2),fun cs w => ⟨_,Conc.stepG_loop⟩⟩
  ·rename_i id k htd
   split at hr
   ·rename_i k' hk'
    refine qc L.rely (ih _ hr (ZM _ (by rw [htd]; exact Bd hk'))) fun tmps todo h => ?_
    rw [htd] at h; obtain ⟨y,ys,rfl,⟨rfl,e⟩,h2⟩ := uT h
    obtain ⟨t,h3,h4⟩ := DW hk' h2
    exact ⟨t,h4,fun cs w => ⟨_,Conc.stepG_exit h3⟩⟩
   ·cases hr
  ·rename_i k htd
   exact Ho L (k := iZ C Rc Rt fin n false) hr hsd ih hkw (.inr ⟨_,htd⟩)
  ·
   rename_i id ops dr k htd
   have go : (bif dr then match Ar s.cur.fn id C.ou with
     | some (o :: os) => sameAll (iZ C Rc Rt fin n false (pG s (sF s.cur.fn id C.ou) ops.toList o k)) (os.map fun o => iZ C Rc Rt fin n false (pG s (sF s.cur.fn id C.ou) ops.toList o k))
     | _ => none
    else iZ C Rc Rt fin n false (qj s (.ops ops.toList ops.toList :: k))) = some r -> Goes P main Rl X cs0 (Stop r) s := fun hr => by
    cases dr with
    | false =>
     rw [cond_false] at hr
     refine qc L.rely (ih _ hr (ZM _ (by rw [htd]; intro h; simp only [fO,gJ,Bool.and_eq_true] at h ⊢; exact h.2))) fun tmps todo h => ?_
     rw [htd] at h; obtain ⟨y,ys,rfl,⟨rfl,e⟩,h2⟩ := uT h
     unfold codeOk at e
     exact ⟨_,lI ⟨ops,List.range ops.size,rfl,rfl,e,UM ops⟩ h2,fun cs w => ⟨_,Conc.stepG_region⟩⟩
    | true =>
     rw [cond_true] at hr
     have hdr : (!true || (match Ar s.cur.fn id C.ou with | some os => SC (DN C (sF s.cur.fn id C.ou) ops.toList) ops.toList os | none => false)) = true := by
      have := ad9
      rw [htd] at this
      simp only [fO,gJ,Bool.and_eq_true] at this
      exact this.1
     rw [Bool.not_true,Bool.false_or] at hdr
     split at hr
     ·rename_i o os aea
      rw [aea] at hdr
      obtain ⟨h1,h2⟩ := OE hr
      refine LP L L.tys.mixed htd hsd hdr (fun ord hord => ?_) fun m hm s hs hh => IH m (Nat.lt_succ_of_lt hm) false s r hs hh
      rcases List.mem_cons.1 hord with e | hord
      ·rw [e]; exact h1
      ·exact h2 _ (List.mem_map.2 ⟨ord,hord,rfl⟩)
     ·cases hr
   cases fresh with
   | true => exact go hr
   | false =>
    dsimp only [cond_false] at hr
    split at hr
    ·rename_i t ht
     split at hr
     ·rename_i s' hs'
      intro o E fr cs h
      obtain ⟨E',he,h'⟩ := L.canon t s s' hs' o E fr cs h
      rw [<- he]
      exact L.back s' r hr (fun p hp => hsd p (by rw [<- WY hs']; exact hp)) o E' fr cs h'
     ·cases hr
    ·exact go hr
  ·
   rename_i pins all watch base k htd
   intro o E fr cs h
   obtain ⟨tmps,todo,rfl,ht,h1⟩ := h.at
   rw [htd] at h1
   obtain ⟨y,ys,_,e,_⟩ := h1
   exact e.elim
  ·rename_i pins all i an rest watch base k htd
   intro o E fr cs h
   obtain ⟨tmps,todo,rfl,ht,h1⟩ := h.at
   rw [htd] at h1
   obtain ⟨y,ys,_,e,_⟩ := h1
   exact e.elim
  ·rename_i all k htd
   refine qc L.rely (ih _ hr (ZM _ (by rw [htd]; exact fun h => h))) fun tmps todo h => ?_
   rw [htd] at h; obtain ⟨y,ys,rfl,⟨ops,idx,rfl,rfl,e,hi⟩,h2⟩ := uT h
   have : idx = [] := by cases idx with
    | nil => rfl
    | cons _ _ => simp at hi
   subst this
   exact ⟨ys,h2,fun cs w => ⟨_,Conc.stepG_region_end⟩⟩
  ·
   rename_i all op rest k htd
   intro o E fr cs h
   obtain ⟨tmps,todo,rfl,ht,h1⟩ := h.at
   have h1' := h1
   rw [htd] at h1'
   obtain ⟨ops,i,idx,todo',e1,e2,e3,e4,e5,e6,_⟩ := SX h1'
   subst e2
   have wr := Oe (o := op) ht e3
   have kn : ∀ d b,look s.cur.tm d = some (.bool b) -> rD X o E (know s d b) cs0 (frame (know s d b).cur.fn tmps todo) cs ∧ kH E (know s d b).cur.tm tmps := by
    intro d b hb
    have := QJ h hb
    obtain ⟨tm',td',q1,q2,_⟩ := this.cur
    have : tm' = tmps := (congrArg Frame.tmps q1).symm
    subst this
    exact ⟨QJ h hb,q2⟩
   split at hr
   ·rename_i hw
    exact sW L htd hsd ih h ht e1 e4 e5 e6 h1 (wr.2.1 hw) hr
   ·rename_i hw
    exact Gf L.rely h ht e1 e4 e5 e6 (wr.2.2 hw) (ih _ hr (CJ hsd (by rw [htd]; exact fun h => h)))
   ·rename_i d b hw
    obtain ⟨w1,w2⟩ := wr.1 hw
    obtain ⟨k1,k2⟩ := kn d b w1
    cases b with
    | true => exact sW L (s := know s d true) htd hsd ih k1 k2 e1 e4 e5 e6 h1 w2 hr
    | false => exact Gf (s := know s d false) L.rely k1 k2 e1 e4 e5 e6 w2 (ih _ hr (CJ (s := know s d _) hsd (by show fO C s.cur.fn s.cur.td = true -> _; rw [htd]; exact fun h => h)))
   ·rename_i d b hw
    obtain ⟨w1,w2⟩ := wr.1 hw
    obtain ⟨k1,k2⟩ := kn d b w1
    cases b with
    | true => exact Gf (s := know s d true) L.rely k1 k2 e1 e4 e5 e6 w2 (ih _ hr (CJ (s := know s d _) hsd (by show fO C s.cur.fn s.cur.td = true -> _; rw [htd]; exact fun h => h)))
    | false => exact sW L (s := know s d false) htd hsd ih k1 k2 e1 e4 e5 e6 h1 w2 hr
   ·cases hr
  ·cases hr
end
end Go.E
end
section
namespace Go.E
section
variable {X : Ctx} {cs0 : List Frame} {o : Ow}
theorem wK {E : Env} {f : AV -> AV} : ∀ {cs : List AV} {l : List Value} {c : Nat} {v : AV},dw E cs l -> nth cs c = some v -> (∀ u,VR E v u -> VR E (f v) u) -> dw E (mM f cs c) l
 | [],_,_,_,_,h,_ => by cases h
 | x :: xs,l,0,v,h,hn,hf => by
  cases hn
  unfold dw at h; obtain ⟨u,q,rfl,h1,h2⟩ := h
  show dw E (f x :: xs) _
  unfold dw; exact ⟨u,q,rfl,hf u h1,h2⟩
 | x :: xs,l,c + 1,v,h,hn,hf => by
  unfold dw at h; obtain ⟨u,q,rfl,h1,h2⟩ := h
  show dw E (x :: mM f xs c) _
  unfold dw; exact ⟨u,q,rfl,h1,wK h2 hn hf⟩
theorem Ia {f : AV -> AV} {i : Nat} : ∀ (tm : List (Nat × AV)) (t : Nat),look (xg f i tm) t = if t = i then (look tm t).map f else look tm t
 | [],t => by show none = _; split <;> rfl
 | (j,v) :: r,t => by
  unfold xg
  by_cases e : j = i
  ·subst e
   rw [Nat.beq_refl]
   show (bif Nat.beq j t then some (f v) else look r t) = if t = j then (bif Nat.beq j t then some v else look r t).map f else (bif Nat.beq j t then some v else look r t)
   by_cases x : j = t
   ·subst x; simp
   ·rw [cO x,if_neg (fun y => x y.symm)]; rfl
  ·rw [cO e]
   show (bif Nat.beq j t then some v else look (xg f i r) t) = if t = i then (bif Nat.beq j t then some v else look r t).map f else (bif Nat.beq j t then some v else look r t)
   rw [Ia r]
   by_cases x : j = t
   ·subst x; rw [Nat.beq_refl,if_neg e,if_neg e]
   ·rw [cO x]; rfl
theorem kH.map {E : Env} {tm : List (Nat × AV)} {tmps : Array Value} {f : AV -> AV} {i : Nat} {v : AV} (h : kH E tm tmps) (hv : look tm i = some v) (hf : ∀ u,VR E v u -> VR E (f v) u) : kH E (xg f i tm) tmps := by
 intro t x hx
 rw [Ia] at hx
 split at hx
 ·rename_i e; subst e
  rw [hv] at hx; cases hx
  exact hf _ (h t v hv)
 ·exact h t x hx
theorem xE.map {E : Env} {f : AV -> AV} {i : Nat} {v : AV} (hf : ∀ u,VR E v u -> VR E (f v) u) : ∀ {Jq : List Fr} {l : List Frame} {d : Nat} {fr : Fr},xE E Jq l -> nth Jq d = some fr -> look fr.tm i = some v -> xE E (mM (fun fr => { fr with tm := xg f i fr.tm }) Jq d) l
 | [],_,_,_,_,h,_ => by cases h
 | x :: xs,_,0,fr,⟨y,ys,e,⟨tmps,todo,e1,e2,e3⟩,h2⟩,hn,hv => by
  cases hn
  exact ⟨y,ys,e,⟨tmps,todo,e1,e2.map hv hf,e3⟩,h2⟩
 | x :: xs,_,d + 1,fr,⟨y,ys,e,h1,h2⟩,hn,hv => ⟨y,ys,e,h1,xE.map hf h2 hn hv⟩
theorem WZ {E : Env} {ay id : Nat} {cs cs' : List AV} (h : OK X o E ay) (hl : look E.O id = some (.box cs)) (hc : ∀ l,dw E cs l -> dw E cs' l) :
  let E' : Env := { E with O := (id,.box cs') :: E.O }
  OK X o E' ay ∧ Step E E' [] := by
 intro E'
 have UA : look E'.O id = some (.box cs') := dn _ _ _
 have lk : ∀ i,i ≠ id -> look E'.O i = look E.O i := fun i hi => fC _ _ (fun x => hi x.symm)
 have hk : Keep E E' fun _ => False := by
  refine ⟨fun b hb => ⟨hb,rfl⟩,fun b hb => ⟨hb,rfl⟩,fun i _ ts rows wr hl' => ?_,fun i cs1 hl' => ?_,fun i m hl' => ?_⟩
  ·have x : i ≠ id := fun x => by rw [x,hl] at hl'; cases hl'
   exact ⟨by rw [lk i x]; exact hl',rfl,fun b hb => rfl⟩
  ·by_cases x : i = id
   ·subst x; exact ⟨cs',UA,rfl⟩
   ·exact ⟨cs1,by rw [lk i x]; exact hl',rfl⟩
  ·have x : i ≠ id := fun x => by rw [x,hl] at hl'; cases hl'
   exact ⟨m,by rw [lk i x]; exact hl',rfl⟩
 refine ⟨h.next hk.step (fun i => i = id) (fun b hb => rfl) (Nat.le_refl _) (fun _ hb => hb) rfl (fun _ hb => hb) (fun _ hb => hb) h.us (Nat.le_refl _) ?_ ?_ ?_ h.zn,hk.step⟩
 ·intro i x hi hne
  rw [lk i hne] at hi
  exact ⟨x,hi,(lX x).symm,fun l => ⟨rfl,fun b hb => ⟨(h.own i b ⟨x,hi,l⟩ hb).2.1,rfl⟩⟩⟩
 ·intro i x hi hi'
  subst hi
  rw [UA] at hi'
  cases hi'
  have := h.num i _ hl
  refine ⟨this.1,this.2,?_⟩
  obtain ⟨b,c,t,f,e1,e2,e3,e4⟩ := h.obj i _ hl
  exact ⟨b,c,t,f,e1,e2,e3,hk.step.pq (hc _ e4)⟩
 ·intro i b hi _ hb
  subst hi
  have := h.own i b ⟨_,hl,rfl⟩ hb
  refine ⟨this.1,this.2.1,this.2.2.1,this.2.2.2,?_⟩
  rintro j ⟨x,hj,l⟩ hj'
  by_cases y : j = i
  ·exact y
  ·rw [lk j y] at hj
   exact h.inj j i b ⟨x,hj,l⟩ ⟨_,hl,rfl⟩ hj' hb
theorem Ai {f : Fr -> Fr} (hf : ∀ fr,(f fr).fn = fr.fn) : ∀ (c : Fr) (r : List Fr) (d : Nat),lq c (mM f r d) = lq c r
 | _,[],_ => rfl
 | _,x :: r,0 => iL (f x) x r (hf x)
 | _,x :: r,d + 1 => Ai hf x r d
theorem vS : ∀ (l : Loc) (f : AV -> AV) {s : St} {E : Env} {fr : Frame} {cs : List Frame} {v : AV},rD X o E s cs0 fr cs -> sH s l = some v -> (∀ u,VR E v u -> VR E (f v) u) ->
  ∃ O',rD X o { E with O := O' } (uP s l f) cs0 fr cs ∧ Step E { E with O := O' } []
 | .slot 0 i,f,s,E,fr,cs,v,h,hl,hf => by
  refine ⟨E.O,⟨h.ok,h.objs,?_,h.callers,h.bx,(iL { s.cur with tm := xg f i s.cur.tm } s.cur s.callers rfl).trans h.root⟩,Step.refl E⟩
  obtain ⟨tmps,todo,e1,e2,e3⟩ := h.cur
  exact ⟨tmps,todo,e1,e2.map (v := v) hl hf,e3⟩
 | .slot (d + 1) i,f,s,E,fr,cs,v,h,hl,hf => by
  refine ⟨E.O,⟨h.ok,h.objs,h.cur,?_,h.bx,(Ai (f := fun fr => { fr with tm := xg f i fr.tm }) (fun _ => rfl) s.cur s.callers d).trans h.root⟩,Step.refl E⟩
  obtain ⟨cs1,e,hc⟩ := h.callers
  have hl : (match nth s.callers d with | some fr => look fr.tm i | none => none) = some v := hl
  split at hl
  ·rename_i fr' hn
   exact ⟨cs1,e,hc.map hf hn hl⟩
  ·cases hl
 | .cell l c,f,s,E,fr,cs,v,h,hl,hf => by
  unfold sH at hl
  cases hq : sH s l with
  | none => rw [hq] at hl; cases hl
  | some q =>
   rw [hq] at hl
   unfold uP
   rw [hq]
   cases q with
   | ptr id off =>
    dsimp only at hl ⊢
    cases ho : look s.objs id with
    | none => rw [ho] at hl; cases hl
    | some a =>
     rw [ho] at hl
     cases a with
     | box bs =>
      dsimp only at hl ⊢
      have hlo : look E.O id = some (.box bs) := by rw [h.objs]; exact ho
      obtain ⟨h1,h2⟩ := WZ h.ok hlo (cs' := mM f bs (off + c)) fun l hl' => wK hl' hl hf
      obtain ⟨cs1,e,hc⟩ := h.callers
      exact ⟨(id,.box (mM f bs (off + c))) :: E.O,⟨h1,by rw [<- h.objs],h.cur.step0 h2,⟨cs1,e,hc.step0 h2⟩,h.bx,h.root⟩,h2⟩
     | _ => cases hl
   | agg bs =>
    dsimp only at hl ⊢
    refine vS l (fun _ => .agg (mM f bs c)) h hq fun u hu => ?_
    unfold VR at hu ⊢
    obtain ⟨x,rfl,hx⟩ := hu
    exact ⟨x,rfl,wK hx hl hf⟩
   | func fn a bs =>
    dsimp only at hl ⊢
    refine vS l (fun _ => .func fn a (mM f bs c)) h hq fun u hu => ?_
    unfold VR at hu ⊢
    obtain ⟨x,y,rfl,hx,hy⟩ := hu
    exact ⟨x,y,rfl,hx,wK hy hl hf⟩
   | iface t b =>
    dsimp only at hl ⊢
    cases hl
    refine vS l (fun _ => .iface t (f v)) h hq fun u hu => ?_
    unfold VR at hu ⊢
    obtain ⟨x,rfl,hx⟩ := hu
    exact ⟨x,rfl,hf x hx⟩
   | _ => cases hl
end
end Go.E
end
section
namespace Go.E
section
variable {X : Ctx} {cs0 : List Frame} {o : Ow}
theorem OL {s : St} {E E' : Env} {fr : Frame} {cs : List Frame} {es : List Eff} (h : rD X o E s cs0 fr cs) (hok : OK X o E' s.ay) (hs : Step E E' es) (hl : ∀ i,look E'.O i = look (dh es E.O) i) :
  ∃ O',rD X o { E' with O := O' } (zk es s) cs0 fr cs ∧ Step E { E' with O := O' } es ∧ ∀ i,look O' i = look E'.O i := by
 obtain ⟨h1,h2⟩ := hok.zq (O' := dh es E.O) fun i => (hl i).symm
 have h3 := hs.trans h2
 rw [List.append_nil] at h3
 obtain ⟨cs1,e,hc⟩ := h.callers
 refine ⟨dh es E.O,?_,h3,fun i => (hl i).symm⟩
 cases es with
 | nil => exact ⟨h1,h.objs,h.cur.step0 h3,⟨cs1,e,hc.step0 h3⟩,h.bx,h.root⟩
 | cons x r => exact ⟨h1,by show dh (x :: r) E.O = _; rw [h.objs]; rfl,h.cur.step h3,⟨cs1,e,hc.step h3⟩,h.bx,(yB (x :: r) s.cur s.callers _ _).trans h.root⟩
theorem Aj {Qk : Bool} : ∀ {deps : List Nat},NR Qk deps = true -> ∀ i ∈ deps,i = foreign ∧ Qk = true
 | j :: r,h,i,hi => by
  unfold NR at h
  simp only [Bool.and_eq_true] at h
  rcases List.mem_cons.1 hi with rfl | hi
  ·exact ⟨Nat.eq_of_beq_eq_true h.1.1,h.1.2⟩
  ·exact Aj h.2 i hi
theorem U3 {E : Env} {Qk : Bool} {deps : List Nat} {ts : cZ} {rows : List ts.D} {v : Value} (h : Ql E deps ts rows v) (hf : NR Qk deps = true) : Ql E (bif Qk then [foreign] else []) ts rows v := by
 refine oI ?_ (fun b hb => ⟨hb,rfl⟩) h
 intro b e c t f hb hc
 refine ⟨?_,c,t,f,hc,rfl⟩
 rcases hb with hb | ⟨i,hi,hb⟩
 ·exact .inl hb
 ·obtain ⟨e1,e2⟩ := Aj hf i hi
  subst e2
  exact .inr ⟨i,by rw [e1]; exact List.mem_cons_self,hb⟩
theorem acj {l : Loc} {ts : cZ} {Qk : Bool} {s s' : St} {E : Env} {fr : Frame} {cs : List Frame} (h : rD X o E s cs0 fr cs) (hr : VK l ts Qk s = some s') : ∃ E' : Env,E'.w = E.w ∧ rD X o E' s' cs0 fr cs := by
 unfold VK at hr
 split at hr
 ·rename_i hl
  have hr' := Option.some.inj hr
  subst hr'
  obtain ⟨O',h1,_⟩ := vS l (fun _ => .ro ts [] (bif Qk then [foreign] else [])) h hl fun u hu => by
   unfold VR at hu ⊢; subst hu
   exact ⟨_,_,_,rfl,rfl,Nat.le_refl _,fun x => absurd rfl x⟩
  exact ⟨{ E with O := O' },rfl,h1⟩
 ·split at hr
  ·rename_i es hes
   split at hr
   ·rename_i ts' rows deps hl2
    obtain ⟨hb,hr⟩ := bH hr
    simp only [Bool.and_eq_true] at hb
    have hr' := Option.some.inj hr
    subst hr'
    rw [<- h.objs] at hes
    obtain ⟨q1,q2⟩ := mV hes
    obtain ⟨E1,w1,r1,f1,l1,ok1,st1,n1,m1⟩ := vC q1 h.ok fun _ _ _ _ hx => .inl hx
    obtain ⟨O',h1,h2,_⟩ := OL h ok1 st1 l1
    obtain ⟨O'',h3,_⟩ := vS l (fun _ => .ro ts' rows (bif Qk then [foreign] else [])) h1 hl2 fun u hu => by
     unfold VR at hu ⊢; exact U3 hu hb.2
    exact ⟨{ E1 with O := O'' },w1,h3⟩
   ·cases hr
  ·cases hr
 ·cases hr
theorem Tj : ∀ {l : List (Loc × cZ × Bool)} {s s' : St} {E : Env} {fr : Frame} {cs : List Frame},rD X o E s cs0 fr cs -> JH l s = some s' -> ∃ E' : Env,E'.w = E.w ∧ rD X o E' s' cs0 fr cs
 | [],s,s',E,fr,cs,h,hr => by cases hr; exact ⟨E,rfl,h⟩
 | (l,ts,b) :: r,s,s',E,fr,cs,h,hr => by
  unfold JH at hr
  split at hr
  ·rename_i s1 h1
   obtain ⟨E1,w1,k1⟩ := acj h h1
   obtain ⟨E2,w2,k2⟩ := Tj k1 hr
   exact ⟨E2,w2.trans w1,k2⟩
  ·cases hr
theorem Ib {s : St} {n : Nat} {x : AO} {m : Nat} (hf : look s.objs n = none) : ∀ {l : Loc} {v : AV},sH s l = some v -> sH { s with objs := (n,x) :: s.objs,ay := m } l = some v
 | .slot 0 i,v,h => h
 | .slot (d + 1) i,v,h => h
 | .cell l c,v,h => by
  unfold sH at h ⊢
  cases hq : sH s l with
  | none => rw [hq] at h; cases h
  | some q =>
   rw [hq] at h
   rw [Ib hf hq]
   cases q with
   | ptr id off =>
    dsimp only at h ⊢
    have : n ≠ id := fun e => by subst e; rw [hf] at h; cases h
    rw [fC _ _ this]; exact h
   | _ => exact h
theorem Gj : ∀ {l : List (Loc × Option cZ)} {s : St} {E : Env} {fr : Frame} {cs : List Frame},rD X o E s cs0 fr cs -> ∃ E' : Env,E'.w = E.w ∧ rD X o E' (sJ s l) cs0 fr cs
 | [],s,E,fr,cs,h => ⟨E,rfl,h⟩
 | (l,none) :: r,s,E,fr,cs,h => Gj (l := r) h
 | (l,some ts) :: r,s,E,fr,cs,h => by
  unfold sJ
  split
  ·rename_i hl
   obtain ⟨h1,h2⟩ := SG h.ok ts true
   obtain ⟨cs1,e,hc⟩ := h.callers
   have h3 : rD X o { E with ρ := upd E.ρ s.ay ⟨none,0⟩,O := (s.ay,.arr ts [] true) :: E.O } { s with objs := (s.ay,.arr ts [] true) :: s.objs,ay := s.ay + 1 } cs0 fr cs :=
    ⟨h2,by rw [<- h.objs],h.cur.step0 h1,⟨cs1,e,hc.step0 h1⟩,h.bx,h.root⟩
   have hl' : sH { s with objs := (s.ay,.arr ts [] true) :: s.objs,ay := s.ay + 1 } l = some .aO :=
    Ib (by have := h.ok.fresh; rw [h.objs] at this; exact this) hl
   obtain ⟨O',h4,_⟩ := vS l (fun _ => .own s.ay) h3 hl' fun u hu => by
    unfold VR at hu; subst hu
    unfold VR
    refine ⟨ts,[],true,dn _ _ _,?_⟩
    show _ = Value.slice ((upd E.ρ s.ay _ s.ay).b.map _) _ (upd E.ρ s.ay _ s.ay).cap
    rw [eu]; rfl
   obtain ⟨E2,w2,k2⟩ := Gj (l := r) h4
   exact ⟨E2,w2,k2⟩
  ·exact Gj (l := r) h
end
end Go.E
end
section
namespace Go.E
section
variable {X : Ctx} {cs0 : List Frame} {o : Ow}
theorem qy {α : Type} : ∀ {l : List (Nat × α)} {i : Nat} {a : α},look l i = some a -> (i,a) ∈ l
 | (j,b) :: r,i,a,h => by
  have h : (bif Nat.beq j i then some b else look r i) = some a := h
  by_cases e : j = i
  ·subst e; rw [Nat.beq_refl] at h; cases h; exact List.mem_cons_self
  ·rw [cO e] at h; exact List.mem_cons_of_mem _ (qy h)
theorem Ic : ∀ {m : List (Nat × Nat)} {i j : Nat},BR m = true -> (i,j) ∈ m -> look m i = some j
 | (a,b) :: r,i,j,hn,h => by
  unfold BR at hn
  simp only [Bool.and_eq_true] at hn
  show (bif Nat.beq a i then some b else look r i) = some j
  rcases List.mem_cons.1 h with e | h
  ·cases e; rw [Nat.beq_refl]; rfl
  ·have := Ic hn.2 h
   by_cases e : a = i
   ·subst e; rw [this] at hn; simp at hn
   ·rw [cO e]; exact this
theorem Kt {s : St} : ∀ {l : List (Loc × Option cZ)} {n : Nat} {m : List (Nat × Nat)},NQ s l n = some m -> (∀ i j,(i,j) ∈ m -> n <= j ∧ j < n + l.length) ∧ ∀ i i' j,(i,j) ∈ m -> (i',j) ∈ m -> i = i'
 | [],n,m,h => by cases h; exact ⟨fun _ _ x => (by cases x),fun _ _ _ x => (by cases x)⟩
 | (l,q) :: r,n,m,h => by
  unfold NQ at h
  have gen : ∀ (id : Nat) (m' : List (Nat × Nat)),NQ s r (n + 1) = some m' -> m = (id,n) :: m' -> (∀ i j,(i,j) ∈ m -> n <= j ∧ j < n + ((l,q) :: r).length) ∧ ∀ i i' j,(i,j) ∈ m -> (i',j) ∈ m -> i = i' := by
   intro id m' h1 e
   subst e
   obtain ⟨k1,k2⟩ := Kt h1
   refine ⟨fun i j hm => ?_,fun i i' j hm hm' => ?_⟩
   ·simp only [List.length_cons]
    rcases List.mem_cons.1 hm with e | hm
    ·cases e; omega
    ·have := k1 i j hm; omega
   ·rcases List.mem_cons.1 hm with e | hm <;> rcases List.mem_cons.1 hm' with e' | hm'
    ·cases e; cases e'; rfl
    ·cases e; have := k1 _ _ hm'; omega
    ·cases e'; have := k1 _ _ hm; omega
    ·exact k2 i i' j hm hm'
  split at h
  ·rename_i id off m' _ h2; cases h; exact gen id m' h2 rfl
  ·rename_i id m' _ h2; cases h; exact gen id m' h2 rfl
  ·rename_i id _ _ m' _ h2; cases h; exact gen id m' h2 rfl
  ·rename_i id m' _ h2; cases h; exact gen id m' h2 rfl
  ·cases h
def Ie (m : List (Nat × Nat)) : AO -> AO
 | .box cs => .box (qI m cs)
 | a => a
def LU : AO -> Bool
 | .map d => VG d
 | _ => true
theorem CW {m : List (Nat × Nat)} {O : bD} : ∀ {l : List (Nat × Nat)} {O' : bD},BQ m O l = some O' ->
  (∀ j a',look O' j = some a' -> ∃ i a,(i,j) ∈ l ∧ look O i = some a ∧ live a = true ∧ a' = Ie m a ∧ LU a = true) ∧ ∀ i j,(i,j) ∈ l -> (∀ i',(i',j) ∈ l -> i' = i) -> ∃ a,look O i = some a ∧ live a = true ∧ look O' j = some (Ie m a)
 | [],O',h => by cases h; exact ⟨fun _ _ x => (by cases x),fun _ _ x => (by cases x)⟩
 | (i,j) :: r,O',h => by
  unfold BQ at h
  have gen : ∀ (a : AO) (O1 : bD),look O i = some a -> live a = true -> LU a = true -> BQ m O r = some O1 -> O' = (j,Ie m a) :: O1 ->
    (∀ j' a',look O' j' = some a' -> ∃ i' a,(i',j') ∈ ((i,j) :: r) ∧ look O i' = some a ∧ live a = true ∧ a' = Ie m a ∧ LU a = true) ∧ ∀ i' j',(i',j') ∈ ((i,j) :: r) -> (∀ i'',(i'',j') ∈ ((i,j) :: r) -> i'' = i') -> ∃ a,look O i' = some a ∧ live a = true ∧ look O' j' = some (Ie m a) := by
   intro a O1 h1 hl hf h2 e
   subst e
   obtain ⟨k1,k2⟩ := CW h2
   refine ⟨fun j' a' hj => ?_,fun i' j' hm hu => ?_⟩
   ·by_cases e : j = j'
    ·subst e
     rw [dn] at hj; cases hj
     exact ⟨i,a,List.mem_cons_self,h1,hl,rfl,hf⟩
    ·rw [fC _ _ e] at hj
     obtain ⟨i',a0,q1,q2⟩ := k1 j' a' hj
     exact ⟨i',a0,List.mem_cons_of_mem _ q1,q2⟩
   ·by_cases e : j = j'
    ·subst e
     have : i = i' := hu i List.mem_cons_self
     subst this
     exact ⟨a,h1,hl,dn _ _ _⟩
    ·rw [fC _ _ e]
     rcases List.mem_cons.1 hm with q | hm
     ·cases q; exact absurd rfl e
     ·exact k2 i' j' hm fun i'' hm' => hu i'' (List.mem_cons_of_mem _ hm')
  split at h
  ·rename_i cs O1 h1 h2; cases h; exact gen _ O1 h1 rfl rfl h2 rfl
  ·rename_i ts rows wr O1 h1 h2; cases h; exact gen _ O1 h1 rfl rfl h2 rfl
  ·rename_i d O1 h1 h2
   obtain ⟨hf,h⟩ := bH h
   cases h; exact gen _ O1 h1 rfl hf h2 rfl
  ·cases h
end
end Go.E
end
section
namespace Go.E
section
variable {X : Ctx} {cs0 : List Frame} {o : Ow}
def inv : List (Nat × Nat) -> Nat -> Nat
 | [],_ => 0
 | (i,j) :: r,k => bif Nat.beq j k then i else inv r k
theorem Tn : ∀ {m : List (Nat × Nat)} {i j : Nat},(i,j) ∈ m -> (inv m j,j) ∈ m
 | (a,b) :: r,i,j,h => by
  unfold inv
  by_cases e : b = j
  ·subst e; rw [Nat.beq_refl]; exact List.mem_cons_self
  ·rw [cO e]
   rcases List.mem_cons.1 h with q | h
   ·cases q; exact absurd rfl e
   ·exact List.mem_cons_of_mem _ (Tn h)
theorem Ig {m : List (Nat × Nat)} : ∀ {l l' : List Nat},wz m l = some l' -> ∀ i ∈ l,(i = foreign ∧ foreign ∈ l') ∨ (i ≠ foreign ∧ ∃ j,look m i = some j ∧ j ∈ l')
 | i :: r,l',h,k,hk => by
  unfold wz at h
  split at h
  ·rename_i j l1 h1 h2
   cases h
   rcases List.mem_cons.1 hk with e | hk
   ·subst e
    by_cases e : k = foreign
    ·subst e; rw [Nat.beq_refl] at h1; cases h1; exact .inl ⟨rfl,List.mem_cons_self⟩
    ·rw [cO e] at h1; exact .inr ⟨e,j,h1,List.mem_cons_self⟩
   ·rcases Ig h2 k hk with ⟨a,b⟩ | ⟨ne,j',a,b⟩
    ·exact .inl ⟨a,List.mem_cons_of_mem _ b⟩
    ·exact .inr ⟨ne,j',a,List.mem_cons_of_mem _ b⟩
  ·cases h
def Ih (E : Env) (m : List (Nat × Nat)) (O' : bD) : Env := { E with ρ := fun j => E.ρ (inv m j),O := O' }
structure Ren (E : Env) (m : List (Nat × Nat)) (O' : bD) : Prop where
 fwd : ∀ i j a,look m i = some j -> look E.O i = some a -> live a = true -> look O' j = some (Ie m a) ∧ inv m j = i
 zero : ∀ a,look E.O foreign ≠ some a
theorem Ii {m : List (Nat × Nat)} : ∀ {l : List Nat},fixed m l = true -> ∀ i ∈ l,look m i = some i
 | j :: r,h,i,hi => by
  unfold fixed at h
  simp only [Bool.and_eq_true] at h
  rcases List.mem_cons.1 hi with e | hi
  ·subst e
   have h1 := h.1
   split at h1
   ·rename_i k hk; rw [hk,Nat.eq_of_beq_eq_true h1]
   ·cases h1
  ·exact Ii h.2 i hi
variable {E : Env} {m : List (Nat × Nat)} {O' : bD}
theorem Ren.fix (h : Ren E m O') {l l' : List Nat} (hl : wz m l = some l') : Fix (E.B l) ((Ih E m O').B l') E.w E.w := by
 intro b e c t f hb hc
 refine ⟨?_,c,t,f,hc,rfl⟩
 rcases hb with hb | ⟨i,hi,hb⟩
 ·exact .inl hb
 ·rcases Ig hl i hi with ⟨e1,e2⟩ | ⟨ne,j,e1,e2⟩
  ·rcases hb with hb | ⟨ts,rows,wr,q1,q2,q3⟩
   ·exact .inr ⟨foreign,e2,.inl ⟨rfl,hb.2⟩⟩
   ·subst e1; exact absurd q1 (h.zero _)
  ·rcases hb with hb | ⟨ts,rows,wr,q1,q2,q3⟩
   ·exact absurd hb.1 ne
   ·obtain ⟨k1,k2⟩ := h.fwd i j _ e1 q1 rfl
    exact .inr ⟨j,e2,.inr ⟨ts,rows,wr,k1,by show (E.ρ (inv m j)).b = _; rw [k2]; exact q2,q3⟩⟩
theorem Ren.sl (h : Ren E m O') {l l' : List Nat} (hl : wz m l = some l') {ts : cZ} {rows : List ts.D} {v : Value} (hv : Ql E l ts rows v) : Ql (Ih E m O') l' ts rows v :=
 oI (E' := Ih E m O') (h.fix hl) (fun b hb => ⟨hb,rfl⟩) hv
mutual
theorem Ren.av (h : Ren E m O') : ∀ (x : AV) (v : Value),VR E x v -> VR (Ih E m O') (kS m x) v
 | .int _ _,_,hv | .bool _,_,hv | .str _,_,hv | .aO,_,hv | .fH,_,hv | .aQ,_,hv | .o7,_,hv | .undef,_,hv | .dead,_,hv => by
  unfold VR at hv; unfold kS VR; exact hv
 | .own id,v,hv => by
  unfold VR at hv; obtain ⟨ts,rows,wr,h1,h2⟩ := hv
  unfold kS
  cases hm : look m id with
  | none => unfold VR; rw [h2]; rfl
  | some j =>
   obtain ⟨k1,k2⟩ := h.fwd id j _ hm h1 rfl
   unfold VR
   exact ⟨ts,rows,wr,k1,by show v = Value.slice ((E.ρ (inv m j)).b.map _) _ (E.ρ (inv m j)).cap; rw [k2]; exact h2⟩
 | .ptr id off,v,hv => by
  unfold VR at hv; obtain ⟨cs,b,h1,h2,h3⟩ := hv
  unfold kS
  cases hm : look m id with
  | none => unfold VR; rw [h3]; rfl
  | some j =>
   obtain ⟨k1,k2⟩ := h.fwd id j _ hm h1 rfl
   unfold VR
   exact ⟨_,b,k1,by show (E.ρ (inv m j)).b = _; rw [k2]; exact h2,h3⟩
 | .iJ id i off,v,hv => by
  unfold VR at hv; obtain ⟨ts,rows,wr,b,h1,h2,h3,h4,h5⟩ := hv
  unfold kS
  cases hm : look m id with
  | none => unfold VR; rw [h5]; rfl
  | some j =>
   obtain ⟨k1,k2⟩ := h.fwd id j _ hm h1 rfl
   unfold VR
   exact ⟨ts,rows,wr,b,k1,by show (E.ρ (inv m j)).b = _; rw [k2]; exact h2,h3,h4,h5⟩
 | .mp id,v,hv => by
  unfold VR at hv; obtain ⟨d,b,h1,h2,h3⟩ := hv
  unfold kS
  cases hm : look m id with
  | none => unfold VR; rw [h3]; rfl
  | some j =>
   obtain ⟨k1,k2⟩ := h.fwd id j _ hm h1 rfl
   unfold VR
   exact ⟨_,b,k1,by show (E.ρ (inv m j)).b = _; rw [k2]; exact h2,h3⟩
 | .raw u,v,hv => by
  unfold VR at hv; unfold kS VR; exact hv
 | .sub id lo hi,v,hv => by
  unfold VR at hv; obtain ⟨ts,rows,wr,a,cap,h1,h2,h3,h4,h5,h6,h7⟩ := hv
  unfold kS
  cases hm : look m id with
  | none => unfold VR; rw [h5]; rfl
  | some j =>
   obtain ⟨k1,k2⟩ := h.fwd id j _ hm h1 rfl
   unfold VR
   exact ⟨ts,rows,wr,a,cap,k1,h2,h3,h4,h5,h6,by show lo < hi -> ∃ b,(E.ρ (inv m j)).b = some b ∧ _; rw [k2]; exact h7⟩
 | .ro ts rows deps,v,hv => by
  unfold VR at hv
  unfold kS
  cases hm : wz m deps with
  | none => unfold VR; exact FY hv
  | some l => unfold VR; exact h.sl hm hv
 | .iY ts rows deps i off,v,hv => by
  unfold VR at hv; obtain ⟨b,q,len,cap,h1,h2,h3,h4⟩ := hv
  unfold kS
  cases hm : wz m deps with
  | none => unfold VR; rw [h4]; rfl
  | some l => unfold VR; exact ⟨b,q,len,cap,h.sl hm h1,h2,h3,h4⟩
 | .func fn a b,v,hv => by
  unfold VR at hv; obtain ⟨x,y,rfl,h1,h2⟩ := hv
  unfold kS VR; exact ⟨x,y,rfl,h.pq a x h1,h.pq b y h2⟩
 | .iface t u,v,hv => by
  unfold VR at hv; obtain ⟨u',rfl,h1⟩ := hv
  unfold kS VR; exact ⟨u',rfl,h.av u u' h1⟩
 | .agg cs,v,hv => by
  unfold VR at hv; obtain ⟨x,rfl,h1⟩ := hv
  unfold kS VR; exact ⟨x,rfl,h.pq cs x h1⟩
 | .BJ cs,v,hv => by
  unfold VR at hv; obtain ⟨x,rfl,h1⟩ := hv
  unfold kS VR; exact ⟨x,rfl,h.pq cs x h1⟩
theorem Ren.pq (h : Ren E m O') : ∀ (xs : List AV) (l : List Value),dw E xs l -> dw (Ih E m O') (qI m xs) l
 | [],_,hv => by unfold dw at hv; unfold qI dw; exact hv
 | x :: xs,l,hv => by
  unfold dw at hv; obtain ⟨v,r,rfl,h1,h2⟩ := hv
  unfold qI dw; exact ⟨v,r,rfl,h.av x v h1,h.pq xs r h2⟩
end
theorem QW {x : AV} (h : qh x = true) (hf : Qn x = true) (m : List (Nat × Nat)) : kS m x = x := by
 unfold qh at h
 split at h <;> first | (unfold kS; rfl) | (exact Bool.noConfusion (show false = true from hf)) | (exact Bool.noConfusion (show false = true from h)) | (unfold kS qI; rfl) | (unfold kS kS qI; rfl)
theorem Ren.lit (h : Ren E m O') {kt : CT} : ∀ {r : List (kt.D × AV)} {l : List MapEntry},KZ r = true -> Qv E kt r l -> Qv (Ih E m O') kt r l
 | [],_,_,hr => hr
 | (k,x) :: r,l,hf,hr => by
  obtain ⟨e,l',rfl,h1,h2,h3,h4⟩ := hr
  have hf : (Qn x && KZ r) = true := hf
  rw [Bool.and_eq_true] at hf
  have := h.av _ _ h3
  rw [QW h2 hf.1] at this
  exact ⟨e,l',rfl,h1,h2,this,h.lit hf.2 h4⟩
theorem Ren.xW (h : Ren E m O') {d : Gu} {l : List MapEntry} (hf : VG d = true) (hm : xW E l d) : xW (Ih E m O') l d := by
 cases d with
 | lit kt r => exact h.lit hf hm
 | dat kt vt r => exact hm
end
end Go.E
end
section
namespace Go.E
section
variable {X : Ctx} {cs0 : List Frame} {o : Ow}
theorem Ij {E E' : Env} {m : List (Nat × Nat)} {tm : List (Nat × AV)} {tmps : Array Value} (h : kH E tm tmps) (hr : ∀ x v,VR E x v -> VR E' (kS m x) v) : ∀ (l : List Nat),kH E' (Au m tm l) tmps
 | [],t,x,hx => by cases hx
 | i :: r,t,x,hx => by
  unfold Au at hx
  split at hx
  ·rename_i v hv
   by_cases e : i = t
   ·subst e
    rw [dn] at hx; cases hx
    exact hr _ _ (h i v hv)
   ·rw [fC _ _ e] at hx
    exact Ij h hr r t x hx
  ·exact Ij h hr r t x hx
theorem Ea {E E' : Env} {m : List (Nat × Nat)} (hr : ∀ x v,VR E x v -> VR E' (kS m x) v) : ∀ {Jq : List Fr} {l : List Frame} (ks : List (List Nat)),xE E Jq l -> xE E' (lT m Jq ks) l
 | [],l,ks,h => by
  cases ks <;> exact h
 | fr :: r,l,[],⟨y,ys,e,⟨tmps,todo,e1,e2,e3⟩,h2⟩ => ⟨y,ys,e,⟨tmps,todo,e1,fun _ _ x => (by cases x),e3⟩,Ea hr [] h2⟩
 | fr :: r,l,k :: ks,⟨y,ys,e,⟨tmps,todo,e1,e2,e3⟩,h2⟩ => ⟨y,ys,e,⟨tmps,todo,e1,Ij e2 hr k,e3⟩,Ea hr ks h2⟩
theorem wL {m : List (Nat × Nat)} : ∀ (c : Fr) (r : List Fr) (ks : List (List Nat)) (c' : Fr) (r' : List Fr),lT m (c :: r) ks = c' :: r' -> lq c' r' = lq c r
 | c,[],[],c',r',h => by cases h; rfl
 | c,[],k :: ks,c',r',h => by
  have h : { c with tm := Au m c.tm k } :: lT m [] ks = c' :: r' := h
  cases ks <;> cases h <;> rfl
 | c,d :: r,[],c',r',h => by
  have h : { c with tm := [] } :: lT m (d :: r) [] = c' :: r' := h
  cases hr : lT m (d :: r) [] with
  | nil => cases hr
  | cons d' r'' => rw [hr] at h; cases h; exact wL d r [] d' r'' hr
 | c,d :: r,k :: ks,c',r',h => by
  have h : { c with tm := Au m c.tm k } :: lT m (d :: r) ks = c' :: r' := h
  cases hr : lT m (d :: r) ks with
  | nil => cases ks <;> cases hr
  | cons d' r'' => rw [hr] at h; cases h; exact wL d r ks d' r'' hr
theorem Ik {E : Env} {tm : List (Nat × AV)} {tmps : Array Value} (h : kH E tm tmps) : ∀ (l : List Nat),kH E (Aw tm l) tmps
 | [],t,x,hx => by cases hx
 | i :: r,t,x,hx => by
  unfold Aw at hx
  split at hx
  ·rename_i hv
   by_cases e : i = t
   ·subst e
    rw [dn] at hx; cases hx
    exact h i _ hv
   ·rw [fC _ _ e] at hx
    exact Ik h r t x hx
  ·exact Ik h r t x hx
theorem Eb {E : Env} : ∀ {Jq : List Fr} {l : List Frame} (ks : List (List Nat)),xE E Jq l -> xE E (lU Jq ks) l
 | [],l,ks,h => by
  cases ks <;> exact h
 | fr :: r,l,[],⟨y,ys,e,⟨tmps,todo,e1,e2,e3⟩,h2⟩ => ⟨y,ys,e,⟨tmps,todo,e1,fun _ _ x => (by cases x),e3⟩,Eb [] h2⟩
 | fr :: r,l,k :: ks,⟨y,ys,e,⟨tmps,todo,e1,e2,e3⟩,h2⟩ => ⟨y,ys,e,⟨tmps,todo,e1,Ik e2 k,e3⟩,Eb ks h2⟩
theorem wM : ∀ (c : Fr) (r : List Fr) (ks : List (List Nat)) (c' : Fr) (r' : List Fr),lU (c :: r) ks = c' :: r' -> lq c' r' = lq c r
 | c,[],[],c',r',h => by cases h; rfl
 | c,[],k :: ks,c',r',h => by
  have h : { c with tm := Aw c.tm k } :: lU [] ks = c' :: r' := h
  cases ks <;> cases h <;> rfl
 | c,d :: r,[],c',r',h => by
  have h : { c with tm := [] } :: lU (d :: r) [] = c' :: r' := h
  cases hr : lU (d :: r) [] with
  | nil => cases hr
  | cons d' r'' => rw [hr] at h; cases h; exact wM d r [] d' r'' hr
 | c,d :: r,k :: ks,c',r',h => by
  have h : { c with tm := Aw c.tm k } :: lU (d :: r) ks = c' :: r' := h
  cases hr : lU (d :: r) ks with
  | nil => cases ks <;> cases hr
  | cons d' r'' => rw [hr] at h; cases h; exact wM d r ks d' r'' hr
theorem ZN {t : dD} {s s' : St} {E : Env} {fr : Frame} {cs : List Frame} (h : rD X o E s cs0 fr cs) (hc : canon t s = some s') : ∃ E' : Env,E'.w = E.w ∧ rD X o E' s' cs0 fr cs := by
 unfold canon at hc
 cases hraw : t.raw with
 | true =>
  rw [hraw,cond_true] at hc
  split at hc
  ·cases hc; exact ⟨E,rfl,h⟩
  ·split at hc
   ·rename_i c cr hk
    have hc' := Option.some.inj hc
    subst hc'
    obtain ⟨cs1,ec,hcs⟩ := h.callers
    have hall := Eb t.keep (Jq := s.cur :: s.callers) (l := fr :: cs1) ⟨fr,cs1,rfl,h.cur,hcs⟩
    rw [hk] at hall
    obtain ⟨y,ys,e,h1,h2⟩ := hall
    cases e
    exact ⟨E,rfl,⟨h.ok,h.objs,h1,⟨_,ec,h2⟩,h.bx,(wM _ _ _ _ _ hk).trans h.root⟩⟩
   ·cases hc
 | false =>
  rw [hraw] at hc
  dsimp only [cond_false] at hc
  split at hc
  ·rename_i s1 h1
   obtain ⟨E1,w1,k1⟩ := Tj h h1
   obtain ⟨E2,w2,k2⟩ := Gj (l := t.DI) k1
   split at hc
   ·rename_i m hm
    obtain ⟨hn,hc⟩ := bH hc
    simp only [Bool.and_eq_true] at hn
    obtain ⟨hn,hfx⟩ := hn
    split at hc
    ·rename_i O' hO
     obtain ⟨n1,n2⟩ := Kt hm
     obtain ⟨r1,r2⟩ := CW hO
     have hinv : ∀ i j,(i,j) ∈ m -> inv m j = i := fun i j hij => n2 _ _ j (Tn hij) hij
     have ren : Ren E2 m O' := by
      refine ⟨fun i j a hij ha la => ?_,fun a ha => (k2.ok.num _ a ha).2 rfl⟩
      have hmem := qy hij
      obtain ⟨a',q1,_,q3⟩ := r2 i j hmem fun i' hi' => n2 _ _ j hi' hmem
      rw [k2.objs] at ha
      rw [ha] at q1; cases q1
      exact ⟨q3,hinv i j hmem⟩
     have lv : ∀ j a',look O' j = some a' -> ∃ i a,(i,j) ∈ m ∧ look E2.O i = some a ∧ live a = true ∧ a' = Ie m a ∧ inv m j = i ∧ LU a = true := by
      intro j a' hj
      obtain ⟨i,a,q1,q2,q3,q4,q6⟩ := r1 j a' hj
      exact ⟨i,a,q1,by rw [k2.objs]; exact q2,q3,q4,hinv i j q1,q6⟩
     have hok : OK X o (Ih E2 m O') (t.DI.length + 1) := by
      refine ⟨Nat.succ_pos _,fun j a' hj => ?_,fun j a' hj => ?_,fun j j' b hj hj' hb hb' => ?_,fun j b hj hb => ?_,k2.ok.zn,k2.ok.kept,k2.ok.size,k2.ok.fg,k2.ok.us,fun q hq => ?_⟩
      ·obtain ⟨i,a,q1,_⟩ := lv j a' hj
       have := n1 i j q1
       exact ⟨by omega,fun e => by rw [e] at this; have := this.1; exact absurd this (by decide)⟩
      ·obtain ⟨i,a,q1,q2,q3,q4,q5,q6⟩ := lv j a' hj
       have ho := k2.ok.obj i a q2
       subst q4
       cases a with
       | dead => cases q3
       | map d =>
        obtain ⟨b,ent,clk,e1,e2,e3⟩ := ho
        exact ⟨b,ent,clk,by show (E2.ρ (inv m j)).b = _; rw [q5]; exact e1,e2,ren.xW q6 e3⟩
       | box bs =>
        obtain ⟨b,c,tt,f,e1,e2,e3,e4⟩ := ho
        exact ⟨b,c,tt,f,by show (E2.ρ (inv m j)).b = _; rw [q5]; exact e1,e2,e3,ren.pq _ _ e4⟩
       | arr ts rows wr =>
        show fE (Ih E2 m O') j (.arr ts rows wr)
        unfold fE at ho ⊢
        show match (E2.ρ (inv m j)).b with | none => rows = [] ∧ (E2.ρ (inv m j)).cap = 0 | some b => ∃ c t f,E2.w.heap[b]? = some (.cells c t f) ∧ free c f ∧ rows.length <= (E2.ρ (inv m j)).cap ∧ (E2.ρ (inv m j)).cap * ts.n <= c.size ∧ dR ts.n (ts.rp E2.w E2.N) rows c.toList
        rw [q5]; exact ho
      ·obtain ⟨x,hx,lx⟩ := hj
       obtain ⟨x',hx',lx'⟩ := hj'
       obtain ⟨i,a,q1,q2,q3,q4,q5,_⟩ := lv j x hx
       obtain ⟨i',a',p1,p2,p3,p4,p5,_⟩ := lv j' x' hx'
       have hb : (E2.ρ (inv m j)).b = some b := hb
       have hb' : (E2.ρ (inv m j')).b = some b := hb'
       rw [q5] at hb; rw [p5] at hb'
       have := k2.ok.inj i i' b ⟨a,q2,q3⟩ ⟨a',p2,p3⟩ hb hb'
       subst this
       have e1 := Ic hn q1
       rw [Ic hn p1] at e1
       cases e1; rfl
      ·obtain ⟨x,hx,lx⟩ := hj
       obtain ⟨i,a,q1,q2,q3,q4,q5,_⟩ := lv j x hx
       have hb : (E2.ρ (inv m j)).b = some b := hb
       rw [q5] at hb
       exact k2.ok.own i b ⟨a,q2,q3⟩ hb
      ·have := ren.av _ _ (k2.ok.bx q hq)
       have e := Ii hfx q.1 (by rw [k2.bx]; exact List.mem_map.2 ⟨q,hq,rfl⟩)
       unfold kS at this
       rw [e] at this
       exact this
     obtain ⟨cs1,ec,hcs⟩ := k2.callers
     have hall := Ea (E' := Ih E2 m O') (m := m) ren.av t.keep (Jq := (sJ s1 t.DI).cur :: (sJ s1 t.DI).callers) (l := fr :: cs1) ⟨fr,cs1,rfl,k2.cur,hcs⟩
     split at hc
     ·rename_i c cr hk
      have hc' := Option.some.inj hc
      subst hc'
      rw [hk] at hall
      obtain ⟨y,ys,e,hy,hys⟩ := hall
      cases e
      exact ⟨Ih E2 m O',w2.trans w1,hok,rfl,hy,⟨cs1,ec,hys⟩,k2.bx,(wL _ _ _ _ _ hk).trans k2.root⟩
     ·cases hc
    ·cases hc
   ·cases hc
  ·cases hc
end
end Go.E
end
section
namespace Go.E
section
variable {P : Program} {main : Bool} {Rl : Ow -> World -> World -> Prop} {C : kG} {Rc : ak}
def Out (C : kG) (s : fM) (X : Ctx) (cs0 : List Frame) (r : s.B) (o : Ow) (fr : Frame) (cs : List Frame) (w : World) : Prop :=
 ∃ (E : Env) (st : St) (tmps : Array Value) (todo : List Item) (vs : List AV) (fn : Func),fr = { frame st.cur.fn tmps todo with mode := .returning } ∧ cs = cs0 ∧ E.w = w ∧ rD X o E st cs0 (frame st.cur.fn tmps todo) cs0 ∧ kH E st.cur.tm tmps ∧
  look C.fns st.cur.fn = some fn ∧ sK C fn st = some vs ∧ fin s vs st = some r
theorem ZO {X : Ctx} {cs0 : List Frame} {s : fM} (vs : List AV) (st : St) (r : s.B) (fn : Func) (h : fin s vs st = some r) (hfn : look C.fns st.cur.fn = some fn) (hd : sK C fn st = some vs) (o : Ow) (E : Env) (tmps : Array Value) (todo : List Item)
  (hst : rD X o E st cs0 (frame st.cur.fn tmps todo) cs0) (ht : kH E st.cur.tm tmps) : Via P main Rl (Out C s X cs0 r) o { frame st.cur.fn tmps todo with mode := .returning } cs0 E.w :=
 .stop ⟨E,st,tmps,todo,vs,fn,rfl,rfl,rfl,hst,ht,hfn,hd,h⟩
end
end Go.E
end
section
namespace Go.E
section
variable {X : Ctx} {o : Ow} {E : Env} {ay : Nat}
theorem W9 {id : Nat} {ts : cZ} {rows : List ts.D} {wr : Bool} (h : OK X o E ay) (hl : look E.O id = some (.arr ts rows wr)) :
  let E' : Env := { E with O := dh [.kill id,.dQ id] ((id,.dead) :: E.O) }
  OK X o E' ay ∧ Step E E' [.kill id,.dQ id] := by
 intro E'
 have VT := lY (es := [.kill id,.dQ id]) (id := id) (a' := .dead) (O := E.O) (fun _ => rfl) rfl
 have UA : look E'.O id = some .dead := VT.1
 have lk : ∀ i,i ≠ id -> look E'.O i = (look E.O i).map (iT [.kill id,.dQ id]) := VT.2
 have hk : Keep E E' fun i => i = id := by
  refine ⟨fun b hb => ⟨hb,rfl⟩,fun b hb => ⟨hb,rfl⟩,fun i hi ts' pR wr' hl' => ⟨by rw [lk i hi,hl']; rfl,rfl,fun b hb => rfl⟩,fun i cs hl' => ?_,fun i m hl' => ?_⟩
  ·have x : i ≠ id := fun x => by rw [x,hl] at hl'; cases hl'
   exact ⟨fU [.kill id,.dQ id] cs,by rw [lk i x,hl']; rfl,rfl⟩
  ·have x : i ≠ id := fun x => by rw [x,hl] at hl'; cases hl'
   exact ⟨m,by rw [lk i x,hl']; rfl,rfl⟩
 have hs := hk.gone
 refine ⟨h.next hs (fun i => i = id) (fun b hb => rfl) (Nat.le_refl _) (fun _ hb => hb) rfl (fun _ hb => hb) (fun _ hb => hb) h.us (Nat.le_refl _) ?_ ?_ ?_ h.zn,hs⟩
 ·intro i x hi hne
  rw [lk i hne] at hi
  obtain ⟨x,hx,rfl⟩ := Option.map_eq_some_iff.1 hi
  exact ⟨x,hx,rfl,fun l => ⟨rfl,fun b' hb' => ⟨(h.own i b' ⟨x,hx,l⟩ hb').2.1,rfl⟩⟩⟩
 ·intro i x hi hi'
  subst hi
  rw [UA] at hi'
  cases hi'
  have := h.num i _ hl
  exact ⟨this.1,this.2,trivial⟩
 ·intro i b hi ⟨x,hx,l⟩ _
  subst hi
  rw [UA] at hx
  cases hx; cases l
inductive Lets (O : bD) : List Eff -> List Nat -> Prop
 | nil : Lets O [] []
 | shut {id : Nat} {ts : cZ} {rows : List ts.D} {wr : Bool} {r : List Eff} {mv : List Nat} : look O id = some (.arr ts rows wr) -> Lets O r mv -> Lets O (.shut id ts rows :: r) mv
 | gone {id : Nat} {ts : cZ} {rows : List ts.D} {wr : Bool} {r : List Eff} {mv : List Nat} : look O id = some (.arr ts rows wr) -> Lets O r mv -> Lets O (.kill id :: .dQ id :: r) (id :: mv)
theorem Lets.append {O : bD} {es fs : List Eff} {mv mv' : List Nat} (h : Lets O es mv) (h' : Lets O fs mv') : Lets O (es ++ fs) (mv ++ mv') := by
 induction h with
 | nil => exact h'
 | shut a _ ih => exact .shut a ih
 | gone a _ ih => exact .gone a ih
theorem qo.lets {O : bD} {es : List Eff} (h : qo O es) : Lets O es [] := by
 induction h with
 | nil => exact .nil
 | cons a _ ih => exact .shut a ih
end
end Go.E
end
section
namespace Go.E
section
variable {X : Ctx} {o : Ow}
theorem Ku {E E1 E' : Env} {e r : List Eff} {mv : List Nat} {id : Nat} {b : Bool} (h1 : ∀ i,look E1.O i = if i = id then some .dead else (look E.O i).map (iT e)) (hid : ∃ a,look E.O id = some a)
  (h2 : ∀ i,look E'.O i = if i ∈ mv ∨ bC i r = true then (look E1.O i).map fun _ => .dead else (look E1.O i).map (iT r)) (i : Nat) (q : Prop) [Decidable q] (hq : q ↔ i = id ∨ i ∈ mv ∨ bC i r = true) :
  look E'.O i = if q then (look E.O i).map fun _ => .dead else (look E.O i).map (iT (e ++ r)) := by
 rw [h2,h1]
 by_cases x : i = id
 ·subst x
  obtain ⟨a,ha⟩ := hid
  rw [if_pos rfl,if_pos (hq.2 (.inl rfl)),ha]
  split <;> rfl
 ·rw [if_neg x]
  by_cases y : i ∈ mv ∨ bC i r = true
  ·rw [if_pos y,if_pos (hq.2 (.inr y))]
   cases look E.O i <;> rfl
  ·rw [if_neg y,if_neg (fun z => (hq.1 z).elim x y)]
   cases look E.O i with
   | none => rfl
   | some a => simp only [Option.map_some,qY]
theorem Il : ∀ {es : List Eff} {mv : List Nat} {E : Env} {ay : Nat} {O : bD},Lets O es mv -> OK X o E ay -> (∀ id ts rows wr,look O id = some (.arr ts rows wr) -> id ∉ mv -> look E.O id = some (.arr ts rows wr) ∨ look E.O id = some .dead) ->
  (∀ id ∈ mv,∃ ts rows wr,look O id = some (.arr ts rows wr) ∧ look E.O id = some (.arr ts rows wr)) -> mv.Nodup -> (∀ id ∈ mv,bC id es = false) ->
  ∃ E' : Env,E'.w = E.w ∧ E'.ρ = E.ρ ∧ E'.F = E.F ∧ OK X o E' ay ∧ Step E E' es ∧ (∀ b,E.N b -> E'.N b) ∧
   (∀ i,look E'.O i = if i ∈ mv ∨ bC i es = true then (look E.O i).map fun _ => .dead else (look E.O i).map (iT es)) ∧
   (∀ i ts rows wr b,bC i es = true -> look E.O i = some (.arr ts rows wr) -> (E.ρ i).b = some b -> E'.N b) ∧
   (∀ b,E'.N b -> E.N b ∨ ∃ i ts rows wr,bC i es = true ∧ look E.O i = some (.arr ts rows wr) ∧ (E.ρ i).b = some b)
 | _,_,E,ay,O,.nil,h,_,_,_,_ => ⟨E,rfl,rfl,rfl,h,Step.refl E,fun _ hb => hb,fun i => by
   rw [if_neg (by rintro (x | x); cases x; cases x)]
   cases look E.O i with
   | none => rfl
   | some a => simp [lX],fun _ _ _ _ _ hx => (by cases hx),fun _ hb => .inl hb⟩
 | _,_,E,ay,O,.shut (id := id) (ts := ts) (rows := rows) (wr := wr) (r := r) (mv := mv) hl hr,h,hO,hm,hn,hs => by
  have hmv : id ∉ mv := fun x => by
   have : (Nat.beq id id || bC id r) = false := hs id x
   rw [Nat.beq_refl] at this; cases this
  have fin : ∀ E1 : Env,E1.w = E.w -> E1.ρ = E.ρ -> E1.F = E.F -> E1.O = dh [.shut id ts rows] E.O -> OK X o E1 ay -> Step E E1 [.shut id ts rows] -> (∀ b,E.N b -> E1.N b) -> (∀ ts' rows' wr' b,look E.O id = some (.arr ts' rows' wr') -> (E.ρ id).b = some b -> E1.N b) -> (∀ b,E1.N b -> E.N b ∨ ∃ ts' rows' wr',look E.O id = some (.arr ts' rows' wr') ∧ (E.ρ id).b = some b) -> (∃ a,look E.O id = some a) ->
    ∃ E' : Env,E'.w = E.w ∧ E'.ρ = E.ρ ∧ E'.F = E.F ∧ OK X o E' ay ∧ Step E E' (.shut id ts rows :: r) ∧ (∀ b,E.N b -> E'.N b) ∧
     (∀ i,look E'.O i = if i ∈ mv ∨ bC i (.shut id ts rows :: r) = true then (look E.O i).map fun _ => .dead else (look E.O i).map (iT (.shut id ts rows :: r))) ∧
     (∀ i ts' rows' wr' b,bC i (.shut id ts rows :: r) = true -> look E.O i = some (.arr ts' rows' wr') -> (E.ρ i).b = some b -> E'.N b) ∧
   (∀ b,E'.N b -> E.N b ∨ ∃ i ts rows wr,bC i (.shut id ts rows :: r) = true ∧ look E.O i = some (.arr ts rows wr) ∧ (E.ρ i).b = some b) := by
   intro E1 e1 e2 e3 e4 ok1 st1 n1 m1 b1 hex
   have lk : ∀ i,look E1.O i = if i = id then some .dead else (look E.O i).map (iT [.shut id ts rows]) := by
    intro i
    rw [e4,bV]
    show (if (Nat.beq id i || false) = true then _ else _) = _
    by_cases x : i = id
    ·subst x; simp
    ·rw [cO (fun y => x y.symm)]; simp [x]
   obtain ⟨E',w1,r1,f1,ok2,st2,n2,l2,m2,b2⟩ := Il hr ok1 (fun id' ts' rows' wr' hl' hm' => by
     rw [lk]
     by_cases x : id' = id
     ·rw [if_pos x]; exact .inr rfl
     ·rw [if_neg x]
      rcases hO id' ts' rows' wr' hl' hm' with g | g <;> rw [g]
      ·exact .inl rfl
      ·exact .inr rfl) (fun id' hi' => by
     obtain ⟨ts',rows',wr',g1,g2⟩ := hm id' hi'
     refine ⟨ts',rows',wr',g1,?_⟩
     rw [lk,if_neg (fun x => hmv (by rw [<- x]; exact hi')),g2]; rfl) hn (fun id' hi' => by
     have : (Nat.beq id id' || bC id' r) = false := hs id' hi'
     exact (Bool.or_eq_false_iff.1 this).2)
   refine ⟨E',w1.trans e1,r1.trans e2,f1.trans e3,ok2,st1.trans st2,fun b hb => n2 b (n1 b hb),fun i => ?_,?_,fun b hb => ?_⟩
   ·refine Ku (b := true) (e := [.shut id ts rows]) lk hex l2 i _ ?_
    show (i ∈ mv ∨ (Nat.beq id i || bC i r) = true) ↔ _
    simp only [Bool.or_eq_true,Nat.beq_eq]
    constructor
    ·rintro (x | x | x)
     ·exact .inr (.inl x)
     ·exact .inl x.symm
     ·exact .inr (.inr x)
    ·rintro (x | x | x)
     ·exact .inr (.inl x.symm)
     ·exact .inl x
     ·exact .inr (.inr x)
   ·intro i ts' rows' wr' b hx hi hb
    by_cases x : i = id
    ·subst x; exact n2 b (m1 ts' rows' wr' b hi hb)
    ·have hx : (Nat.beq id i || bC i r) = true := hx
     rw [cO (fun y => x y.symm),Bool.false_or] at hx
     exact m2 i ts' rows' wr' b hx (by rw [lk,if_neg x,hi]; rfl) (by rw [e2]; exact hb)
   ·rcases b2 b hb with hb | ⟨i,ts',rows',wr',q1,q2,q3⟩
    ·rcases b1 b hb with hb | ⟨ts',rows',wr',q2,q3⟩
     ·exact .inl hb
     ·exact .inr ⟨id,ts',rows',wr',by show (Nat.beq id id || bC id r) = true; rw [Nat.beq_refl]; rfl,q2,q3⟩
    ·refine .inr ⟨i,ts',rows',wr',by show (Nat.beq id i || bC i r) = true; rw [q1,Bool.or_true],?_,by rw [<- e2]; exact q3⟩
     rw [lk] at q2
     split at q2
     ·cases q2
     ·obtain ⟨a,ha,e⟩ := Option.map_eq_some_iff.1 q2
      cases a <;> cases e
      exact ha
  rcases hO id ts rows wr hl hmv with g | g
  ·obtain ⟨a,b⟩ := NV h g
   exact fin { E with N := fun b => E.N b ∨ (E.ρ id).b = some b,O := dh [.shut id ts rows] E.O } rfl rfl rfl rfl a b (fun _ hb => .inl hb) (fun _ _ _ b _ hb => .inr hb) (fun b hb => hb.imp (fun x => x) fun x => ⟨_,_,_,g,x⟩) ⟨_,g⟩
  ·obtain ⟨a,b⟩ := JJ (ts := ts) (rows := rows) h g
   exact fin { E with O := dh [.shut id ts rows] E.O } rfl rfl rfl rfl a b (fun _ hb => hb) (fun _ _ _ _ hx _ => by rw [g] at hx; cases hx) (fun _ hb => .inl hb) ⟨_,g⟩
 | _,_,E,ay,O,.gone (id := id) (ts := ts) (rows := rows) (wr := wr) (r := r) (mv := mv) hl hr,h,hO,hm,hn,hs => by
  obtain ⟨vX,kC,wr0,g1,g2⟩ := hm id List.mem_cons_self
  obtain ⟨ok1,st1⟩ := W9 h g2
  have VT := lY (es := [.kill id,.dQ id]) (id := id) (a' := .dead) (O := E.O) (fun _ => rfl) rfl
  have hn' := List.nodup_cons.1 hn
  have lk : ∀ i,look (dh [.kill id,.dQ id] ((id,.dead) :: E.O)) i = if i = id then some .dead else (look E.O i).map (iT [.kill id,.dQ id]) := by
   intro i
   by_cases x : i = id
   ·rw [if_pos x,x]; exact VT.1
   ·rw [if_neg x]; exact VT.2 i x
  obtain ⟨E',w1,r1,f1,ok2,st2,n2,l2,m2,b2⟩ := Il hr ok1 (fun id' ts' rows' wr' hl' hm' => by
    show look (dh [.kill id,.dQ id] ((id,.dead) :: E.O)) id' = _ ∨ look (dh [.kill id,.dQ id] ((id,.dead) :: E.O)) id' = _
    rw [lk]
    by_cases x : id' = id
    ·rw [if_pos x]; exact .inr rfl
    ·rw [if_neg x]
     rcases hO id' ts' rows' wr' hl' (fun y => (List.mem_cons.1 y).elim x hm') with g | g <;> rw [g]
     ·exact .inl rfl
     ·exact .inr rfl) (fun id' hi' => by
    obtain ⟨ts',rows',wr',q1,q2⟩ := hm id' (List.mem_cons_of_mem _ hi')
    refine ⟨ts',rows',wr',q1,?_⟩
    show look (dh [.kill id,.dQ id] ((id,.dead) :: E.O)) id' = _
    rw [lk,if_neg (fun x => hn'.1 (by rw [<- x]; exact hi')),q2]; rfl) hn'.2 (fun id' hi' => hs id' (List.mem_cons_of_mem _ hi'))
  refine ⟨E',w1,r1,f1,ok2,st1.trans st2,n2,fun i => ?_,?_,fun b hb => ?_⟩
  ·refine Ku (b := true) (E1 := { E with O := dh [.kill id,.dQ id] ((id,.dead) :: E.O) }) (e := [.kill id,.dQ id]) lk ⟨_,g2⟩ l2 i _ ?_
   show (i ∈ id :: mv ∨ bC i r = true) ↔ _
   simp only [List.mem_cons,or_assoc]
  ·intro i ts' rows' wr' b hx hi hb
   have hx : bC i r = true := hx
   have x : i ≠ id := fun x => by
    have := hs id List.mem_cons_self
    rw [<- x] at this
    have this : bC i r = false := this
    rw [hx] at this; cases this
   exact m2 i ts' rows' wr' b hx (by show look (dh [.kill id,.dQ id] ((id,.dead) :: E.O)) i = _; rw [lk,if_neg x,hi]; rfl) hb
  ·rcases b2 b hb with hb | ⟨i,ts',rows',wr',q1,q2,q3⟩
   ·exact .inl hb
   ·refine .inr ⟨i,ts',rows',wr',q1,?_,q3⟩
    have q2 : look (dh [.kill id,.dQ id] ((id,.dead) :: E.O)) i = _ := q2
    rw [lk] at q2
    split at q2
    ·cases q2
    ·obtain ⟨a,ha,e⟩ := Option.map_eq_some_iff.1 q2
     cases a <;> cases e
     exact ha
end
end Go.E
end
section
namespace Go.E
section
variable {X : Ctx} {o : Ow}
structure QX (E E1 Ec : Env) (mv : List Nat) : Prop where
 w : Ec.w = E.w
 w1 : E1.w = E.w
 n : ∀ b,E.N b -> E1.N b
 nc : ∀ b,E1.N b -> Ec.N b
 f : ∀ b,E.F b -> Ec.F b
 a : ∀ i ts rows wr b,look E.O i = some (.arr ts rows wr) -> i ∉ mv -> (E.ρ i).b = some b -> Ec.F b
variable {E E1 Ec : Env} {mv : List Nat} {ay : Nat}
theorem QX.ro (L : QX E E1 Ec mv) {deps : List Nat} {ts : cZ} {rows : List ts.D} {v : Value} (h : Ql E deps ts rows v) (hd : ∀ i ∈ deps,i ∉ mv) : Ql Ec [foreign] ts rows v := by
 refine oI ?_ (fun b hb => ⟨L.nc b (L.n b hb),by rw [L.w]⟩) h
 intro b e c t f hb hc
 refine ⟨?_,c,t,f,by rw [L.w]; exact hc,rfl⟩
 rcases hb with hb | ⟨i,hi,hb | ⟨ts',rows',wr',q1,q2,_⟩⟩
 ·exact .inl (L.nc b (L.n b hb))
 ·exact .inr ⟨foreign,List.mem_cons_self,.inl ⟨rfl,L.f b hb.2⟩⟩
 ·exact .inr ⟨foreign,List.mem_cons_self,.inl ⟨rfl,L.a i ts' rows' wr' b q1 (hd i hi) q2⟩⟩
def dU (m : Md) (t : CT) (x : AV) : List (Option Nat) := match t,m,x with
 | .sl _,.mv,.own id => [some id]
 | .sl _,.mv,_ => [none]
 | _,_,_ => []
def qO (E : Env) : Option Nat -> Pt
 | some id => E.ρ id
 | none => ⟨none,0⟩
theorem Gl {E E2 : Env} {t : CT} {x : AV} {d : t.D} {v : Value} (ht : jL t = false) (hd : t.je E.O x = some d) (hv : VR E x v) : VR E2 (t.av d) v := by
 cases t with
 | int k => rw [yg hd] at hv; unfold VR at hv; unfold CT.av VR; exact hv
 | bool => rw [vF hd] at hv; unfold VR at hv; unfold CT.av VR; exact hv
 | str => rw [yh hd] at hv; unfold VR at hv; unfold CT.av VR; exact hv
 | sl ts => cases ht
theorem Kv (h : OK X o E ay) (L : QX E E1 Ec mv) {ts : cZ} {m : Md} {x : AV} {d : List ts.D} {v : Value} {n : Nat} {es : List Eff} {mo us : List Nat} (hd : CT.je E.O (.sl ts) x = some d) (hv : VR E x v) (hu : sD m E.O x = some (es,mo,us)) (hus : ∀ i ∈ us,i ∉ mv)
  (hsh : m = .leak -> Shut E E1 x) (gB : ∀ p ∈ (fQ m (.sl ts) d n).2.1,look Ec.O p.1 = some p.2) (hρ : ∀ q ∈ dU m (.sl ts) x,Ec.ρ n = qO E q) :
  VR Ec (fQ m (.sl ts) d n).1 v ∧ ∀ p ∈ (fQ m (.sl ts) d n).2.1,fE Ec p.1 p.2 := by
 have hn : vw E.N Ec.N E.w Ec.w := fun b hb => ⟨L.nc b (L.n b hb),by rw [L.w]⟩
 cases m with
 | ro =>
  refine ⟨?_,fun p hp => by cases hp⟩
  show VR Ec (.ro ts d [foreign]) v
  unfold VR
  rcases oK hd with ⟨rfl,rfl⟩ | ⟨deps,rfl⟩ | ⟨id,wr,rfl,hl⟩
  ·unfold VR at hv; subst hv
   exact ⟨_,_,_,rfl,rfl,Nat.le_refl _,fun x => absurd rfl x⟩
  ·unfold VR at hv
   cases hu
   exact L.ro hv hus
  ·have hq : rowsOf E.O (.own id) = some ⟨ts,d,[id]⟩ := by
    show (match look E.O id with | some (.arr ts rows _) => some (Rows.mk ts rows [id]) | _ => none) = _
    rw [hl]
   cases hu
   exact L.ro (kN h hq hv) hus
 | leak =>
  refine ⟨?_,fun p hp => by cases hp⟩
  show VR Ec (.ro ts d []) v
  have h1 := zy (E' := E1) h (fun b hb => ⟨L.n b hb,by rw [L.w1]⟩) (.sl ts) x d v hd hv (hsh rfl)
  have h2 := CT.jM (w' := Ec.w) (N' := Ec.N) (fun b hb => ⟨L.nc b hb,by rw [L.w,L.w1]⟩) (.sl ts) d v h1
  exact SK (E := Ec) (.sl ts) d v h2
 | mv =>
  have hlook : look Ec.O n = some (.arr ts d true) := gB (n,.arr ts d true) List.mem_cons_self
  show VR Ec (.own n) v ∧ _
  rcases oK hd with ⟨rfl,rfl⟩ | ⟨deps,rfl⟩ | ⟨id,wr,rfl,hl⟩
  ·have hp : Ec.ρ n = ⟨none,0⟩ := hρ none List.mem_cons_self
   unfold VR at hv; subst hv
   refine ⟨?_,fun p hpm => ?_⟩
   ·unfold VR; exact ⟨ts,[],true,hlook,by rw [hp]; rfl⟩
   ·obtain rfl : p = (n,.arr ts [] true) := by simpa [fQ] using hpm
    unfold fE; rw [hp]; exact ⟨rfl,rfl⟩
  ·cases hu
  ·have hp : Ec.ρ n = E.ρ id := hρ (some id) List.mem_cons_self
   unfold VR at hv
   obtain ⟨ts',rows',wr',g1,g2⟩ := hv
   rw [hl] at g1; cases g1
   refine ⟨?_,fun p hpm => ?_⟩
   ·unfold VR; exact ⟨ts,d,true,hlook,by rw [hp]; exact g2⟩
   ·obtain rfl : p = (n,.arr ts d true) := by simpa [fQ] using hpm
    have ho := h.obj id _ hl
    unfold fE at ho ⊢
    rw [hp]
    cases hb : (E.ρ id).b with
    | none => rw [hb] at ho; exact ho
    | some b =>
     rw [hb] at ho
     obtain ⟨c,t,f,k1,k2,k3,k4,k5⟩ := ho
     exact ⟨c,t,f,by rw [L.w]; exact k1,k2,k3,k4,eX (fun d l => cZ.jM hn ts d l) _ _ k5⟩
end
end Go.E
end
section
namespace Go.E
section
variable {X : Ctx} {o : Ow} {E E1 Ec : Env} {mv : List Nat} {ay : Nat}
def bQ : List CT -> List Md -> List AV -> List (Option Nat)
 | t :: ts,ms,x :: xs => bif jL t then match ms with
   | m :: ms => dU m t x ++ bQ ts ms xs
   | [] => []
  else bQ ts ms xs
 | _,_,_ => []
def oM (E E1 : Env) (es : List Eff) : Prop := ∀ i,bC i es = true -> i ≠ foreign ∧ ∀ b ts rows wr,look E.O i = some (.arr ts rows wr) -> (E.ρ i).b = some b -> E1.N b ∧ E1.w.heap[b]? = E.w.heap[b]?
theorem oM.left {es fs : List Eff} (h : oM E E1 (es ++ fs)) : oM E E1 es := fun i hi => h i (by rw [gZ,hi]; rfl)
theorem oM.right {es fs : List Eff} (h : oM E E1 (es ++ fs)) : oM E E1 fs := fun i hi => h i (by rw [gZ,hi,Bool.or_true])
theorem oM.leak {x : AV} {es : List Eff} {mo us : List Nat} (hu : sD .leak E.O x = some (es,mo,us)) (h : oM E E1 es) : Shut E E1 x := by
 unfold sD at hu
 obtain ⟨e,he,hq⟩ := Option.map_eq_some_iff.1 hu
 cases hq
 exact fun i hi => h i ((wC he).2 i hi)
theorem Kw (m : Md) (t : CT) (d : t.D) (x : AV) (n : Nat) : (fQ m t d n).2.2 = n + (dU m t x).length := by
 cases t <;> cases m <;> first | rfl | (cases x <;> rfl)
theorem Io {ms : List Md} {t : CT} {d : t.D} {n : Nat} (ht : jL t = false) : dK (.one t) ms d n = ([t.av d],[],n) := by
 cases t <;> first | rfl | cases ht
theorem tH (h : OK X o E ay) (L : QX E E1 Ec mv) : ∀ (ts : cZ) (ms : List Md) (xs : List AV) (d : ts.D) (l : List Value) (n : Nat) {es : List Eff} {mo us : List Nat},ts.iC E.O xs = some d -> dw E xs l -> gX E.O ts.list ms xs = some (es,mo,us) -> (∀ i ∈ us,i ∉ mv) -> oM E E1 es ->
  (∀ p ∈ (dK ts ms d n).2.1,look Ec.O p.1 = some p.2) -> (∀ k q,(bQ ts.list ms xs)[k]? = some q -> Ec.ρ (n + k) = qO E q) ->
  dw Ec (dK ts ms d n).1 l ∧ (∀ p ∈ (dK ts ms d n).2.1,fE Ec p.1 p.2) ∧ (dK ts ms d n).2.2 = n + (bQ ts.list ms xs).length
 | .one t,ms,xs,d,l,n,es,mo,us,hd,hv,hu,hus,hsh,gB,hρ => by
  match xs,hd,hv,hu,hρ with
  | [x],hd,hv,hu,hρ =>
   have hd : t.je E.O x = some d := hd
   unfold dw at hv
   obtain ⟨v,q,rfl,h1,h2⟩ := hv
   unfold dw at h2; subst h2
   cases ht : jL t with
   | false =>
    have e := Io (ms := ms) (d := d) (n := n) ht
    have e2 : bQ [t] ms [x] = [] := by show (bif jL t then _ else _) = _; rw [ht]; rfl
    rw [e]
    refine ⟨?_,fun p hp => (by cases hp),?_⟩
    ·unfold dw; exact ⟨v,[],rfl,Gl ht hd h1,by unfold dw; rfl⟩
    ·show n = n + (bQ [t] ms [x]).length; rw [e2,List.length_nil,Nat.add_zero]
   | true =>
    cases t with
    | sl ts =>
     cases ms with
     | nil => cases hu
     | cons m ms =>
      have hu : (match sD m E.O x,(some ([],[],[]) : Option (List Eff × List Nat × List Nat)) with | some (a,b,c),some (a',b',c') => some (a ++ a',b ++ b',c ++ c') | _,_ => none) = some (es,mo,us) := hu
      split at hu
      ·rename_i a b c a' b' c' QY e
       cases e
       cases hu
       simp only [List.append_nil] at *
       have := Kv h L (n := n) hd h1 QY hus (fun e => by subst e; exact oM.leak QY hsh) gB fun q hq => by
        obtain ⟨k,hk⟩ := List.getElem?_of_mem hq
        have hk0 : k = 0 := by
         have : (dU m (.sl ts) x).length <= 1 := by cases m <;> first | exact Nat.zero_le _ | (cases x <;> exact Nat.le_refl _)
         have hlt : k < (dU m (.sl ts) x).length := by
          rcases Nat.lt_or_ge k (dU m (.sl ts) x).length with y | y
          ·exact y
          ·rw [List.getElem?_eq_none y] at hk; cases hk
         omega
        subst hk0
        exact hρ 0 q (by show (dU m (.sl ts) x ++ [])[0]? = some q; rw [List.append_nil]; exact hk)
       refine ⟨?_,this.2,?_⟩
       ·show dw Ec [(fQ m (.sl ts) d n).1] [v]
        unfold dw; exact ⟨v,[],rfl,this.1,by unfold dw; rfl⟩
       ·show (fQ m (.sl ts) d n).2.2 = n + (dU m (.sl ts) x ++ []).length
        rw [List.append_nil]; exact Kw m (.sl ts) d x n
      ·cases hu
    | _ => cases ht
  | [],hd,_,_,_ => cases hd
  | x :: y :: r,hd,_,_,_ => cases hd
 | .cons t ts,ms,xs,d,l,n,es,mo,us,hd,hv,hu,hus,hsh,gB,hρ => by
  match xs,hd,hv,hu,hρ with
  | [],hd,_,_,_ => cases hd
  | x :: xs,hd,hv,hu,hρ =>
   unfold dw at hv
   obtain ⟨v,q,rfl,h1,h2⟩ := hv
   have hd : (match t.je E.O x,ts.iC E.O xs with | some d,some e => some (d,e) | _,_ => none) = some d := hd
   split at hd
   case h_2 => cases hd
   rename_i d1 d2 g1 g2
   cases hd
   cases ht : jL t with
   | false =>
    have e : dK (.cons t ts) ms (d1,d2) n = (t.av d1 :: (dK ts ms d2 n).1,(dK ts ms d2 n).2.1,(dK ts ms d2 n).2.2) := by
     show (bif jL t then _ else _) = _
     rw [ht]; rfl
    have e2 : bQ (t :: ts.list) ms (x :: xs) = bQ ts.list ms xs := by show (bif jL t then _ else _) = _; rw [ht]; rfl
    have hu : (bif jL t then _ else gX E.O ts.list ms xs) = some (es,mo,us) := hu
    rw [ht] at hu
    rw [e] at gB ⊢
    have := tH h L ts ms xs d2 q n g2 h2 hu hus hsh gB (fun k q' hq => hρ k q' (by show (bQ (t :: ts.list) ms (x :: xs))[k]? = _; rw [e2]; exact hq))
    refine ⟨?_,this.2.1,?_⟩
    ·unfold dw; exact ⟨v,q,rfl,Gl ht g1 h1,this.1⟩
    ·show _ = n + (bQ (t :: ts.list) ms (x :: xs)).length; rw [e2]; exact this.2.2
   | true =>
    cases t with
    | sl vX =>
     cases ms with
     | nil => cases hu
     | cons m ms =>
      have hu : (match sD m E.O x,gX E.O ts.list ms xs with | some (a,b,c),some (a',b',c') => some (a ++ a',b ++ b',c ++ c') | _,_ => none) = some (es,mo,us) := hu
      split at hu
      case h_2 => cases hu
      rename_i a b c a' b' c' QY hub
      cases hu
      have e : dK (.cons (.sl vX) ts) (m :: ms) (d1,d2) n = ((fQ m (.sl vX) d1 n).1 :: (dK ts ms d2 (fQ m (.sl vX) d1 n).2.2).1,(dK ts ms d2 (fQ m (.sl vX) d1 n).2.2).2.1 ++ (fQ m (.sl vX) d1 n).2.1,(dK ts ms d2 (fQ m (.sl vX) d1 n).2.2).2.2) := rfl
      have e2 : bQ ((CT.sl vX) :: ts.list) (m :: ms) (x :: xs) = dU m (.sl vX) x ++ bQ ts.list ms xs := rfl
      have hn := Kw m (.sl vX) d1 x n
      rw [e] at gB ⊢
      have k1 := Kv h L (n := n) g1 h1 QY (fun i hi => hus i (List.mem_append.2 (.inl hi))) (fun e => by subst e; exact oM.leak QY hsh.left) (fun p hp => gB p (List.mem_append.2 (.inr hp))) fun q' hq => by
       obtain ⟨k,hk⟩ := List.getElem?_of_mem hq
       have hlt : k < (dU m (.sl vX) x).length := by
        rcases Nat.lt_or_ge k (dU m (.sl vX) x).length with y | y
        ·exact y
        ·rw [List.getElem?_eq_none y] at hk; cases hk
       have hk0 : k = 0 := by
        have : (dU m (.sl vX) x).length <= 1 := by cases m <;> first | exact Nat.zero_le _ | (cases x <;> exact Nat.le_refl _)
        omega
       subst hk0
       exact hρ 0 q' (by show (dU m (.sl vX) x ++ bQ ts.list ms xs)[0]? = _; rw [List.getElem?_append_left hlt]; exact hk)
      have k2 := tH h L ts ms xs d2 q (fQ m (.sl vX) d1 n).2.2 g2 h2 hub (fun i hi => hus i (List.mem_append.2 (.inr hi))) hsh.right (fun p hp => gB p (List.mem_append.2 (.inl hp))) fun k q' hq => by
       rw [hn,Nat.add_assoc]
       refine hρ _ q' ?_
       show (dU m (.sl vX) x ++ bQ ts.list ms xs)[_]? = _
       rw [List.getElem?_append_right (by omega),Nat.add_sub_cancel_left]; exact hq
      refine ⟨?_,fun p hp => (List.mem_append.1 hp).elim (k2.2.1 p) (k1.2 p),?_⟩
      ·unfold dw; exact ⟨v,q,rfl,k1.1,k2.1⟩
      ·show _ = n + (dU m (.sl vX) x ++ bQ ts.list ms xs).length
       rw [List.length_append, <- Nat.add_assoc, <- hn]; exact k2.2.2
    | _ => cases ht
end
end Go.E
end
