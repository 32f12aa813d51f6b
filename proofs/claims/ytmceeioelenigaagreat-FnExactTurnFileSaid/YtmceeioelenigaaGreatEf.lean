/- Cuts, moved slices, states. -/
import Derived.Test.YtmceeioelenigaaGreatEe
section
namespace Go.E
section
variable {P : Program} {main : Bool} {Rl : Ow -> World -> World -> Prop} {C : Cfg} {Rc : Rcall} {R : Type} {X : Ctx} {cs0 : List Frame} {Stop : R -> Ow -> Frame -> List Frame -> World -> Prop} {Rt : St -> Option R} {fin : List AV -> St -> Option R}
theorem exit_D {fn : FuncId} {id : Nat} : ∀ {k k' : List It},exitTo' id k = some k' -> drawsT C fn k = true -> drawsT C fn k' = true
 | [],k',h,_ => by cases h
 | .inBlock j :: k,k',h,hd => by
  have h : (bif Nat.beq j id then some k else exitTo' id k) = some k' := h
  cases hb : Nat.beq j id with
  | true => rw [hb] at h; cases h; exact hd
  | false => rw [hb] at h; exact exit_D (k := k) h hd
 | .code c :: k,k',h,hd => by
  have hd : (drawsC C fn c && drawsT C fn k) = true := hd
  rw [Bool.and_eq_true] at hd
  exact exit_D (k := k) h hd.2
 | .inLoop c :: k,k',h,hd => by
  have hd : (drawsC C fn c && drawsT C fn k) = true := hd
  rw [Bool.and_eq_true] at hd
  exact exit_D (k := k) h hd.2
 | .ops _ _ :: k,k',h,hd => exit_D (k := k) h hd
 | .drawn _ _ _ _ _ :: k,k',h,hd => exit_D (k := k) h hd
 | .wait _ _ _ _ :: k,k',h,hd => exit_D (k := k) h hd
theorem setNth_fd {f : Fr -> Fr} (hf : ∀ fr,(f fr).fn = fr.fn ∧ (f fr).td = fr.td) : ∀ (l : List Fr) (d : Nat),(setNth f l d).map (fun f => (f.fn,f.td)) = l.map fun f => (f.fn,f.td)
 | [],_ => rfl
 | x :: r,0 => by show ((f x).fn,(f x).td) :: _ = _; rw [(hf x).1,(hf x).2]; rfl
 | x :: r,d + 1 => by show _ :: (setNth f r d).map _ = _; rw [setNth_fd hf r d]; rfl
theorem mapLoc_fd : ∀ (l : Loc) (f : AV -> AV) (s : St),fd (mapLoc s l f) = fd s
 | .slot 0 i,f,s => rfl
 | .slot (d + 1) i,f,s => by
  show (s.cur.fn,s.cur.td) :: (setNth (fun fr : Fr => { fr with tm := mapTm f i fr.tm }) s.callers d).map _ = _
  rw [setNth_fd (f := fun fr : Fr => { fr with tm := mapTm f i fr.tm }) (fun _ => ⟨rfl,rfl⟩)]; rfl
 | .cell l c,f,s => by
  unfold mapLoc
  split
  ·split <;> rfl
  ·exact mapLoc_fd l _ s
  ·exact mapLoc_fd l _ s
  ·exact mapLoc_fd l _ s
  ·rfl
theorem applyEffs_fd (es : List Eff) (s : St) : fd (applyEffs es s) = fd s := by
 cases es with
 | nil => rfl
 | cons e r =>
  show _ :: List.map (fun f => (f.fn,f.td)) (effsFrs (e :: r) s.callers) = _
  unfold effsFrs
  rw [List.map_map]; rfl
theorem toRo_fd {l : Loc} {ts : CTs} {b : Bool} {s s' : St} (h : toRo l ts b s = some s') : fd s' = fd s := by
 unfold toRo at h
 split at h
 ·cases h; exact mapLoc_fd l _ s
 ·split at h
  ·split at h
   ·obtain ⟨_,h⟩ := bif_some h
    cases h
    rw [mapLoc_fd,applyEffs_fd]
   ·cases h
  ·cases h
 ·cases h
theorem toRos_fd : ∀ {l : List (Loc × CTs × Bool)} {s s' : St},toRos l s = some s' -> fd s' = fd s
 | [],s,s',h => by cases h; rfl
 | (l,ts,b) :: r,s,s',h => by
  unfold toRos at h
  split at h
  ·rename_i s1 h1
   rw [toRos_fd h,toRo_fd h1]
  ·cases h
theorem unnil_fd : ∀ {l : List (Loc × Option CTs)} {s : St},fd (unnil s l) = fd s
 | [],s => rfl
 | (l,none) :: r,s => unnil_fd (l := r)
 | (l,some ts) :: r,s => by
  unfold unnil
  split
  ·rw [unnil_fd (l := r),mapLoc_fd]; rfl
  ·exact unnil_fd (l := r)
theorem keepFrs_fd {m : List (Nat × Nat)} : ∀ (l : List Fr) (ks : List (List Nat)),(keepFrs m l ks).map (fun f => (f.fn,f.td)) = l.map fun f => (f.fn,f.td)
 | [],ks => by cases ks <;> rfl
 | fr :: r,[] => by show _ :: (keepFrs m r []).map _ = _; rw [keepFrs_fd r []]; rfl
 | fr :: r,k :: ks => by show _ :: (keepFrs m r ks).map _ = _; rw [keepFrs_fd r ks]; rfl
theorem pickFrs_fd : ∀ (l : List Fr) (ks : List (List Nat)),(pickFrs l ks).map (fun f => (f.fn,f.td)) = l.map fun f => (f.fn,f.td)
 | [],ks => by cases ks <;> rfl
 | fr :: r,[] => by show _ :: (pickFrs r []).map _ = _; rw [pickFrs_fd r []]; rfl
 | fr :: r,k :: ks => by show _ :: (pickFrs r ks).map _ = _; rw [pickFrs_fd r ks]; rfl
theorem canon_fd {t : Tmpl} {s s' : St} (h : canon t s = some s') : fd s' = fd s := by
 unfold canon at h
 cases hraw : t.raw with
 | true =>
  rw [hraw,cond_true] at h
  split at h
  ·cases h; rfl
  ·split at h
   ·rename_i c cs hk
    cases h
    have := pickFrs_fd (s.cur :: s.callers) t.keep
    rw [hk] at this
    exact this
   ·cases h
 | false =>
  rw [hraw] at h
  dsimp only [cond_false] at h
  split at h
  ·rename_i s1 h1
   split at h
   ·rename_i m hm
    obtain ⟨_,h⟩ := bif_some h
    split at h
    ·rename_i O hO
     split at h
     ·rename_i c cs hk
      cases h
      have := keepFrs_fd (m := m) ((unnil s1 t.locs).cur :: (unnil s1 t.locs).callers) t.keep
      rw [hk] at this
      have h2 : fd (unnil s1 t.locs) = ((unnil s1 t.locs).cur :: (unnil s1 t.locs).callers).map fun f => (f.fn,f.td) := rfl
      exact Eq.trans this (h2.symm.trans ((unnil_fd (l := t.locs) (s := s1)).trans (toRos_fd h1)))
     ·cases h
    ·cases h
   ·cases h
  ·cases h
theorem arun_sound (L : Leans P main Rl C Rc X cs0 Stop Rt fin) : ∀ (n : Nat) (fresh : Bool) (s : St) (r : R),StD C s -> arun C Rc Rt fin n fresh s = some r -> Goes P main Rl X cs0 (Stop r) s := by
 intro n
 induction n using Nat.strongRecOn with
 | _ n IH =>
 intro fresh s r hsd hr
 cases n with
 | zero => cases hr
 | succ n =>
  have ih : ∀ s,arun C Rc Rt fin n false s = some r -> StD C s -> Goes P main Rl X cs0 (Stop r) s := fun s h hs => IH n (Nat.lt_succ_self n) false s r hs h
  have hkw : ∀ (s2 : St) (ps : List Nat) (ops : Array Oper) (rest : List (Nat × List Nat)) (kk : List It) (σ : List Nat) (rest' : List Oper),arun C Rc Rt fin n false (enterD s2 (some ps) ops.toList rest kk) = some r -> StD C (goTo s2 kk) -> Left ps ops.toList rest σ -> σ.map (ops[·]?) = rest'.map some -> Goes P main Rl X cs0 (Stop r) (goTo s2 (.ops ops.toList rest' :: kk)) :=
   fun s2 ps ops rest kk σ rest' h hs ⟨an,D,ha,hp⟩ hm => drawn_go L h hp ha hm hs fun m hm s hs hh => IH m (Nat.lt_succ_of_lt hm) false s r hs hh
  have toK : ∀ c b td,(drawsT C s.cur.fn s.cur.td = true -> drawsT C s.cur.fn td = true) -> StD C (goTo (knowOp s c b) td) := fun c b td h p hp => by
   have hp : p ∈ (s.cur.fn,td) :: s.callers.map fun f => (f.fn,f.td) := by cases c <;> exact hp
   rcases List.mem_cons.1 hp with e | hp
   ·subst e; exact h (hsd (s.cur.fn,s.cur.td) List.mem_cons_self)
   ·exact hsd p (List.mem_cons_of_mem _ hp)
  have cur0 : drawsT C s.cur.fn s.cur.td = true := hsd (s.cur.fn,s.cur.td) List.mem_cons_self
  have toD : ∀ td,(drawsT C s.cur.fn s.cur.td = true -> drawsT C s.cur.fn td = true) -> StD C (goTo s td) := fun td h p hp => by
   rcases List.mem_cons.1 hp with e | hp
   ·subst e; exact h cur0
   ·exact hsd p (List.mem_cons_of_mem _ hp)
  unfold arun at hr
  dsimp only at hr
  split at hr
  ·
   rename_i htd
   exact aret_sound L (k := arun C Rc Rt fin n false) hr hsd ih hkw (.inl htd)
  ·rename_i id k htd
   refine goes_to L.rely (ih _ hr (toD _ (by rw [htd]; exact fun h => h))) fun tmps todo h => ?_
   rw [htd] at h; obtain ⟨y,ys,rfl,e,h2⟩ := td_one h
   have e : y = .inBlock id := e
   subst e
   exact ⟨ys,h2,fun cs w => ⟨_,Conc.stepG_inBlock⟩⟩
  ·rename_i b k htd
   refine goes_to L.rely (ih _ hr (toD _ (by rw [htd]; intro h; simp only [drawsT,drawsC,Bool.and_eq_true,Bool.true_and] at h ⊢; simp [h]))) fun tmps todo h => ?_
   rw [htd] at h; obtain ⟨y,ys,rfl,⟨rfl,e⟩,h2⟩ := td_one h
   exact ⟨_,TdR_mk ⟨rfl,e⟩ (TdR_mk ⟨rfl,e⟩ h2),fun cs w => ⟨_,Conc.stepG_inLoop⟩⟩
  ·rename_i k htd
   refine goes_to L.rely (ih _ hr (toD _ (by rw [htd]; intro h; simp only [drawsT,drawsC,Bool.and_eq_true,Bool.true_and] at h ⊢; simp [h]))) fun tmps todo h => ?_
   rw [htd] at h; obtain ⟨y,ys,rfl,⟨rfl,e⟩,h2⟩ := td_one h
   exact ⟨ys,h2,fun cs w => ⟨_,Conc.stepG_skip⟩⟩
  ·rename_i a b k htd
   refine goes_to L.rely (ih _ hr (toD _ (by rw [htd]; intro h; simp only [drawsT,drawsC,Bool.and_eq_true,Bool.true_and] at h ⊢; simp [h]))) fun tmps todo h => ?_
   rw [htd] at h; obtain ⟨y,ys,rfl,⟨rfl,e⟩,h2⟩ := td_one h
   unfold codeOk at e
   simp only [Bool.and_eq_true] at e
   exact ⟨_,TdR_mk ⟨rfl,e.1⟩ (TdR_mk ⟨rfl,e.2⟩ h2),fun cs w => ⟨_,Conc.stepG_seq⟩⟩
  ·
   rename_i c x y k htd
   split at hr
   ·rename_i t hc
    intro o E fr cs h
    obtain ⟨tmps,todo,rfl,ht,h1⟩ := h.at
    rw [htd] at h1; obtain ⟨z,ys,rfl,⟨rfl,e⟩,h2⟩ := td_one h1
    unfold codeOk at e
    simp only [Bool.and_eq_true] at e
    have ec := ev_VR (a := ⟨tmps,[]⟩) ht hc
    unfold VR at ec
    have hst := Conc.stepG_cond (P := P) (main := main) (b := Conc.base s.cur.fn) (a := ⟨tmps,[]⟩) (k := ys) (cs := cs) (w := E.w) (x := x) (y := y) ec
    refine .step hst (Keeps.refl _ _) fun w2 hw2 => ?_
    rw [Ow.grow_self] at hw2 ⊢
    have hkn := knowOp_R (b := t) h hc
    obtain ⟨tm',td',e1,e2,_⟩ := hkn.cur
    have efn : (knowOp s c t).cur.fn = s.cur.fn := by cases c <;> rfl
    have etm : tm' = tmps := by
     rw [efn] at e1
     have := congrArg Frame.tmps e1
     exact this.symm
    subst etm
    cases t with
    | true =>
     have h' : StR X o E (goTo (knowOp s c true) (.code x :: k)) cs0 (frame s.cur.fn tm' (.code x :: ys)) cs :=
      ⟨hkn.ok,hkn.objs,⟨tm',_,by show _ = frame (knowOp s c true).cur.fn _ _; rw [efn],e2,TdR_mk ⟨rfl,e.1⟩ h2⟩,hkn.callers,hkn.bx,(rootFn_cur (goTo (knowOp s c true) (.code x :: k)).cur (knowOp s c true).cur _ rfl).trans hkn.root⟩
     exact ih _ hr (toK c true _ (by rw [htd]; intro h; simp only [drawsT,drawsC,Bool.and_eq_true,Bool.true_and] at h ⊢; simp [h])) _ _ _ _ (h'.rely L.rely hw2)
    | false =>
     have h' : StR X o E (goTo (knowOp s c false) (.code y :: k)) cs0 (frame s.cur.fn tm' (.code y :: ys)) cs :=
      ⟨hkn.ok,hkn.objs,⟨tm',_,by show _ = frame (knowOp s c false).cur.fn _ _; rw [efn],e2,TdR_mk ⟨rfl,e.2⟩ h2⟩,hkn.callers,hkn.bx,(rootFn_cur (goTo (knowOp s c false) (.code y :: k)).cur (knowOp s c false).cur _ rfl).trans hkn.root⟩
     exact ih _ hr (toK c false _ (by rw [htd]; intro h; simp only [drawsT,drawsC,Bool.and_eq_true,Bool.true_and] at h ⊢; simp [h])) _ _ _ _ (h'.rely L.rely hw2)
   ·cases hr
  ·rename_i id b k htd
   refine goes_to L.rely (ih _ hr (toD _ (by rw [htd]; intro h; simp only [drawsT,drawsC,Bool.and_eq_true,Bool.true_and] at h ⊢; simp [h]))) fun tmps todo h => ?_
   rw [htd] at h; obtain ⟨y,ys,rfl,⟨rfl,e⟩,h2⟩ := td_one h
   exact ⟨_,TdR_mk ⟨rfl,e⟩ (TdR_mk (y := .inBlock id) rfl h2),fun cs w => ⟨_,Conc.stepG_block⟩⟩
  ·rename_i b k htd
   refine goes_to L.rely (ih _ hr (toD _ (by rw [htd]; intro h; simp only [drawsT,drawsC,Bool.and_eq_true,Bool.true_and] at h ⊢; simp [h]))) fun tmps todo h => ?_
   rw [htd] at h; obtain ⟨y,ys,rfl,⟨rfl,e⟩,h2⟩ := td_one h
   exact ⟨_,TdR_mk ⟨rfl,e⟩ (TdR_mk ⟨rfl,e⟩ h2),fun cs w => ⟨_,Conc.stepG_loop⟩⟩
  ·rename_i id k htd
   split at hr
   ·rename_i k' hk'
    refine goes_to L.rely (ih _ hr (toD _ (by rw [htd]; exact exit_D hk'))) fun tmps todo h => ?_
    rw [htd] at h; obtain ⟨y,ys,rfl,⟨rfl,e⟩,h2⟩ := td_one h
    obtain ⟨t,h3,h4⟩ := exit_R hk' h2
    exact ⟨t,h4,fun cs w => ⟨_,Conc.stepG_exit h3⟩⟩
   ·cases hr
  ·rename_i k htd
   exact aret_sound L (k := arun C Rc Rt fin n false) hr hsd ih hkw (.inr ⟨_,htd⟩)
  ·
   rename_i id ops dr k htd
   have go : (bif dr then match ordsAt s.cur.fn id C.ords with
     | some (o :: os) => sameAll (arun C Rc Rt fin n false (enterD s (pinsAt s.cur.fn id C.ords) ops.toList o k)) (os.map fun o => arun C Rc Rt fin n false (enterD s (pinsAt s.cur.fn id C.ords) ops.toList o k))
     | _ => none
    else arun C Rc Rt fin n false (goTo s (.ops ops.toList ops.toList :: k))) = some r -> Goes P main Rl X cs0 (Stop r) s := fun hr => by
    cases dr with
    | false =>
     rw [cond_false] at hr
     refine goes_to L.rely (ih _ hr (toD _ (by rw [htd]; intro h; simp only [drawsT,drawsC,Bool.and_eq_true] at h ⊢; exact h.2))) fun tmps todo h => ?_
     rw [htd] at h; obtain ⟨y,ys,rfl,⟨rfl,e⟩,h2⟩ := td_one h
     unfold codeOk at e
     exact ⟨_,TdR_mk ⟨ops,List.range ops.size,rfl,rfl,e,range_ops ops⟩ h2,fun cs w => ⟨_,Conc.stepG_region⟩⟩
    | true =>
     rw [cond_true] at hr
     have hdr : (!true || (match ordsAt s.cur.fn id C.ords with | some os => regOk (quietP C (pinsAt s.cur.fn id C.ords) ops.toList) ops.toList os | none => false)) = true := by
      have := cur0
      rw [htd] at this
      simp only [drawsT,drawsC,Bool.and_eq_true] at this
      exact this.1
     rw [Bool.not_true,Bool.false_or] at hdr
     split at hr
     ·rename_i o os hords
      rw [hords] at hdr
      obtain ⟨h1,h2⟩ := sameAll_get hr
      refine region_drawn L L.tys.mixed htd hsd hdr (fun ord hord => ?_) fun m hm s hs hh => IH m (Nat.lt_succ_of_lt hm) false s r hs hh
      rcases List.mem_cons.1 hord with e | hord
      ·rw [e]; exact h1
      ·exact h2 _ (List.mem_map.2 ⟨ord,hord,rfl⟩)
     ·cases hr
   cases fresh with
   | true => exact go hr
   | false =>
    dsimp only [cond_false] at hr
    split at hr
    ·rename_i t ht
     split at hr
     ·rename_i s' hs'
      intro o E fr cs h
      obtain ⟨E',he,h'⟩ := L.canon t s s' hs' o E fr cs h
      rw [<- he]
      exact L.back s' r hr (fun p hp => hsd p (by rw [<- canon_fd hs']; exact hp)) o E' fr cs h'
     ·cases hr
    ·exact go hr
  ·
   rename_i pins all watch base k htd
   intro o E fr cs h
   obtain ⟨tmps,todo,rfl,ht,h1⟩ := h.at
   rw [htd] at h1
   obtain ⟨y,ys,_,e,_⟩ := h1
   exact e.elim
  ·rename_i pins all i an rest watch base k htd
   intro o E fr cs h
   obtain ⟨tmps,todo,rfl,ht,h1⟩ := h.at
   rw [htd] at h1
   obtain ⟨y,ys,_,e,_⟩ := h1
   exact e.elim
  ·rename_i all k htd
   refine goes_to L.rely (ih _ hr (toD _ (by rw [htd]; exact fun h => h))) fun tmps todo h => ?_
   rw [htd] at h; obtain ⟨y,ys,rfl,⟨ops,idx,rfl,rfl,e,hi⟩,h2⟩ := td_one h
   have : idx = [] := by cases idx with
    | nil => rfl
    | cons _ _ => simp at hi
   subst this
   exact ⟨ys,h2,fun cs w => ⟨_,Conc.stepG_region_end⟩⟩
  ·
   rename_i all op rest k htd
   intro o E fr cs h
   obtain ⟨tmps,todo,rfl,ht,h1⟩ := h.at
   have h1' := h1
   rw [htd] at h1'
   obtain ⟨ops,i,idx,todo',e1,e2,e3,e4,e5,e6,_⟩ := ops_R h1'
   subst e2
   have wr := wanted_R (o := op) ht e3
   have kn : ∀ d b,look s.cur.tm d = some (.bool b) -> StR X o E (know s d b) cs0 (frame (know s d b).cur.fn tmps todo) cs ∧ TmR E (know s d b).cur.tm tmps := by
    intro d b hb
    have := know_R h hb
    obtain ⟨tm',td',q1,q2,_⟩ := this.cur
    have : tm' = tmps := (congrArg Frame.tmps q1).symm
    subst this
    exact ⟨know_R h hb,q2⟩
   split at hr
   ·rename_i hw
    exact aops_sound L htd hsd ih h ht e1 e4 e5 e6 h1 (wr.2.1 hw) hr
   ·rename_i hw
    exact op_pass L.rely h ht e1 e4 e5 e6 (wr.2.2 hw) (ih _ hr (after_D hsd (by rw [htd]; exact fun h => h)))
   ·rename_i d b hw
    obtain ⟨w1,w2⟩ := wr.1 hw
    obtain ⟨k1,k2⟩ := kn d b w1
    cases b with
    | true => exact aops_sound L (s := know s d true) htd hsd ih k1 k2 e1 e4 e5 e6 h1 w2 hr
    | false => exact op_pass (s := know s d false) L.rely k1 k2 e1 e4 e5 e6 w2 (ih _ hr (after_D (s := know s d _) hsd (by show drawsT C s.cur.fn s.cur.td = true -> _; rw [htd]; exact fun h => h)))
   ·rename_i d b hw
    obtain ⟨w1,w2⟩ := wr.1 hw
    obtain ⟨k1,k2⟩ := kn d b w1
    cases b with
    | true => exact op_pass (s := know s d true) L.rely k1 k2 e1 e4 e5 e6 w2 (ih _ hr (after_D (s := know s d _) hsd (by show drawsT C s.cur.fn s.cur.td = true -> _; rw [htd]; exact fun h => h)))
    | false => exact aops_sound L (s := know s d false) htd hsd ih k1 k2 e1 e4 e5 e6 h1 w2 hr
   ·cases hr
  ·cases hr
end
end Go.E
end
section
namespace Go.E
section
variable {X : Ctx} {cs0 : List Frame} {o : Ow}
theorem VRs_setNth {E : Env} {f : AV -> AV} : ∀ {cs : List AV} {l : List Value} {c : Nat} {v : AV},VRs E cs l -> nth cs c = some v -> (∀ u,VR E v u -> VR E (f v) u) -> VRs E (setNth f cs c) l
 | [],_,_,_,_,h,_ => by cases h
 | x :: xs,l,0,v,h,hn,hf => by
  cases hn
  unfold VRs at h; obtain ⟨u,q,rfl,h1,h2⟩ := h
  show VRs E (f x :: xs) _
  unfold VRs; exact ⟨u,q,rfl,hf u h1,h2⟩
 | x :: xs,l,c + 1,v,h,hn,hf => by
  unfold VRs at h; obtain ⟨u,q,rfl,h1,h2⟩ := h
  show VRs E (x :: setNth f xs c) _
  unfold VRs; exact ⟨u,q,rfl,h1,VRs_setNth h2 hn hf⟩
theorem look_mapTm {f : AV -> AV} {i : Nat} : ∀ (tm : List (Nat × AV)) (t : Nat),look (mapTm f i tm) t = if t = i then (look tm t).map f else look tm t
 | [],t => by show none = _; split <;> rfl
 | (j,v) :: r,t => by
  unfold mapTm
  by_cases e : j = i
  ·subst e
   rw [Nat.beq_refl]
   show (bif Nat.beq j t then some (f v) else look r t) = if t = j then (bif Nat.beq j t then some v else look r t).map f else (bif Nat.beq j t then some v else look r t)
   by_cases x : j = t
   ·subst x; simp
   ·rw [beq_ne x,if_neg (fun y => x y.symm)]; rfl
  ·rw [beq_ne e]
   show (bif Nat.beq j t then some v else look (mapTm f i r) t) = if t = i then (bif Nat.beq j t then some v else look r t).map f else (bif Nat.beq j t then some v else look r t)
   rw [look_mapTm r]
   by_cases x : j = t
   ·subst x; rw [Nat.beq_refl,if_neg e,if_neg e]
   ·rw [beq_ne x]; rfl
theorem TmR.map {E : Env} {tm : List (Nat × AV)} {tmps : Array Value} {f : AV -> AV} {i : Nat} {v : AV} (h : TmR E tm tmps) (hv : look tm i = some v) (hf : ∀ u,VR E v u -> VR E (f v) u) : TmR E (mapTm f i tm) tmps := by
 intro t x hx
 rw [look_mapTm] at hx
 split at hx
 ·rename_i e; subst e
  rw [hv] at hx; cases hx
  exact hf _ (h t v hv)
 ·exact h t x hx
theorem FrsR.map {E : Env} {f : AV -> AV} {i : Nat} {v : AV} (hf : ∀ u,VR E v u -> VR E (f v) u) : ∀ {frs : List Fr} {l : List Frame} {d : Nat} {fr : Fr},FrsR E frs l -> nth frs d = some fr -> look fr.tm i = some v -> FrsR E (setNth (fun fr => { fr with tm := mapTm f i fr.tm }) frs d) l
 | [],_,_,_,_,h,_ => by cases h
 | x :: xs,_,0,fr,⟨y,ys,e,⟨tmps,todo,e1,e2,e3⟩,h2⟩,hn,hv => by
  cases hn
  exact ⟨y,ys,e,⟨tmps,todo,e1,e2.map hv hf,e3⟩,h2⟩
 | x :: xs,_,d + 1,fr,⟨y,ys,e,h1,h2⟩,hn,hv => ⟨y,ys,e,h1,FrsR.map hf h2 hn hv⟩
theorem box_told {E : Env} {nid id : Nat} {cs cs' : List AV} (h : OK X o E nid) (hl : look E.O id = some (.box cs)) (hc : ∀ l,VRs E cs l -> VRs E cs' l) :
  let E' : Env := { E with O := (id,.box cs') :: E.O }
  OK X o E' nid ∧ Step E E' [] := by
 intro E'
 have lk0 : look E'.O id = some (.box cs') := look_cons_eq _ _ _
 have lk : ∀ i,i ≠ id -> look E'.O i = look E.O i := fun i hi => look_cons_ne _ _ (fun x => hi x.symm)
 have hk : Keep E E' fun _ => False := by
  refine ⟨fun b hb => ⟨hb,rfl⟩,fun b hb => ⟨hb,rfl⟩,fun i _ ts rows wr hl' => ?_,fun i cs1 hl' => ?_,fun i m hl' => ?_⟩
  ·have x : i ≠ id := fun x => by rw [x,hl] at hl'; cases hl'
   exact ⟨by rw [lk i x]; exact hl',rfl,fun b hb => rfl⟩
  ·by_cases x : i = id
   ·subst x; exact ⟨cs',lk0,rfl⟩
   ·exact ⟨cs1,by rw [lk i x]; exact hl',rfl⟩
  ·have x : i ≠ id := fun x => by rw [x,hl] at hl'; cases hl'
   exact ⟨m,by rw [lk i x]; exact hl',rfl⟩
 refine ⟨h.next hk.step (fun i => i = id) (fun b hb => rfl) (Nat.le_refl _) (fun _ hb => hb) rfl (fun _ hb => hb) (fun _ hb => hb) h.us (Nat.le_refl _) ?_ ?_ ?_ h.nlt,hk.step⟩
 ·intro i x hi hne
  rw [lk i hne] at hi
  exact ⟨x,hi,(effAO_nil x).symm,fun l => ⟨rfl,fun b hb => ⟨(h.own i b ⟨x,hi,l⟩ hb).2.1,rfl⟩⟩⟩
 ·intro i x hi hi'
  subst hi
  rw [lk0] at hi'
  cases hi'
  have := h.num i _ hl
  refine ⟨this.1,this.2,?_⟩
  obtain ⟨b,c,t,f,e1,e2,e3,e4⟩ := h.obj i _ hl
  exact ⟨b,c,t,f,e1,e2,e3,hk.step.avs (hc _ e4)⟩
 ·intro i b hi _ hb
  subst hi
  have := h.own i b ⟨_,hl,rfl⟩ hb
  refine ⟨this.1,this.2.1,this.2.2.1,this.2.2.2,?_⟩
  rintro j ⟨x,hj,l⟩ hj'
  by_cases y : j = i
  ·exact y
  ·rw [lk j y] at hj
   exact h.inj j i b ⟨x,hj,l⟩ ⟨_,hl,rfl⟩ hj' hb
theorem rootFn_setNth {f : Fr -> Fr} (hf : ∀ fr,(f fr).fn = fr.fn) : ∀ (c : Fr) (r : List Fr) (d : Nat),rootFn c (setNth f r d) = rootFn c r
 | _,[],_ => rfl
 | _,x :: r,0 => rootFn_cur (f x) x r (hf x)
 | _,x :: r,d + 1 => rootFn_setNth hf x r d
theorem mapLoc_R : ∀ (l : Loc) (f : AV -> AV) {s : St} {E : Env} {fr : Frame} {cs : List Frame} {v : AV},StR X o E s cs0 fr cs -> locAV s l = some v -> (∀ u,VR E v u -> VR E (f v) u) ->
  ∃ O',StR X o { E with O := O' } (mapLoc s l f) cs0 fr cs ∧ Step E { E with O := O' } []
 | .slot 0 i,f,s,E,fr,cs,v,h,hl,hf => by
  refine ⟨E.O,⟨h.ok,h.objs,?_,h.callers,h.bx,(rootFn_cur { s.cur with tm := mapTm f i s.cur.tm } s.cur s.callers rfl).trans h.root⟩,Step.refl E⟩
  obtain ⟨tmps,todo,e1,e2,e3⟩ := h.cur
  exact ⟨tmps,todo,e1,e2.map (v := v) hl hf,e3⟩
 | .slot (d + 1) i,f,s,E,fr,cs,v,h,hl,hf => by
  refine ⟨E.O,⟨h.ok,h.objs,h.cur,?_,h.bx,(rootFn_setNth (f := fun fr => { fr with tm := mapTm f i fr.tm }) (fun _ => rfl) s.cur s.callers d).trans h.root⟩,Step.refl E⟩
  obtain ⟨cs1,e,hc⟩ := h.callers
  have hl : (match nth s.callers d with | some fr => look fr.tm i | none => none) = some v := hl
  split at hl
  ·rename_i fr' hn
   exact ⟨cs1,e,hc.map hf hn hl⟩
  ·cases hl
 | .cell l c,f,s,E,fr,cs,v,h,hl,hf => by
  unfold locAV at hl
  cases hq : locAV s l with
  | none => rw [hq] at hl; cases hl
  | some q =>
   rw [hq] at hl
   unfold mapLoc
   rw [hq]
   cases q with
   | ptr id off =>
    dsimp only at hl ⊢
    cases ho : look s.objs id with
    | none => rw [ho] at hl; cases hl
    | some a =>
     rw [ho] at hl
     cases a with
     | box bs =>
      dsimp only at hl ⊢
      have hlo : look E.O id = some (.box bs) := by rw [h.objs]; exact ho
      obtain ⟨h1,h2⟩ := box_told h.ok hlo (cs' := setNth f bs (off + c)) fun l hl' => VRs_setNth hl' hl hf
      obtain ⟨cs1,e,hc⟩ := h.callers
      exact ⟨(id,.box (setNth f bs (off + c))) :: E.O,⟨h1,by rw [<- h.objs],h.cur.step0 h2,⟨cs1,e,hc.step0 h2⟩,h.bx,h.root⟩,h2⟩
     | _ => cases hl
   | agg bs =>
    dsimp only at hl ⊢
    refine mapLoc_R l (fun _ => .agg (setNth f bs c)) h hq fun u hu => ?_
    unfold VR at hu ⊢
    obtain ⟨x,rfl,hx⟩ := hu
    exact ⟨x,rfl,VRs_setNth hx hl hf⟩
   | func fn a bs =>
    dsimp only at hl ⊢
    refine mapLoc_R l (fun _ => .func fn a (setNth f bs c)) h hq fun u hu => ?_
    unfold VR at hu ⊢
    obtain ⟨x,y,rfl,hx,hy⟩ := hu
    exact ⟨x,y,rfl,hx,VRs_setNth hy hl hf⟩
   | iface t b =>
    dsimp only at hl ⊢
    cases hl
    refine mapLoc_R l (fun _ => .iface t (f v)) h hq fun u hu => ?_
    unfold VR at hu ⊢
    obtain ⟨x,rfl,hx⟩ := hu
    exact ⟨x,rfl,hf x hx⟩
   | _ => cases hl
end
end Go.E
end
section
namespace Go.E
section
variable {X : Ctx} {cs0 : List Frame} {o : Ow}
theorem applyEffs_R {s : St} {E E' : Env} {fr : Frame} {cs : List Frame} {es : List Eff} (h : StR X o E s cs0 fr cs) (hok : OK X o E' s.nid) (hs : Step E E' es) (hl : ∀ i,look E'.O i = look (afterO es E.O) i) :
  ∃ O',StR X o { E' with O := O' } (applyEffs es s) cs0 fr cs ∧ Step E { E' with O := O' } es ∧ ∀ i,look O' i = look E'.O i := by
 obtain ⟨h1,h2⟩ := hok.of_look (O' := afterO es E.O) fun i => (hl i).symm
 have h3 := hs.trans h2
 rw [List.append_nil] at h3
 obtain ⟨cs1,e,hc⟩ := h.callers
 refine ⟨afterO es E.O,?_,h3,fun i => (hl i).symm⟩
 cases es with
 | nil => exact ⟨h1,h.objs,h.cur.step0 h3,⟨cs1,e,hc.step0 h3⟩,h.bx,h.root⟩
 | cons x r => exact ⟨h1,by show afterO (x :: r) E.O = _; rw [h.objs]; rfl,h.cur.step h3,⟨cs1,e,hc.step h3⟩,h.bx,(rootFn_effs (x :: r) s.cur s.callers _ _).trans h.root⟩
theorem onlyF_foreign {fgn : Bool} : ∀ {deps : List Nat},onlyF fgn deps = true -> ∀ i ∈ deps,i = foreign ∧ fgn = true
 | j :: r,h,i,hi => by
  unfold onlyF at h
  simp only [Bool.and_eq_true] at h
  rcases List.mem_cons.1 hi with rfl | hi
  ·exact ⟨Nat.eq_of_beq_eq_true h.1.1,h.1.2⟩
  ·exact onlyF_foreign h.2 i hi
theorem SlR_onlyF {E : Env} {fgn : Bool} {deps : List Nat} {ts : CTs} {rows : List ts.D} {v : Value} (h : SlR E deps ts rows v) (hf : onlyF fgn deps = true) : SlR E (bif fgn then [foreign] else []) ts rows v := by
 refine SlR_fix ?_ (fun b hb => ⟨hb,rfl⟩) h
 intro b e c t f hb hc
 refine ⟨?_,c,t,f,hc,rfl⟩
 rcases hb with hb | ⟨i,hi,hb⟩
 ·exact .inl hb
 ·obtain ⟨e1,e2⟩ := onlyF_foreign hf i hi
  subst e2
  exact .inr ⟨i,by rw [e1]; exact List.mem_cons_self,hb⟩
theorem toRo_R {l : Loc} {ts : CTs} {fgn : Bool} {s s' : St} {E : Env} {fr : Frame} {cs : List Frame} (h : StR X o E s cs0 fr cs) (hr : toRo l ts fgn s = some s') : ∃ E' : Env,E'.w = E.w ∧ StR X o E' s' cs0 fr cs := by
 unfold toRo at hr
 split at hr
 ·rename_i hl
  have hr' := Option.some.inj hr
  subst hr'
  obtain ⟨O',h1,_⟩ := mapLoc_R l (fun _ => .ro ts [] (bif fgn then [foreign] else [])) h hl fun u hu => by
   unfold VR at hu ⊢; subst hu
   exact ⟨_,_,_,rfl,rfl,Nat.le_refl _,fun x => absurd rfl x⟩
  exact ⟨{ E with O := O' },rfl,h1⟩
 ·split at hr
  ·rename_i es hes
   split at hr
   ·rename_i ts' rows deps hl2
    obtain ⟨hb,hr⟩ := bif_some hr
    simp only [Bool.and_eq_true] at hb
    have hr' := Option.some.inj hr
    subst hr'
    rw [<- h.objs] at hes
    obtain ⟨q1,q2⟩ := sealIds_seals hes
    obtain ⟨E1,w1,r1,f1,l1,ok1,st1,n1,m1⟩ := seal_all q1 h.ok fun _ _ _ _ hx => .inl hx
    obtain ⟨O',h1,h2,_⟩ := applyEffs_R h ok1 st1 l1
    obtain ⟨O'',h3,_⟩ := mapLoc_R l (fun _ => .ro ts' rows (bif fgn then [foreign] else [])) h1 hl2 fun u hu => by
     unfold VR at hu ⊢; exact SlR_onlyF hu hb.2
    exact ⟨{ E1 with O := O'' },w1,h3⟩
   ·cases hr
  ·cases hr
 ·cases hr
theorem toRos_R : ∀ {l : List (Loc × CTs × Bool)} {s s' : St} {E : Env} {fr : Frame} {cs : List Frame},StR X o E s cs0 fr cs -> toRos l s = some s' -> ∃ E' : Env,E'.w = E.w ∧ StR X o E' s' cs0 fr cs
 | [],s,s',E,fr,cs,h,hr => by cases hr; exact ⟨E,rfl,h⟩
 | (l,ts,b) :: r,s,s',E,fr,cs,h,hr => by
  unfold toRos at hr
  split at hr
  ·rename_i s1 h1
   obtain ⟨E1,w1,k1⟩ := toRo_R h h1
   obtain ⟨E2,w2,k2⟩ := toRos_R k1 hr
   exact ⟨E2,w2.trans w1,k2⟩
  ·cases hr
theorem locAV_push {s : St} {n : Nat} {x : AO} {m : Nat} (hf : look s.objs n = none) : ∀ {l : Loc} {v : AV},locAV s l = some v -> locAV { s with objs := (n,x) :: s.objs,nid := m } l = some v
 | .slot 0 i,v,h => h
 | .slot (d + 1) i,v,h => h
 | .cell l c,v,h => by
  unfold locAV at h ⊢
  cases hq : locAV s l with
  | none => rw [hq] at h; cases h
  | some q =>
   rw [hq] at h
   rw [locAV_push hf hq]
   cases q with
   | ptr id off =>
    dsimp only at h ⊢
    have : n ≠ id := fun e => by subst e; rw [hf] at h; cases h
    rw [look_cons_ne _ _ this]; exact h
   | _ => exact h
theorem unnil_R : ∀ {l : List (Loc × Option CTs)} {s : St} {E : Env} {fr : Frame} {cs : List Frame},StR X o E s cs0 fr cs -> ∃ E' : Env,E'.w = E.w ∧ StR X o E' (unnil s l) cs0 fr cs
 | [],s,E,fr,cs,h => ⟨E,rfl,h⟩
 | (l,none) :: r,s,E,fr,cs,h => unnil_R (l := r) h
 | (l,some ts) :: r,s,E,fr,cs,h => by
  unfold unnil
  split
  ·rename_i hl
   obtain ⟨h1,h2⟩ := new_nil h.ok ts true
   obtain ⟨cs1,e,hc⟩ := h.callers
   have h3 : StR X o { E with ρ := upd E.ρ s.nid ⟨none,0⟩,O := (s.nid,.arr ts [] true) :: E.O } { s with objs := (s.nid,.arr ts [] true) :: s.objs,nid := s.nid + 1 } cs0 fr cs :=
    ⟨h2,by rw [<- h.objs],h.cur.step0 h1,⟨cs1,e,hc.step0 h1⟩,h.bx,h.root⟩
   have hl' : locAV { s with objs := (s.nid,.arr ts [] true) :: s.objs,nid := s.nid + 1 } l = some .nilsl :=
    locAV_push (by have := h.ok.fresh; rw [h.objs] at this; exact this) hl
   obtain ⟨O',h4,_⟩ := mapLoc_R l (fun _ => .own s.nid) h3 hl' fun u hu => by
    unfold VR at hu; subst hu
    unfold VR
    refine ⟨ts,[],true,look_cons_eq _ _ _,?_⟩
    show _ = Value.slice ((upd E.ρ s.nid _ s.nid).b.map _) _ (upd E.ρ s.nid _ s.nid).cap
    rw [upd_eq]; rfl
   obtain ⟨E2,w2,k2⟩ := unnil_R (l := r) h4
   exact ⟨E2,w2,k2⟩
  ·exact unnil_R (l := r) h
end
end Go.E
end
section
namespace Go.E
section
variable {X : Ctx} {cs0 : List Frame} {o : Ow}
theorem look_mem {α : Type} : ∀ {l : List (Nat × α)} {i : Nat} {a : α},look l i = some a -> (i,a) ∈ l
 | (j,b) :: r,i,a,h => by
  have h : (bif Nat.beq j i then some b else look r i) = some a := h
  by_cases e : j = i
  ·subst e; rw [Nat.beq_refl] at h; cases h; exact List.mem_cons_self
  ·rw [beq_ne e] at h; exact List.mem_cons_of_mem _ (look_mem h)
theorem mem_look : ∀ {m : List (Nat × Nat)} {i j : Nat},fstNodup m = true -> (i,j) ∈ m -> look m i = some j
 | (a,b) :: r,i,j,hn,h => by
  unfold fstNodup at hn
  simp only [Bool.and_eq_true] at hn
  show (bif Nat.beq a i then some b else look r i) = some j
  rcases List.mem_cons.1 h with e | h
  ·cases e; rw [Nat.beq_refl]; rfl
  ·have := mem_look hn.2 h
   by_cases e : a = i
   ·subst e; rw [this] at hn; simp at hn
   ·rw [beq_ne e]; exact this
theorem idsAt_snd {s : St} : ∀ {l : List (Loc × Option CTs)} {n : Nat} {m : List (Nat × Nat)},idsAt s l n = some m -> (∀ i j,(i,j) ∈ m -> n <= j ∧ j < n + l.length) ∧ ∀ i i' j,(i,j) ∈ m -> (i',j) ∈ m -> i = i'
 | [],n,m,h => by cases h; exact ⟨fun _ _ x => (by cases x),fun _ _ _ x => (by cases x)⟩
 | (l,q) :: r,n,m,h => by
  unfold idsAt at h
  have gen : ∀ (id : Nat) (m' : List (Nat × Nat)),idsAt s r (n + 1) = some m' -> m = (id,n) :: m' -> (∀ i j,(i,j) ∈ m -> n <= j ∧ j < n + ((l,q) :: r).length) ∧ ∀ i i' j,(i,j) ∈ m -> (i',j) ∈ m -> i = i' := by
   intro id m' h1 e
   subst e
   obtain ⟨k1,k2⟩ := idsAt_snd h1
   refine ⟨fun i j hm => ?_,fun i i' j hm hm' => ?_⟩
   ·simp only [List.length_cons]
    rcases List.mem_cons.1 hm with e | hm
    ·cases e; omega
    ·have := k1 i j hm; omega
   ·rcases List.mem_cons.1 hm with e | hm <;> rcases List.mem_cons.1 hm' with e' | hm'
    ·cases e; cases e'; rfl
    ·cases e; have := k1 _ _ hm'; omega
    ·cases e'; have := k1 _ _ hm; omega
    ·exact k2 i i' j hm hm'
  split at h
  ·rename_i id off m' _ h2; cases h; exact gen id m' h2 rfl
  ·rename_i id m' _ h2; cases h; exact gen id m' h2 rfl
  ·rename_i id _ _ m' _ h2; cases h; exact gen id m' h2 rfl
  ·rename_i id m' _ h2; cases h; exact gen id m' h2 rfl
  ·cases h
def renAO (m : List (Nat × Nat)) : AO -> AO
 | .box cs => .box (renAVs m cs)
 | a => a
def flatAO : AO -> Bool
 | .map d => flatM d
 | _ => true
theorem renObjs_look {m : List (Nat × Nat)} {O : Objs} : ∀ {l : List (Nat × Nat)} {O' : Objs},renObjs m O l = some O' ->
  (∀ j a',look O' j = some a' -> ∃ i a,(i,j) ∈ l ∧ look O i = some a ∧ live a = true ∧ a' = renAO m a ∧ flatAO a = true) ∧ ∀ i j,(i,j) ∈ l -> (∀ i',(i',j) ∈ l -> i' = i) -> ∃ a,look O i = some a ∧ live a = true ∧ look O' j = some (renAO m a)
 | [],O',h => by cases h; exact ⟨fun _ _ x => (by cases x),fun _ _ x => (by cases x)⟩
 | (i,j) :: r,O',h => by
  unfold renObjs at h
  have gen : ∀ (a : AO) (O1 : Objs),look O i = some a -> live a = true -> flatAO a = true -> renObjs m O r = some O1 -> O' = (j,renAO m a) :: O1 ->
    (∀ j' a',look O' j' = some a' -> ∃ i' a,(i',j') ∈ ((i,j) :: r) ∧ look O i' = some a ∧ live a = true ∧ a' = renAO m a ∧ flatAO a = true) ∧ ∀ i' j',(i',j') ∈ ((i,j) :: r) -> (∀ i'',(i'',j') ∈ ((i,j) :: r) -> i'' = i') -> ∃ a,look O i' = some a ∧ live a = true ∧ look O' j' = some (renAO m a) := by
   intro a O1 h1 hl hf h2 e
   subst e
   obtain ⟨k1,k2⟩ := renObjs_look h2
   refine ⟨fun j' a' hj => ?_,fun i' j' hm hu => ?_⟩
   ·by_cases e : j = j'
    ·subst e
     rw [look_cons_eq] at hj; cases hj
     exact ⟨i,a,List.mem_cons_self,h1,hl,rfl,hf⟩
    ·rw [look_cons_ne _ _ e] at hj
     obtain ⟨i',a0,q1,q2⟩ := k1 j' a' hj
     exact ⟨i',a0,List.mem_cons_of_mem _ q1,q2⟩
   ·by_cases e : j = j'
    ·subst e
     have : i = i' := hu i List.mem_cons_self
     subst this
     exact ⟨a,h1,hl,look_cons_eq _ _ _⟩
    ·rw [look_cons_ne _ _ e]
     rcases List.mem_cons.1 hm with q | hm
     ·cases q; exact absurd rfl e
     ·exact k2 i' j' hm fun i'' hm' => hu i'' (List.mem_cons_of_mem _ hm')
  split at h
  ·rename_i cs O1 h1 h2; cases h; exact gen _ O1 h1 rfl rfl h2 rfl
  ·rename_i ts rows wr O1 h1 h2; cases h; exact gen _ O1 h1 rfl rfl h2 rfl
  ·rename_i d O1 h1 h2
   obtain ⟨hf,h⟩ := bif_some h
   cases h; exact gen _ O1 h1 rfl hf h2 rfl
  ·cases h
end
end Go.E
end
section
namespace Go.E
section
variable {X : Ctx} {cs0 : List Frame} {o : Ow}
def inv : List (Nat × Nat) -> Nat -> Nat
 | [],_ => 0
 | (i,j) :: r,k => bif Nat.beq j k then i else inv r k
theorem inv_mem : ∀ {m : List (Nat × Nat)} {i j : Nat},(i,j) ∈ m -> (inv m j,j) ∈ m
 | (a,b) :: r,i,j,h => by
  unfold inv
  by_cases e : b = j
  ·subst e; rw [Nat.beq_refl]; exact List.mem_cons_self
  ·rw [beq_ne e]
   rcases List.mem_cons.1 h with q | h
   ·cases q; exact absurd rfl e
   ·exact List.mem_cons_of_mem _ (inv_mem h)
theorem renIds_mem {m : List (Nat × Nat)} : ∀ {l l' : List Nat},renIds m l = some l' -> ∀ i ∈ l,(i = foreign ∧ foreign ∈ l') ∨ (i ≠ foreign ∧ ∃ j,look m i = some j ∧ j ∈ l')
 | i :: r,l',h,k,hk => by
  unfold renIds at h
  split at h
  ·rename_i j l1 h1 h2
   cases h
   rcases List.mem_cons.1 hk with e | hk
   ·subst e
    by_cases e : k = foreign
    ·subst e; rw [Nat.beq_refl] at h1; cases h1; exact .inl ⟨rfl,List.mem_cons_self⟩
    ·rw [beq_ne e] at h1; exact .inr ⟨e,j,h1,List.mem_cons_self⟩
   ·rcases renIds_mem h2 k hk with ⟨a,b⟩ | ⟨ne,j',a,b⟩
    ·exact .inl ⟨a,List.mem_cons_of_mem _ b⟩
    ·exact .inr ⟨ne,j',a,List.mem_cons_of_mem _ b⟩
  ·cases h
def renE (E : Env) (m : List (Nat × Nat)) (O' : Objs) : Env := { E with ρ := fun j => E.ρ (inv m j),O := O' }
structure Ren (E : Env) (m : List (Nat × Nat)) (O' : Objs) : Prop where
 fwd : ∀ i j a,look m i = some j -> look E.O i = some a -> live a = true -> look O' j = some (renAO m a) ∧ inv m j = i
 zero : ∀ a,look E.O foreign ≠ some a
theorem fixed_look {m : List (Nat × Nat)} : ∀ {l : List Nat},fixed m l = true -> ∀ i ∈ l,look m i = some i
 | j :: r,h,i,hi => by
  unfold fixed at h
  simp only [Bool.and_eq_true] at h
  rcases List.mem_cons.1 hi with e | hi
  ·subst e
   have h1 := h.1
   split at h1
   ·rename_i k hk; rw [hk,Nat.eq_of_beq_eq_true h1]
   ·cases h1
  ·exact fixed_look h.2 i hi
variable {E : Env} {m : List (Nat × Nat)} {O' : Objs}
theorem Ren.fix (h : Ren E m O') {l l' : List Nat} (hl : renIds m l = some l') : Fix (E.B l) ((renE E m O').B l') E.w E.w := by
 intro b e c t f hb hc
 refine ⟨?_,c,t,f,hc,rfl⟩
 rcases hb with hb | ⟨i,hi,hb⟩
 ·exact .inl hb
 ·rcases renIds_mem hl i hi with ⟨e1,e2⟩ | ⟨ne,j,e1,e2⟩
  ·rcases hb with hb | ⟨ts,rows,wr,q1,q2,q3⟩
   ·exact .inr ⟨foreign,e2,.inl ⟨rfl,hb.2⟩⟩
   ·subst e1; exact absurd q1 (h.zero _)
  ·rcases hb with hb | ⟨ts,rows,wr,q1,q2,q3⟩
   ·exact absurd hb.1 ne
   ·obtain ⟨k1,k2⟩ := h.fwd i j _ e1 q1 rfl
    exact .inr ⟨j,e2,.inr ⟨ts,rows,wr,k1,by show (E.ρ (inv m j)).b = _; rw [k2]; exact q2,q3⟩⟩
theorem Ren.sl (h : Ren E m O') {l l' : List Nat} (hl : renIds m l = some l') {ts : CTs} {rows : List ts.D} {v : Value} (hv : SlR E l ts rows v) : SlR (renE E m O') l' ts rows v :=
 SlR_fix (E' := renE E m O') (h.fix hl) (fun b hb => ⟨hb,rfl⟩) hv
mutual
theorem Ren.av (h : Ren E m O') : ∀ (x : AV) (v : Value),VR E x v -> VR (renE E m O') (renAV m x) v
 | .int _ _,_,hv | .bool _,_,hv | .str _,_,hv | .nilsl,_,hv | .nilptr,_,hv | .nilfunc,_,hv | .nilif,_,hv | .undef,_,hv | .dead,_,hv => by
  unfold VR at hv; unfold renAV VR; exact hv
 | .own id,v,hv => by
  unfold VR at hv; obtain ⟨ts,rows,wr,h1,h2⟩ := hv
  unfold renAV
  cases hm : look m id with
  | none => unfold VR; rw [h2]; rfl
  | some j =>
   obtain ⟨k1,k2⟩ := h.fwd id j _ hm h1 rfl
   unfold VR
   exact ⟨ts,rows,wr,k1,by show v = Value.slice ((E.ρ (inv m j)).b.map _) _ (E.ρ (inv m j)).cap; rw [k2]; exact h2⟩
 | .ptr id off,v,hv => by
  unfold VR at hv; obtain ⟨cs,b,h1,h2,h3⟩ := hv
  unfold renAV
  cases hm : look m id with
  | none => unfold VR; rw [h3]; rfl
  | some j =>
   obtain ⟨k1,k2⟩ := h.fwd id j _ hm h1 rfl
   unfold VR
   exact ⟨_,b,k1,by show (E.ρ (inv m j)).b = _; rw [k2]; exact h2,h3⟩
 | .eptr id i off,v,hv => by
  unfold VR at hv; obtain ⟨ts,rows,wr,b,h1,h2,h3,h4,h5⟩ := hv
  unfold renAV
  cases hm : look m id with
  | none => unfold VR; rw [h5]; rfl
  | some j =>
   obtain ⟨k1,k2⟩ := h.fwd id j _ hm h1 rfl
   unfold VR
   exact ⟨ts,rows,wr,b,k1,by show (E.ρ (inv m j)).b = _; rw [k2]; exact h2,h3,h4,h5⟩
 | .mp id,v,hv => by
  unfold VR at hv; obtain ⟨d,b,h1,h2,h3⟩ := hv
  unfold renAV
  cases hm : look m id with
  | none => unfold VR; rw [h3]; rfl
  | some j =>
   obtain ⟨k1,k2⟩ := h.fwd id j _ hm h1 rfl
   unfold VR
   exact ⟨_,b,k1,by show (E.ρ (inv m j)).b = _; rw [k2]; exact h2,h3⟩
 | .raw u,v,hv => by
  unfold VR at hv; unfold renAV VR; exact hv
 | .sub id lo hi,v,hv => by
  unfold VR at hv; obtain ⟨ts,rows,wr,a,cap,h1,h2,h3,h4,h5,h6,h7⟩ := hv
  unfold renAV
  cases hm : look m id with
  | none => unfold VR; rw [h5]; rfl
  | some j =>
   obtain ⟨k1,k2⟩ := h.fwd id j _ hm h1 rfl
   unfold VR
   exact ⟨ts,rows,wr,a,cap,k1,h2,h3,h4,h5,h6,by show lo < hi -> ∃ b,(E.ρ (inv m j)).b = some b ∧ _; rw [k2]; exact h7⟩
 | .ro ts rows deps,v,hv => by
  unfold VR at hv
  unfold renAV
  cases hm : renIds m deps with
  | none => unfold VR; exact SlR_one hv
  | some l => unfold VR; exact h.sl hm hv
 | .rptr ts rows deps i off,v,hv => by
  unfold VR at hv; obtain ⟨b,q,len,cap,h1,h2,h3,h4⟩ := hv
  unfold renAV
  cases hm : renIds m deps with
  | none => unfold VR; rw [h4]; rfl
  | some l => unfold VR; exact ⟨b,q,len,cap,h.sl hm h1,h2,h3,h4⟩
 | .func fn a b,v,hv => by
  unfold VR at hv; obtain ⟨x,y,rfl,h1,h2⟩ := hv
  unfold renAV VR; exact ⟨x,y,rfl,h.avs a x h1,h.avs b y h2⟩
 | .iface t u,v,hv => by
  unfold VR at hv; obtain ⟨u',rfl,h1⟩ := hv
  unfold renAV VR; exact ⟨u',rfl,h.av u u' h1⟩
 | .agg cs,v,hv => by
  unfold VR at hv; obtain ⟨x,rfl,h1⟩ := hv
  unfold renAV VR; exact ⟨x,rfl,h.avs cs x h1⟩
 | .tup cs,v,hv => by
  unfold VR at hv; obtain ⟨x,rfl,h1⟩ := hv
  unfold renAV VR; exact ⟨x,rfl,h.avs cs x h1⟩
theorem Ren.avs (h : Ren E m O') : ∀ (xs : List AV) (l : List Value),VRs E xs l -> VRs (renE E m O') (renAVs m xs) l
 | [],_,hv => by unfold VRs at hv; unfold renAVs VRs; exact hv
 | x :: xs,l,hv => by
  unfold VRs at hv; obtain ⟨v,r,rfl,h1,h2⟩ := hv
  unfold renAVs VRs; exact ⟨v,r,rfl,h.av x v h1,h.avs xs r h2⟩
end
theorem closed_ren {x : AV} (h : closedAV x = true) (hf : flatAV x = true) (m : List (Nat × Nat)) : renAV m x = x := by
 unfold closedAV at h
 split at h <;> first | (unfold renAV; rfl) | (exact Bool.noConfusion (show false = true from hf)) | (exact Bool.noConfusion (show false = true from h)) | (unfold renAV renAVs; rfl) | (unfold renAV renAV renAVs; rfl)
theorem Ren.lit (h : Ren E m O') {kt : CT} : ∀ {r : List (kt.D × AV)} {l : List MapEntry},flatEs r = true -> litR E kt r l -> litR (renE E m O') kt r l
 | [],_,_,hr => hr
 | (k,x) :: r,l,hf,hr => by
  obtain ⟨e,l',rfl,h1,h2,h3,h4⟩ := hr
  have hf : (flatAV x && flatEs r) = true := hf
  rw [Bool.and_eq_true] at hf
  have := h.av _ _ h3
  rw [closed_ren h2 hf.1] at this
  exact ⟨e,l',rfl,h1,h2,this,h.lit hf.2 h4⟩
theorem Ren.mapOK (h : Ren E m O') {d : MapD} {l : List MapEntry} (hf : flatM d = true) (hm : mapOK E l d) : mapOK (renE E m O') l d := by
 cases d with
 | lit kt r => exact h.lit hf hm
 | dat kt vt r => exact hm
end
end Go.E
end
section
namespace Go.E
section
variable {X : Ctx} {cs0 : List Frame} {o : Ow}
theorem keepTm_R {E E' : Env} {m : List (Nat × Nat)} {tm : List (Nat × AV)} {tmps : Array Value} (h : TmR E tm tmps) (hr : ∀ x v,VR E x v -> VR E' (renAV m x) v) : ∀ (l : List Nat),TmR E' (keepTm m tm l) tmps
 | [],t,x,hx => by cases hx
 | i :: r,t,x,hx => by
  unfold keepTm at hx
  split at hx
  ·rename_i v hv
   by_cases e : i = t
   ·subst e
    rw [look_cons_eq] at hx; cases hx
    exact hr _ _ (h i v hv)
   ·rw [look_cons_ne _ _ e] at hx
    exact keepTm_R h hr r t x hx
  ·exact keepTm_R h hr r t x hx
theorem keepFrs_R {E E' : Env} {m : List (Nat × Nat)} (hr : ∀ x v,VR E x v -> VR E' (renAV m x) v) : ∀ {frs : List Fr} {l : List Frame} (ks : List (List Nat)),FrsR E frs l -> FrsR E' (keepFrs m frs ks) l
 | [],l,ks,h => by
  cases ks <;> exact h
 | fr :: r,l,[],⟨y,ys,e,⟨tmps,todo,e1,e2,e3⟩,h2⟩ => ⟨y,ys,e,⟨tmps,todo,e1,fun _ _ x => (by cases x),e3⟩,keepFrs_R hr [] h2⟩
 | fr :: r,l,k :: ks,⟨y,ys,e,⟨tmps,todo,e1,e2,e3⟩,h2⟩ => ⟨y,ys,e,⟨tmps,todo,e1,keepTm_R e2 hr k,e3⟩,keepFrs_R hr ks h2⟩
theorem keepFrs_root {m : List (Nat × Nat)} : ∀ (c : Fr) (r : List Fr) (ks : List (List Nat)) (c' : Fr) (r' : List Fr),keepFrs m (c :: r) ks = c' :: r' -> rootFn c' r' = rootFn c r
 | c,[],[],c',r',h => by cases h; rfl
 | c,[],k :: ks,c',r',h => by
  have h : { c with tm := keepTm m c.tm k } :: keepFrs m [] ks = c' :: r' := h
  cases ks <;> cases h <;> rfl
 | c,d :: r,[],c',r',h => by
  have h : { c with tm := [] } :: keepFrs m (d :: r) [] = c' :: r' := h
  cases hr : keepFrs m (d :: r) [] with
  | nil => cases hr
  | cons d' r'' => rw [hr] at h; cases h; exact keepFrs_root d r [] d' r'' hr
 | c,d :: r,k :: ks,c',r',h => by
  have h : { c with tm := keepTm m c.tm k } :: keepFrs m (d :: r) ks = c' :: r' := h
  cases hr : keepFrs m (d :: r) ks with
  | nil => cases ks <;> cases hr
  | cons d' r'' => rw [hr] at h; cases h; exact keepFrs_root d r ks d' r'' hr
theorem pickTm_R {E : Env} {tm : List (Nat × AV)} {tmps : Array Value} (h : TmR E tm tmps) : ∀ (l : List Nat),TmR E (pickTm tm l) tmps
 | [],t,x,hx => by cases hx
 | i :: r,t,x,hx => by
  unfold pickTm at hx
  split at hx
  ·rename_i hv
   by_cases e : i = t
   ·subst e
    rw [look_cons_eq] at hx; cases hx
    exact h i _ hv
   ·rw [look_cons_ne _ _ e] at hx
    exact pickTm_R h r t x hx
  ·exact pickTm_R h r t x hx
theorem pickFrs_R {E : Env} : ∀ {frs : List Fr} {l : List Frame} (ks : List (List Nat)),FrsR E frs l -> FrsR E (pickFrs frs ks) l
 | [],l,ks,h => by
  cases ks <;> exact h
 | fr :: r,l,[],⟨y,ys,e,⟨tmps,todo,e1,e2,e3⟩,h2⟩ => ⟨y,ys,e,⟨tmps,todo,e1,fun _ _ x => (by cases x),e3⟩,pickFrs_R [] h2⟩
 | fr :: r,l,k :: ks,⟨y,ys,e,⟨tmps,todo,e1,e2,e3⟩,h2⟩ => ⟨y,ys,e,⟨tmps,todo,e1,pickTm_R e2 k,e3⟩,pickFrs_R ks h2⟩
theorem pickFrs_root : ∀ (c : Fr) (r : List Fr) (ks : List (List Nat)) (c' : Fr) (r' : List Fr),pickFrs (c :: r) ks = c' :: r' -> rootFn c' r' = rootFn c r
 | c,[],[],c',r',h => by cases h; rfl
 | c,[],k :: ks,c',r',h => by
  have h : { c with tm := pickTm c.tm k } :: pickFrs [] ks = c' :: r' := h
  cases ks <;> cases h <;> rfl
 | c,d :: r,[],c',r',h => by
  have h : { c with tm := [] } :: pickFrs (d :: r) [] = c' :: r' := h
  cases hr : pickFrs (d :: r) [] with
  | nil => cases hr
  | cons d' r'' => rw [hr] at h; cases h; exact pickFrs_root d r [] d' r'' hr
 | c,d :: r,k :: ks,c',r',h => by
  have h : { c with tm := pickTm c.tm k } :: pickFrs (d :: r) ks = c' :: r' := h
  cases hr : pickFrs (d :: r) ks with
  | nil => cases ks <;> cases hr
  | cons d' r'' => rw [hr] at h; cases h; exact pickFrs_root d r ks d' r'' hr
theorem canon_R {t : Tmpl} {s s' : St} {E : Env} {fr : Frame} {cs : List Frame} (h : StR X o E s cs0 fr cs) (hc : canon t s = some s') : ∃ E' : Env,E'.w = E.w ∧ StR X o E' s' cs0 fr cs := by
 unfold canon at hc
 cases hraw : t.raw with
 | true =>
  rw [hraw,cond_true] at hc
  split at hc
  ·cases hc; exact ⟨E,rfl,h⟩
  ·split at hc
   ·rename_i c cr hk
    have hc' := Option.some.inj hc
    subst hc'
    obtain ⟨cs1,ec,hcs⟩ := h.callers
    have hall := pickFrs_R t.keep (frs := s.cur :: s.callers) (l := fr :: cs1) ⟨fr,cs1,rfl,h.cur,hcs⟩
    rw [hk] at hall
    obtain ⟨y,ys,e,h1,h2⟩ := hall
    cases e
    exact ⟨E,rfl,⟨h.ok,h.objs,h1,⟨_,ec,h2⟩,h.bx,(pickFrs_root _ _ _ _ _ hk).trans h.root⟩⟩
   ·cases hc
 | false =>
  rw [hraw] at hc
  dsimp only [cond_false] at hc
  split at hc
  ·rename_i s1 h1
   obtain ⟨E1,w1,k1⟩ := toRos_R h h1
   obtain ⟨E2,w2,k2⟩ := unnil_R (l := t.locs) k1
   split at hc
   ·rename_i m hm
    obtain ⟨hn,hc⟩ := bif_some hc
    simp only [Bool.and_eq_true] at hn
    obtain ⟨hn,hfx⟩ := hn
    split at hc
    ·rename_i O' hO
     obtain ⟨n1,n2⟩ := idsAt_snd hm
     obtain ⟨r1,r2⟩ := renObjs_look hO
     have hinv : ∀ i j,(i,j) ∈ m -> inv m j = i := fun i j hij => n2 _ _ j (inv_mem hij) hij
     have ren : Ren E2 m O' := by
      refine ⟨fun i j a hij ha la => ?_,fun a ha => (k2.ok.num _ a ha).2 rfl⟩
      have hmem := look_mem hij
      obtain ⟨a',q1,_,q3⟩ := r2 i j hmem fun i' hi' => n2 _ _ j hi' hmem
      rw [k2.objs] at ha
      rw [ha] at q1; cases q1
      exact ⟨q3,hinv i j hmem⟩
     have lv : ∀ j a',look O' j = some a' -> ∃ i a,(i,j) ∈ m ∧ look E2.O i = some a ∧ live a = true ∧ a' = renAO m a ∧ inv m j = i ∧ flatAO a = true := by
      intro j a' hj
      obtain ⟨i,a,q1,q2,q3,q4,q6⟩ := r1 j a' hj
      exact ⟨i,a,q1,by rw [k2.objs]; exact q2,q3,q4,hinv i j q1,q6⟩
     have hok : OK X o (renE E2 m O') (t.locs.length + 1) := by
      refine ⟨Nat.succ_pos _,fun j a' hj => ?_,fun j a' hj => ?_,fun j j' b hj hj' hb hb' => ?_,fun j b hj hb => ?_,k2.ok.nlt,k2.ok.kept,k2.ok.size,k2.ok.fg,k2.ok.us,fun q hq => ?_⟩
      ·obtain ⟨i,a,q1,_⟩ := lv j a' hj
       have := n1 i j q1
       exact ⟨by omega,fun e => by rw [e] at this; have := this.1; exact absurd this (by decide)⟩
      ·obtain ⟨i,a,q1,q2,q3,q4,q5,q6⟩ := lv j a' hj
       have ho := k2.ok.obj i a q2
       subst q4
       cases a with
       | dead => cases q3
       | map d =>
        obtain ⟨b,ent,clk,e1,e2,e3⟩ := ho
        exact ⟨b,ent,clk,by show (E2.ρ (inv m j)).b = _; rw [q5]; exact e1,e2,ren.mapOK q6 e3⟩
       | box bs =>
        obtain ⟨b,c,tt,f,e1,e2,e3,e4⟩ := ho
        exact ⟨b,c,tt,f,by show (E2.ρ (inv m j)).b = _; rw [q5]; exact e1,e2,e3,ren.avs _ _ e4⟩
       | arr ts rows wr =>
        show objOK (renE E2 m O') j (.arr ts rows wr)
        unfold objOK at ho ⊢
        show match (E2.ρ (inv m j)).b with | none => rows = [] ∧ (E2.ρ (inv m j)).cap = 0 | some b => ∃ c t f,E2.w.heap[b]? = some (.cells c t f) ∧ free c f ∧ rows.length <= (E2.ρ (inv m j)).cap ∧ (E2.ρ (inv m j)).cap * ts.n <= c.size ∧ rowsIn ts.n (ts.rp E2.w E2.N) rows c.toList
        rw [q5]; exact ho
      ·obtain ⟨x,hx,lx⟩ := hj
       obtain ⟨x',hx',lx'⟩ := hj'
       obtain ⟨i,a,q1,q2,q3,q4,q5,_⟩ := lv j x hx
       obtain ⟨i',a',p1,p2,p3,p4,p5,_⟩ := lv j' x' hx'
       have hb : (E2.ρ (inv m j)).b = some b := hb
       have hb' : (E2.ρ (inv m j')).b = some b := hb'
       rw [q5] at hb; rw [p5] at hb'
       have := k2.ok.inj i i' b ⟨a,q2,q3⟩ ⟨a',p2,p3⟩ hb hb'
       subst this
       have e1 := mem_look hn q1
       rw [mem_look hn p1] at e1
       cases e1; rfl
      ·obtain ⟨x,hx,lx⟩ := hj
       obtain ⟨i,a,q1,q2,q3,q4,q5,_⟩ := lv j x hx
       have hb : (E2.ρ (inv m j)).b = some b := hb
       rw [q5] at hb
       exact k2.ok.own i b ⟨a,q2,q3⟩ hb
      ·have := ren.av _ _ (k2.ok.bx q hq)
       have e := fixed_look hfx q.1 (by rw [k2.bx]; exact List.mem_map.2 ⟨q,hq,rfl⟩)
       unfold renAV at this
       rw [e] at this
       exact this
     obtain ⟨cs1,ec,hcs⟩ := k2.callers
     have hall := keepFrs_R (E' := renE E2 m O') (m := m) ren.av t.keep (frs := (unnil s1 t.locs).cur :: (unnil s1 t.locs).callers) (l := fr :: cs1) ⟨fr,cs1,rfl,k2.cur,hcs⟩
     split at hc
     ·rename_i c cr hk
      have hc' := Option.some.inj hc
      subst hc'
      rw [hk] at hall
      obtain ⟨y,ys,e,hy,hys⟩ := hall
      cases e
      exact ⟨renE E2 m O',w2.trans w1,hok,rfl,hy,⟨cs1,ec,hys⟩,k2.bx,(keepFrs_root _ _ _ _ _ hk).trans k2.root⟩
     ·cases hc
    ·cases hc
   ·cases hc
  ·cases hc
end
end Go.E
end
section
namespace Go.E
section
variable {P : Program} {main : Bool} {Rl : Ow -> World -> World -> Prop} {C : Cfg} {Rc : Rcall}
def Out (C : Cfg) (s : Sig) (X : Ctx) (cs0 : List Frame) (r : s.B) (o : Ow) (fr : Frame) (cs : List Frame) (w : World) : Prop :=
 ∃ (E : Env) (st : St) (tmps : Array Value) (todo : List Item) (vs : List AV) (fn : Func),fr = { frame st.cur.fn tmps todo with mode := .returning } ∧ cs = cs0 ∧ E.w = w ∧ StR X o E st cs0 (frame st.cur.fn tmps todo) cs0 ∧ TmR E st.cur.tm tmps ∧
  look C.fns st.cur.fn = some fn ∧ doRet C fn st = some vs ∧ fin s vs st = some r
theorem out_fin {X : Ctx} {cs0 : List Frame} {s : Sig} (vs : List AV) (st : St) (r : s.B) (fn : Func) (h : fin s vs st = some r) (hfn : look C.fns st.cur.fn = some fn) (hd : doRet C fn st = some vs) (o : Ow) (E : Env) (tmps : Array Value) (todo : List Item)
  (hst : StR X o E st cs0 (frame st.cur.fn tmps todo) cs0) (ht : TmR E st.cur.tm tmps) : Via P main Rl (Out C s X cs0 r) o { frame st.cur.fn tmps todo with mode := .returning } cs0 E.w :=
 .stop ⟨E,st,tmps,todo,vs,fn,rfl,rfl,rfl,hst,ht,hfn,hd,h⟩
end
end Go.E
end
section
namespace Go.E
section
variable {X : Ctx} {o : Ow} {E : Env} {nid : Nat}
theorem gone_one {id : Nat} {ts : CTs} {rows : List ts.D} {wr : Bool} (h : OK X o E nid) (hl : look E.O id = some (.arr ts rows wr)) :
  let E' : Env := { E with O := afterO [.kill id,.unview id] ((id,.dead) :: E.O) }
  OK X o E' nid ∧ Step E E' [.kill id,.unview id] := by
 intro E'
 have lkb := look_turn (es := [.kill id,.unview id]) (id := id) (a' := .dead) (O := E.O) (fun _ => rfl) rfl
 have lk0 : look E'.O id = some .dead := lkb.1
 have lk : ∀ i,i ≠ id -> look E'.O i = (look E.O i).map (effAO [.kill id,.unview id]) := lkb.2
 have hk : Keep E E' fun i => i = id := by
  refine ⟨fun b hb => ⟨hb,rfl⟩,fun b hb => ⟨hb,rfl⟩,fun i hi ts' rows'' wr' hl' => ⟨by rw [lk i hi,hl']; rfl,rfl,fun b hb => rfl⟩,fun i cs hl' => ?_,fun i m hl' => ?_⟩
  ·have x : i ≠ id := fun x => by rw [x,hl] at hl'; cases hl'
   exact ⟨effsAVs [.kill id,.unview id] cs,by rw [lk i x,hl']; rfl,rfl⟩
  ·have x : i ≠ id := fun x => by rw [x,hl] at hl'; cases hl'
   exact ⟨m,by rw [lk i x,hl']; rfl,rfl⟩
 have hs := hk.gone
 refine ⟨h.next hs (fun i => i = id) (fun b hb => rfl) (Nat.le_refl _) (fun _ hb => hb) rfl (fun _ hb => hb) (fun _ hb => hb) h.us (Nat.le_refl _) ?_ ?_ ?_ h.nlt,hs⟩
 ·intro i x hi hne
  rw [lk i hne] at hi
  obtain ⟨x,hx,rfl⟩ := Option.map_eq_some_iff.1 hi
  exact ⟨x,hx,rfl,fun l => ⟨rfl,fun b' hb' => ⟨(h.own i b' ⟨x,hx,l⟩ hb').2.1,rfl⟩⟩⟩
 ·intro i x hi hi'
  subst hi
  rw [lk0] at hi'
  cases hi'
  have := h.num i _ hl
  exact ⟨this.1,this.2,trivial⟩
 ·intro i b hi ⟨x,hx,l⟩ _
  subst hi
  rw [lk0] at hx
  cases hx; cases l
inductive Lets (O : Objs) : List Eff -> List Nat -> Prop
 | nil : Lets O [] []
 | shut {id : Nat} {ts : CTs} {rows : List ts.D} {wr : Bool} {r : List Eff} {mv : List Nat} : look O id = some (.arr ts rows wr) -> Lets O r mv -> Lets O (.shut id ts rows :: r) mv
 | gone {id : Nat} {ts : CTs} {rows : List ts.D} {wr : Bool} {r : List Eff} {mv : List Nat} : look O id = some (.arr ts rows wr) -> Lets O r mv -> Lets O (.kill id :: .unview id :: r) (id :: mv)
theorem Lets.append {O : Objs} {es fs : List Eff} {mv mv' : List Nat} (h : Lets O es mv) (h' : Lets O fs mv') : Lets O (es ++ fs) (mv ++ mv') := by
 induction h with
 | nil => exact h'
 | shut a _ ih => exact .shut a ih
 | gone a _ ih => exact .gone a ih
theorem Seals.lets {O : Objs} {es : List Eff} (h : Seals O es) : Lets O es [] := by
 induction h with
 | nil => exact .nil
 | cons a _ ih => exact .shut a ih
end
end Go.E
end
section
namespace Go.E
section
variable {X : Ctx} {o : Ow}
theorem lets_look {E E1 E' : Env} {e r : List Eff} {mv : List Nat} {id : Nat} {b : Bool} (h1 : ∀ i,look E1.O i = if i = id then some .dead else (look E.O i).map (effAO e)) (hid : ∃ a,look E.O id = some a)
  (h2 : ∀ i,look E'.O i = if i ∈ mv ∨ sealsId i r = true then (look E1.O i).map fun _ => .dead else (look E1.O i).map (effAO r)) (i : Nat) (q : Prop) [Decidable q] (hq : q ↔ i = id ∨ i ∈ mv ∨ sealsId i r = true) :
  look E'.O i = if q then (look E.O i).map fun _ => .dead else (look E.O i).map (effAO (e ++ r)) := by
 rw [h2,h1]
 by_cases x : i = id
 ·subst x
  obtain ⟨a,ha⟩ := hid
  rw [if_pos rfl,if_pos (hq.2 (.inl rfl)),ha]
  split <;> rfl
 ·rw [if_neg x]
  by_cases y : i ∈ mv ∨ sealsId i r = true
  ·rw [if_pos y,if_pos (hq.2 (.inr y))]
   cases look E.O i <;> rfl
  ·rw [if_neg y,if_neg (fun z => (hq.1 z).elim x y)]
   cases look E.O i with
   | none => rfl
   | some a => simp only [Option.map_some,effAO_append]
theorem lets_all : ∀ {es : List Eff} {mv : List Nat} {E : Env} {nid : Nat} {O : Objs},Lets O es mv -> OK X o E nid -> (∀ id ts rows wr,look O id = some (.arr ts rows wr) -> id ∉ mv -> look E.O id = some (.arr ts rows wr) ∨ look E.O id = some .dead) ->
  (∀ id ∈ mv,∃ ts rows wr,look O id = some (.arr ts rows wr) ∧ look E.O id = some (.arr ts rows wr)) -> mv.Nodup -> (∀ id ∈ mv,sealsId id es = false) ->
  ∃ E' : Env,E'.w = E.w ∧ E'.ρ = E.ρ ∧ E'.F = E.F ∧ OK X o E' nid ∧ Step E E' es ∧ (∀ b,E.N b -> E'.N b) ∧
   (∀ i,look E'.O i = if i ∈ mv ∨ sealsId i es = true then (look E.O i).map fun _ => .dead else (look E.O i).map (effAO es)) ∧
   (∀ i ts rows wr b,sealsId i es = true -> look E.O i = some (.arr ts rows wr) -> (E.ρ i).b = some b -> E'.N b) ∧
   (∀ b,E'.N b -> E.N b ∨ ∃ i ts rows wr,sealsId i es = true ∧ look E.O i = some (.arr ts rows wr) ∧ (E.ρ i).b = some b)
 | _,_,E,nid,O,.nil,h,_,_,_,_ => ⟨E,rfl,rfl,rfl,h,Step.refl E,fun _ hb => hb,fun i => by
   rw [if_neg (by rintro (x | x); cases x; cases x)]
   cases look E.O i with
   | none => rfl
   | some a => simp [effAO_nil],fun _ _ _ _ _ hx => (by cases hx),fun _ hb => .inl hb⟩
 | _,_,E,nid,O,.shut (id := id) (ts := ts) (rows := rows) (wr := wr) (r := r) (mv := mv) hl hr,h,hO,hm,hn,hs => by
  have hmv : id ∉ mv := fun x => by
   have : (Nat.beq id id || sealsId id r) = false := hs id x
   rw [Nat.beq_refl] at this; cases this
  have fin : ∀ E1 : Env,E1.w = E.w -> E1.ρ = E.ρ -> E1.F = E.F -> E1.O = afterO [.shut id ts rows] E.O -> OK X o E1 nid -> Step E E1 [.shut id ts rows] -> (∀ b,E.N b -> E1.N b) -> (∀ ts' rows' wr' b,look E.O id = some (.arr ts' rows' wr') -> (E.ρ id).b = some b -> E1.N b) -> (∀ b,E1.N b -> E.N b ∨ ∃ ts' rows' wr',look E.O id = some (.arr ts' rows' wr') ∧ (E.ρ id).b = some b) -> (∃ a,look E.O id = some a) ->
    ∃ E' : Env,E'.w = E.w ∧ E'.ρ = E.ρ ∧ E'.F = E.F ∧ OK X o E' nid ∧ Step E E' (.shut id ts rows :: r) ∧ (∀ b,E.N b -> E'.N b) ∧
     (∀ i,look E'.O i = if i ∈ mv ∨ sealsId i (.shut id ts rows :: r) = true then (look E.O i).map fun _ => .dead else (look E.O i).map (effAO (.shut id ts rows :: r))) ∧
     (∀ i ts' rows' wr' b,sealsId i (.shut id ts rows :: r) = true -> look E.O i = some (.arr ts' rows' wr') -> (E.ρ i).b = some b -> E'.N b) ∧
   (∀ b,E'.N b -> E.N b ∨ ∃ i ts rows wr,sealsId i (.shut id ts rows :: r) = true ∧ look E.O i = some (.arr ts rows wr) ∧ (E.ρ i).b = some b) := by
   intro E1 e1 e2 e3 e4 ok1 st1 n1 m1 b1 hex
   have lk : ∀ i,look E1.O i = if i = id then some .dead else (look E.O i).map (effAO [.shut id ts rows]) := by
    intro i
    rw [e4,look_afterO]
    show (if (Nat.beq id i || false) = true then _ else _) = _
    by_cases x : i = id
    ·subst x; simp
    ·rw [beq_ne (fun y => x y.symm)]; simp [x]
   obtain ⟨E',w1,r1,f1,ok2,st2,n2,l2,m2,b2⟩ := lets_all hr ok1 (fun id' ts' rows' wr' hl' hm' => by
     rw [lk]
     by_cases x : id' = id
     ·rw [if_pos x]; exact .inr rfl
     ·rw [if_neg x]
      rcases hO id' ts' rows' wr' hl' hm' with g | g <;> rw [g]
      ·exact .inl rfl
      ·exact .inr rfl) (fun id' hi' => by
     obtain ⟨ts',rows',wr',g1,g2⟩ := hm id' hi'
     refine ⟨ts',rows',wr',g1,?_⟩
     rw [lk,if_neg (fun x => hmv (by rw [<- x]; exact hi')),g2]; rfl) hn (fun id' hi' => by
     have : (Nat.beq id id' || sealsId id' r) = false := hs id' hi'
     exact (Bool.or_eq_false_iff.1 this).2)
   refine ⟨E',w1.trans e1,r1.trans e2,f1.trans e3,ok2,st1.trans st2,fun b hb => n2 b (n1 b hb),fun i => ?_,?_,fun b hb => ?_⟩
   ·refine lets_look (b := true) (e := [.shut id ts rows]) lk hex l2 i _ ?_
    show (i ∈ mv ∨ (Nat.beq id i || sealsId i r) = true) ↔ _
    simp only [Bool.or_eq_true,Nat.beq_eq]
    constructor
    ·rintro (x | x | x)
     ·exact .inr (.inl x)
     ·exact .inl x.symm
     ·exact .inr (.inr x)
    ·rintro (x | x | x)
     ·exact .inr (.inl x.symm)
     ·exact .inl x
     ·exact .inr (.inr x)
   ·intro i ts' rows' wr' b hx hi hb
    by_cases x : i = id
    ·subst x; exact n2 b (m1 ts' rows' wr' b hi hb)
    ·have hx : (Nat.beq id i || sealsId i r) = true := hx
     rw [beq_ne (fun y => x y.symm),Bool.false_or] at hx
     exact m2 i ts' rows' wr' b hx (by rw [lk,if_neg x,hi]; rfl) (by rw [e2]; exact hb)
   ·rcases b2 b hb with hb | ⟨i,ts',rows',wr',q1,q2,q3⟩
    ·rcases b1 b hb with hb | ⟨ts',rows',wr',q2,q3⟩
     ·exact .inl hb
     ·exact .inr ⟨id,ts',rows',wr',by show (Nat.beq id id || sealsId id r) = true; rw [Nat.beq_refl]; rfl,q2,q3⟩
    ·refine .inr ⟨i,ts',rows',wr',by show (Nat.beq id i || sealsId i r) = true; rw [q1,Bool.or_true],?_,by rw [<- e2]; exact q3⟩
     rw [lk] at q2
     split at q2
     ·cases q2
     ·obtain ⟨a,ha,e⟩ := Option.map_eq_some_iff.1 q2
      cases a <;> cases e
      exact ha
  rcases hO id ts rows wr hl hmv with g | g
  ·obtain ⟨a,b⟩ := seal_one h g
   exact fin { E with N := fun b => E.N b ∨ (E.ρ id).b = some b,O := afterO [.shut id ts rows] E.O } rfl rfl rfl rfl a b (fun _ hb => .inl hb) (fun _ _ _ b _ hb => .inr hb) (fun b hb => hb.imp (fun x => x) fun x => ⟨_,_,_,g,x⟩) ⟨_,g⟩
  ·obtain ⟨a,b⟩ := seal_gone (ts := ts) (rows := rows) h g
   exact fin { E with O := afterO [.shut id ts rows] E.O } rfl rfl rfl rfl a b (fun _ hb => hb) (fun _ _ _ _ hx _ => by rw [g] at hx; cases hx) (fun _ hb => .inl hb) ⟨_,g⟩
 | _,_,E,nid,O,.gone (id := id) (ts := ts) (rows := rows) (wr := wr) (r := r) (mv := mv) hl hr,h,hO,hm,hn,hs => by
  obtain ⟨ts0,rows0,wr0,g1,g2⟩ := hm id List.mem_cons_self
  obtain ⟨ok1,st1⟩ := gone_one h g2
  have lkb := look_turn (es := [.kill id,.unview id]) (id := id) (a' := .dead) (O := E.O) (fun _ => rfl) rfl
  have hn' := List.nodup_cons.1 hn
  have lk : ∀ i,look (afterO [.kill id,.unview id] ((id,.dead) :: E.O)) i = if i = id then some .dead else (look E.O i).map (effAO [.kill id,.unview id]) := by
   intro i
   by_cases x : i = id
   ·rw [if_pos x,x]; exact lkb.1
   ·rw [if_neg x]; exact lkb.2 i x
  obtain ⟨E',w1,r1,f1,ok2,st2,n2,l2,m2,b2⟩ := lets_all hr ok1 (fun id' ts' rows' wr' hl' hm' => by
    show look (afterO [.kill id,.unview id] ((id,.dead) :: E.O)) id' = _ ∨ look (afterO [.kill id,.unview id] ((id,.dead) :: E.O)) id' = _
    rw [lk]
    by_cases x : id' = id
    ·rw [if_pos x]; exact .inr rfl
    ·rw [if_neg x]
     rcases hO id' ts' rows' wr' hl' (fun y => (List.mem_cons.1 y).elim x hm') with g | g <;> rw [g]
     ·exact .inl rfl
     ·exact .inr rfl) (fun id' hi' => by
    obtain ⟨ts',rows',wr',q1,q2⟩ := hm id' (List.mem_cons_of_mem _ hi')
    refine ⟨ts',rows',wr',q1,?_⟩
    show look (afterO [.kill id,.unview id] ((id,.dead) :: E.O)) id' = _
    rw [lk,if_neg (fun x => hn'.1 (by rw [<- x]; exact hi')),q2]; rfl) hn'.2 (fun id' hi' => hs id' (List.mem_cons_of_mem _ hi'))
  refine ⟨E',w1,r1,f1,ok2,st1.trans st2,n2,fun i => ?_,?_,fun b hb => ?_⟩
  ·refine lets_look (b := true) (E1 := { E with O := afterO [.kill id,.unview id] ((id,.dead) :: E.O) }) (e := [.kill id,.unview id]) lk ⟨_,g2⟩ l2 i _ ?_
   show (i ∈ id :: mv ∨ sealsId i r = true) ↔ _
   simp only [List.mem_cons,or_assoc]
  ·intro i ts' rows' wr' b hx hi hb
   have hx : sealsId i r = true := hx
   have x : i ≠ id := fun x => by
    have := hs id List.mem_cons_self
    rw [<- x] at this
    have this : sealsId i r = false := this
    rw [hx] at this; cases this
   exact m2 i ts' rows' wr' b hx (by show look (afterO [.kill id,.unview id] ((id,.dead) :: E.O)) i = _; rw [lk,if_neg x,hi]; rfl) hb
  ·rcases b2 b hb with hb | ⟨i,ts',rows',wr',q1,q2,q3⟩
   ·exact .inl hb
   ·refine .inr ⟨i,ts',rows',wr',q1,?_,q3⟩
    have q2 : look (afterO [.kill id,.unview id] ((id,.dead) :: E.O)) i = _ := q2
    rw [lk] at q2
    split at q2
    ·cases q2
    ·obtain ⟨a,ha,e⟩ := Option.map_eq_some_iff.1 q2
     cases a <;> cases e
     exact ha
end
end Go.E
end
section
namespace Go.E
section
variable {X : Ctx} {o : Ow}
structure Lend (E E1 Ec : Env) (mv : List Nat) : Prop where
 w : Ec.w = E.w
 w1 : E1.w = E.w
 n : ∀ b,E.N b -> E1.N b
 nc : ∀ b,E1.N b -> Ec.N b
 f : ∀ b,E.F b -> Ec.F b
 a : ∀ i ts rows wr b,look E.O i = some (.arr ts rows wr) -> i ∉ mv -> (E.ρ i).b = some b -> Ec.F b
variable {E E1 Ec : Env} {mv : List Nat} {nid : Nat}
theorem Lend.ro (L : Lend E E1 Ec mv) {deps : List Nat} {ts : CTs} {rows : List ts.D} {v : Value} (h : SlR E deps ts rows v) (hd : ∀ i ∈ deps,i ∉ mv) : SlR Ec [foreign] ts rows v := by
 refine SlR_fix ?_ (fun b hb => ⟨L.nc b (L.n b hb),by rw [L.w]⟩) h
 intro b e c t f hb hc
 refine ⟨?_,c,t,f,by rw [L.w]; exact hc,rfl⟩
 rcases hb with hb | ⟨i,hi,hb | ⟨ts',rows',wr',q1,q2,_⟩⟩
 ·exact .inl (L.nc b (L.n b hb))
 ·exact .inr ⟨foreign,List.mem_cons_self,.inl ⟨rfl,L.f b hb.2⟩⟩
 ·exact .inr ⟨foreign,List.mem_cons_self,.inl ⟨rfl,L.a i ts' rows' wr' b q1 (hd i hi) q2⟩⟩
def srcCell (m : Md) (t : CT) (x : AV) : List (Option Nat) := match t,m,x with
 | .sl _,.mv,.own id => [some id]
 | .sl _,.mv,_ => [none]
 | _,_,_ => []
def srcPt (E : Env) : Option Nat -> Pt
 | some id => E.ρ id
 | none => ⟨none,0⟩
theorem data_av {E E2 : Env} {t : CT} {x : AV} {d : t.D} {v : Value} (ht : isSl t = false) (hd : t.ofAV E.O x = some d) (hv : VR E x v) : VR E2 (t.av d) v := by
 cases t with
 | int k => rw [ofAV_int hd] at hv; unfold VR at hv; unfold CT.av VR; exact hv
 | bool => rw [ofAV_bool hd] at hv; unfold VR at hv; unfold CT.av VR; exact hv
 | str => rw [ofAV_str hd] at hv; unfold VR at hv; unfold CT.av VR; exact hv
 | sl ts => cases ht
theorem argCell_R (h : OK X o E nid) (L : Lend E E1 Ec mv) {ts : CTs} {m : Md} {x : AV} {d : List ts.D} {v : Value} {n : Nat} {es : List Eff} {mo us : List Nat} (hd : CT.ofAV E.O (.sl ts) x = some d) (hv : VR E x v) (hu : useAV m E.O x = some (es,mo,us)) (hus : ∀ i ∈ us,i ∉ mv)
  (hsh : m = .leak -> Shut E E1 x) (hobj : ∀ p ∈ (argCell m (.sl ts) d n).2.1,look Ec.O p.1 = some p.2) (hρ : ∀ q ∈ srcCell m (.sl ts) x,Ec.ρ n = srcPt E q) :
  VR Ec (argCell m (.sl ts) d n).1 v ∧ ∀ p ∈ (argCell m (.sl ts) d n).2.1,objOK Ec p.1 p.2 := by
 have hn : FixN E.N Ec.N E.w Ec.w := fun b hb => ⟨L.nc b (L.n b hb),by rw [L.w]⟩
 cases m with
 | ro =>
  refine ⟨?_,fun p hp => by cases hp⟩
  show VR Ec (.ro ts d [foreign]) v
  unfold VR
  rcases ofAV_sl hd with ⟨rfl,rfl⟩ | ⟨deps,rfl⟩ | ⟨id,wr,rfl,hl⟩
  ·unfold VR at hv; subst hv
   exact ⟨_,_,_,rfl,rfl,Nat.le_refl _,fun x => absurd rfl x⟩
  ·unfold VR at hv
   cases hu
   exact L.ro hv hus
  ·have hq : rowsOf E.O (.own id) = some ⟨ts,d,[id]⟩ := by
    show (match look E.O id with | some (.arr ts rows _) => some (Rows.mk ts rows [id]) | _ => none) = _
    rw [hl]
   cases hu
   exact L.ro (rowsOf_SlR h hq hv) hus
 | leak =>
  refine ⟨?_,fun p hp => by cases hp⟩
  show VR Ec (.ro ts d []) v
  have h1 := ofAV_rp (E' := E1) h (fun b hb => ⟨L.n b hb,by rw [L.w1]⟩) (.sl ts) x d v hd hv (hsh rfl)
  have h2 := CT.rp_fix (w' := Ec.w) (N' := Ec.N) (fun b hb => ⟨L.nc b hb,by rw [L.w,L.w1]⟩) (.sl ts) d v h1
  exact av_VR (E := Ec) (.sl ts) d v h2
 | mv =>
  have hlook : look Ec.O n = some (.arr ts d true) := hobj (n,.arr ts d true) List.mem_cons_self
  show VR Ec (.own n) v ∧ _
  rcases ofAV_sl hd with ⟨rfl,rfl⟩ | ⟨deps,rfl⟩ | ⟨id,wr,rfl,hl⟩
  ·have hp : Ec.ρ n = ⟨none,0⟩ := hρ none List.mem_cons_self
   unfold VR at hv; subst hv
   refine ⟨?_,fun p hpm => ?_⟩
   ·unfold VR; exact ⟨ts,[],true,hlook,by rw [hp]; rfl⟩
   ·obtain rfl : p = (n,.arr ts [] true) := by simpa [argCell] using hpm
    unfold objOK; rw [hp]; exact ⟨rfl,rfl⟩
  ·cases hu
  ·have hp : Ec.ρ n = E.ρ id := hρ (some id) List.mem_cons_self
   unfold VR at hv
   obtain ⟨ts',rows',wr',g1,g2⟩ := hv
   rw [hl] at g1; cases g1
   refine ⟨?_,fun p hpm => ?_⟩
   ·unfold VR; exact ⟨ts,d,true,hlook,by rw [hp]; exact g2⟩
   ·obtain rfl : p = (n,.arr ts d true) := by simpa [argCell] using hpm
    have ho := h.obj id _ hl
    unfold objOK at ho ⊢
    rw [hp]
    cases hb : (E.ρ id).b with
    | none => rw [hb] at ho; exact ho
    | some b =>
     rw [hb] at ho
     obtain ⟨c,t,f,k1,k2,k3,k4,k5⟩ := ho
     exact ⟨c,t,f,by rw [L.w]; exact k1,k2,k3,k4,rowsIn_mono (fun d l => CTs.rp_fix hn ts d l) _ _ k5⟩
end
end Go.E
end
section
namespace Go.E
section
variable {X : Ctx} {o : Ow} {E E1 Ec : Env} {mv : List Nat} {nid : Nat}
def srcCells : List CT -> List Md -> List AV -> List (Option Nat)
 | t :: ts,ms,x :: xs => bif isSl t then match ms with
   | m :: ms => srcCell m t x ++ srcCells ts ms xs
   | [] => []
  else srcCells ts ms xs
 | _,_,_ => []
def ShutBy (E E1 : Env) (es : List Eff) : Prop := ∀ i,sealsId i es = true -> i ≠ foreign ∧ ∀ b ts rows wr,look E.O i = some (.arr ts rows wr) -> (E.ρ i).b = some b -> E1.N b ∧ E1.w.heap[b]? = E.w.heap[b]?
theorem ShutBy.left {es fs : List Eff} (h : ShutBy E E1 (es ++ fs)) : ShutBy E E1 es := fun i hi => h i (by rw [sealsId_append,hi]; rfl)
theorem ShutBy.right {es fs : List Eff} (h : ShutBy E E1 (es ++ fs)) : ShutBy E E1 fs := fun i hi => h i (by rw [sealsId_append,hi,Bool.or_true])
theorem ShutBy.leak {x : AV} {es : List Eff} {mo us : List Nat} (hu : useAV .leak E.O x = some (es,mo,us)) (h : ShutBy E E1 es) : Shut E E1 x := by
 unfold useAV at hu
 obtain ⟨e,he,hq⟩ := Option.map_eq_some_iff.1 hu
 cases hq
 exact fun i hi => h i ((sealAV_seals he).2 i hi)
theorem argCell_n (m : Md) (t : CT) (d : t.D) (x : AV) (n : Nat) : (argCell m t d n).2.2 = n + (srcCell m t x).length := by
 cases t <;> cases m <;> first | rfl | (cases x <;> rfl)
theorem argCells_plain {ms : List Md} {t : CT} {d : t.D} {n : Nat} (ht : isSl t = false) : argCells (.one t) ms d n = ([t.av d],[],n) := by
 cases t <;> first | rfl | cases ht
theorem argCells_R (h : OK X o E nid) (L : Lend E E1 Ec mv) : ∀ (ts : CTs) (ms : List Md) (xs : List AV) (d : ts.D) (l : List Value) (n : Nat) {es : List Eff} {mo us : List Nat},ts.ofAVs E.O xs = some d -> VRs E xs l -> useAVs E.O ts.list ms xs = some (es,mo,us) -> (∀ i ∈ us,i ∉ mv) -> ShutBy E E1 es ->
  (∀ p ∈ (argCells ts ms d n).2.1,look Ec.O p.1 = some p.2) -> (∀ k q,(srcCells ts.list ms xs)[k]? = some q -> Ec.ρ (n + k) = srcPt E q) ->
  VRs Ec (argCells ts ms d n).1 l ∧ (∀ p ∈ (argCells ts ms d n).2.1,objOK Ec p.1 p.2) ∧ (argCells ts ms d n).2.2 = n + (srcCells ts.list ms xs).length
 | .one t,ms,xs,d,l,n,es,mo,us,hd,hv,hu,hus,hsh,hobj,hρ => by
  match xs,hd,hv,hu,hρ with
  | [x],hd,hv,hu,hρ =>
   have hd : t.ofAV E.O x = some d := hd
   unfold VRs at hv
   obtain ⟨v,q,rfl,h1,h2⟩ := hv
   unfold VRs at h2; subst h2
   cases ht : isSl t with
   | false =>
    have e := argCells_plain (ms := ms) (d := d) (n := n) ht
    have e2 : srcCells [t] ms [x] = [] := by show (bif isSl t then _ else _) = _; rw [ht]; rfl
    rw [e]
    refine ⟨?_,fun p hp => (by cases hp),?_⟩
    ·unfold VRs; exact ⟨v,[],rfl,data_av ht hd h1,by unfold VRs; rfl⟩
    ·show n = n + (srcCells [t] ms [x]).length; rw [e2,List.length_nil,Nat.add_zero]
   | true =>
    cases t with
    | sl ts =>
     cases ms with
     | nil => cases hu
     | cons m ms =>
      have hu : (match useAV m E.O x,(some ([],[],[]) : Option (List Eff × List Nat × List Nat)) with | some (a,b,c),some (a',b',c') => some (a ++ a',b ++ b',c ++ c') | _,_ => none) = some (es,mo,us) := hu
      split at hu
      ·rename_i a b c a' b' c' hua e
       cases e
       cases hu
       simp only [List.append_nil] at *
       have := argCell_R h L (n := n) hd h1 hua hus (fun e => by subst e; exact ShutBy.leak hua hsh) hobj fun q hq => by
        obtain ⟨k,hk⟩ := List.getElem?_of_mem hq
        have hk0 : k = 0 := by
         have : (srcCell m (.sl ts) x).length <= 1 := by cases m <;> first | exact Nat.zero_le _ | (cases x <;> exact Nat.le_refl _)
         have hlt : k < (srcCell m (.sl ts) x).length := by
          rcases Nat.lt_or_ge k (srcCell m (.sl ts) x).length with y | y
          ·exact y
          ·rw [List.getElem?_eq_none y] at hk; cases hk
         omega
        subst hk0
        exact hρ 0 q (by show (srcCell m (.sl ts) x ++ [])[0]? = some q; rw [List.append_nil]; exact hk)
       refine ⟨?_,this.2,?_⟩
       ·show VRs Ec [(argCell m (.sl ts) d n).1] [v]
        unfold VRs; exact ⟨v,[],rfl,this.1,by unfold VRs; rfl⟩
       ·show (argCell m (.sl ts) d n).2.2 = n + (srcCell m (.sl ts) x ++ []).length
        rw [List.append_nil]; exact argCell_n m (.sl ts) d x n
      ·cases hu
    | _ => cases ht
  | [],hd,_,_,_ => cases hd
  | x :: y :: r,hd,_,_,_ => cases hd
 | .cons t ts,ms,xs,d,l,n,es,mo,us,hd,hv,hu,hus,hsh,hobj,hρ => by
  match xs,hd,hv,hu,hρ with
  | [],hd,_,_,_ => cases hd
  | x :: xs,hd,hv,hu,hρ =>
   unfold VRs at hv
   obtain ⟨v,q,rfl,h1,h2⟩ := hv
   have hd : (match t.ofAV E.O x,ts.ofAVs E.O xs with | some d,some e => some (d,e) | _,_ => none) = some d := hd
   split at hd
   case h_2 => cases hd
   rename_i d1 d2 g1 g2
   cases hd
   cases ht : isSl t with
   | false =>
    have e : argCells (.cons t ts) ms (d1,d2) n = (t.av d1 :: (argCells ts ms d2 n).1,(argCells ts ms d2 n).2.1,(argCells ts ms d2 n).2.2) := by
     show (bif isSl t then _ else _) = _
     rw [ht]; rfl
    have e2 : srcCells (t :: ts.list) ms (x :: xs) = srcCells ts.list ms xs := by show (bif isSl t then _ else _) = _; rw [ht]; rfl
    have hu : (bif isSl t then _ else useAVs E.O ts.list ms xs) = some (es,mo,us) := hu
    rw [ht] at hu
    rw [e] at hobj ⊢
    have := argCells_R h L ts ms xs d2 q n g2 h2 hu hus hsh hobj (fun k q' hq => hρ k q' (by show (srcCells (t :: ts.list) ms (x :: xs))[k]? = _; rw [e2]; exact hq))
    refine ⟨?_,this.2.1,?_⟩
    ·unfold VRs; exact ⟨v,q,rfl,data_av ht g1 h1,this.1⟩
    ·show _ = n + (srcCells (t :: ts.list) ms (x :: xs)).length; rw [e2]; exact this.2.2
   | true =>
    cases t with
    | sl ts0 =>
     cases ms with
     | nil => cases hu
     | cons m ms =>
      have hu : (match useAV m E.O x,useAVs E.O ts.list ms xs with | some (a,b,c),some (a',b',c') => some (a ++ a',b ++ b',c ++ c') | _,_ => none) = some (es,mo,us) := hu
      split at hu
      case h_2 => cases hu
      rename_i a b c a' b' c' hua hub
      cases hu
      have e : argCells (.cons (.sl ts0) ts) (m :: ms) (d1,d2) n = ((argCell m (.sl ts0) d1 n).1 :: (argCells ts ms d2 (argCell m (.sl ts0) d1 n).2.2).1,(argCells ts ms d2 (argCell m (.sl ts0) d1 n).2.2).2.1 ++ (argCell m (.sl ts0) d1 n).2.1,(argCells ts ms d2 (argCell m (.sl ts0) d1 n).2.2).2.2) := rfl
      have e2 : srcCells ((CT.sl ts0) :: ts.list) (m :: ms) (x :: xs) = srcCell m (.sl ts0) x ++ srcCells ts.list ms xs := rfl
      have hn := argCell_n m (.sl ts0) d1 x n
      rw [e] at hobj ⊢
      have k1 := argCell_R h L (n := n) g1 h1 hua (fun i hi => hus i (List.mem_append.2 (.inl hi))) (fun e => by subst e; exact ShutBy.leak hua hsh.left) (fun p hp => hobj p (List.mem_append.2 (.inr hp))) fun q' hq => by
       obtain ⟨k,hk⟩ := List.getElem?_of_mem hq
       have hlt : k < (srcCell m (.sl ts0) x).length := by
        rcases Nat.lt_or_ge k (srcCell m (.sl ts0) x).length with y | y
        ·exact y
        ·rw [List.getElem?_eq_none y] at hk; cases hk
       have hk0 : k = 0 := by
        have : (srcCell m (.sl ts0) x).length <= 1 := by cases m <;> first | exact Nat.zero_le _ | (cases x <;> exact Nat.le_refl _)
        omega
       subst hk0
       exact hρ 0 q' (by show (srcCell m (.sl ts0) x ++ srcCells ts.list ms xs)[0]? = _; rw [List.getElem?_append_left hlt]; exact hk)
      have k2 := argCells_R h L ts ms xs d2 q (argCell m (.sl ts0) d1 n).2.2 g2 h2 hub (fun i hi => hus i (List.mem_append.2 (.inr hi))) hsh.right (fun p hp => hobj p (List.mem_append.2 (.inl hp))) fun k q' hq => by
       rw [hn,Nat.add_assoc]
       refine hρ _ q' ?_
       show (srcCell m (.sl ts0) x ++ srcCells ts.list ms xs)[_]? = _
       rw [List.getElem?_append_right (by omega),Nat.add_sub_cancel_left]; exact hq
      refine ⟨?_,fun p hp => (List.mem_append.1 hp).elim (k2.2.1 p) (k1.2 p),?_⟩
      ·unfold VRs; exact ⟨v,q,rfl,k1.1,k2.1⟩
      ·show _ = n + (srcCell m (.sl ts0) x ++ srcCells ts.list ms xs).length
       rw [List.length_append, <- Nat.add_assoc, <- hn]; exact k2.2.2
    | _ => cases ht
end
end Go.E
end
