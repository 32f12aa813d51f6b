/- What PakPut reckons. -/
import Derived.Test.YtmceeioelenigaaGreatFd
section
namespace T
open Go Go.E Go.Proofs
theorem lk_ne {O : Objs} {a : AO} {i j : Nat} (h : i ≠ j) : look ((i,a) :: O) j = look O j := by
 show (bif Nat.beq i j then some a else look O j) = _
 rw [beq_ne h]; rfl
theorem lk_eq {O : Objs} {a : AO} {i : Nat} : look ((i,a) :: O) i = some a := by
 show (bif Nat.beq i i then some a else look O i) = _
 rw [Nat.beq_refl]; rfl
theorem litPut_eq {R : Type} {kt : CT} {k : kt.D} {v : AV} {K : List (kt.D × AV) -> Option R} : ∀ {es acc : List (kt.D × AV)},litPut kt k v K acc es = K (acc ++ mput (keq kt) k v es)
 | [],acc => rfl
 | (j,u) :: es,acc => by
  show sel (keq kt k j) (K (acc ++ (k,v) :: es)) (litPut kt k v K (acc ++ [(j,u)]) es) = K (acc ++ bif keq kt k j then (k,v) :: es else (j,u) :: mput (keq kt) k v es)
  cases keq kt k j with
  | true => rfl
  | false =>
   show litPut kt k v K (acc ++ [(j,u)]) es = _
   rw [litPut_eq (es := es)]
   simp
theorem litGet_eq {R : Type} {kt : CT} {k : kt.D} {z : AV} {K : AV -> Bool -> Option R} : ∀ {es : List (kt.D × AV)},litGet kt k z K es = match mget (keq kt) k es with | some v => K v true | none => K z false
 | [] => rfl
 | (j,v) :: es => by
  show sel (keq kt k j) (K v true) (litGet kt k z K es) = match (bif keq kt k j then some v else mget (keq kt) k es) with | some v => K v true | none => K z false
  cases keq kt k j with
  | true => rfl
  | false => exact litGet_eq
abbrev u8s : CTs := .one (.int .u8)
abbrev bn : CTs := .cons (.int .i64) (.one (.int .i64))
noncomputable abbrev fr0 (l : List Int) : Fr := { fn := 147,tm := [(0,.ro u8s l [0])],td := tdW Tryz.f147 12 }
noncomputable abbrev fr1 (l : List Int) (root : Nat) (i : Int) (td : List It) : Fr := { fn := 151,tm := [(1,.ptr root 0),(5,.int .i64 i)],td }
noncomputable abbrev fr7 (root : Nat) (cv : AV) (next : Int) (rest : List Int) (td : List It) : Fr := { fn := 147,tm := [(3,.ptr root 0),(4,cv),(5,.int .i64 next),(6,.ro u8s rest [0])],td }
noncomputable def aSt (l : List Int) (root : Nat) (i : Int) (O : Objs) (nid : Nat) : St := { cur := fr1 l root i (tdF Tryz.f151 3),callers := [fr0 l],objs := O,nid,bx := [] }
noncomputable def eSt (reg n : Nat) (b c : Int) (cs : List Fr) (O : Objs) (nid : Nat) : St := { cur := { fn := 153,tm := [(0,.ptr n 0),(1,.int .u8 b),(2,.int .i64 c)],td := tdF Tryz.f153 reg },callers := cs,objs := O,nid,bx := [] }
noncomputable def lSt (root : Nat) (cv : AV) (next : Int) (rest : List Int) (O : Objs) (nid : Nat) : St := { cur := fr7 root cv next rest (tdF Tryz.f147 7),callers := [],objs := O,nid,bx := [] }
noncomputable def gSt (root : Nat) (cv : AV) (next : Int) (rest : List Int) (n : Nat) (i : Int) (O : Objs) (nid : Nat) : St := { cur := { fn := 152,tm := [(1,.ro u8s rest [0]),(6,.ptr n 0),(11,.ro u8s rest [0]),(12,.int .i64 (ln rest)),(13,.int .i64 i)],td := tdF Tryz.f152 3 },callers := [fr7 root cv next rest (tdW Tryz.f147 20)],objs := O,nid,bx := [] }
noncomputable def nSt (root : Nat) (cv : AV) (next : Int) (rest : List Int) (n : Nat) (i : Int) (O : Objs) (nid : Nat) : St := { cur := { fn := 147,tm := [(3,.ptr root 0),(4,cv),(5,.int .i64 next),(6,.ro u8s rest [0]),(7,.ptr n 0),(8,.int .i64 i)],td := tdF Tryz.f147 9 },callers := [],objs := O,nid,bx := [] }
noncomputable abbrev node (x : Int) (v : AV) : AO := .box [.int .i64 x,v]
abbrev nilm : AV := .raw (.map none)
abbrev mlit (es : List (Int × AV)) : AO := .map (.lit (.int .u8) es)
variable (Rt : St -> Option s147.B) (O : Objs) (nid : Nat)
theorem p_start (l : List Int) : body C dd 147 s147 Rt l = bif decide (ln l > 200) then some [] else Rt (aSt l 1 0 [(1,node (-1) nilm)] 2) := by kernel_rfl
theorem p_a1 (l : List Int) (root : Nat) (i : Int) (h : i < 256) : from_ C dd s147 Rt (aSt l root i O nid) = Rt (eSt 0 root (wb i) i [fr1 l root i (tdW Tryz.f151 12),fr0 l] O nid) := by
 have h : decide (i < 256) = true := decide_eq_true h
 conv => lhs; whnf; arg 2; tactic => exact h
 kernel_rfl
theorem p_a2 (l : List Int) (root : Nat) (i : Int) (h : ¬ i < 256) : from_ C dd s147 Rt (aSt l root i O nid) = Rt (lSt root .nilsl 257 l O nid) := by
 have h : decide (i < 256) = false := decide_eq_false h
 conv => lhs; whnf; arg 2; tactic => exact h
 kernel_rfl
theorem p_e1 (l : List Int) (root : Nat) (i : Int) (n m : Nat) (b c x : Int) (h : look O n = some (node x (.mp m))) :
  from_ C dd s147 Rt (eSt 0 n b c [fr1 l root i (tdW Tryz.f151 12),fr0 l] O nid) = Rt (eSt 2 n b c [fr1 l root i (tdW Tryz.f151 12),fr0 l] O nid) := by
 conv => lhs; whnf; arg 2; tactic => exact h
 kernel_rfl
theorem p_e2 (l : List Int) (root : Nat) (i : Int) (n : Nat) (b c x : Int) (hn : n < nid) (h : look O n = some (node x nilm)) :
  from_ C dd s147 Rt (eSt 0 n b c [fr1 l root i (tdW Tryz.f151 12),fr0 l] O nid) = Rt (eSt 2 n b c [fr1 l root i (tdW Tryz.f151 12),fr0 l] ((n,node x (.mp nid)) :: (nid,mlit []) :: O) (nid + 1)) := by
 have h2 : look ((nid,mlit []) :: O) n = some (node x nilm) := by rw [lk_ne (by omega)]; exact h
 conv => lhs; whnf; arg 2; tactic => exact h
 conv => lhs; whnf; arg 2; tactic => exact h2
 kernel_rfl
theorem p_e3 (l : List Int) (root : Nat) (i : Int) (n m : Nat) (b c x : Int) (hm : m < nid) (es : List (Int × AV)) (h : look O n = some (node x (.mp m))) (h' : look O m = some (mlit es)) :
  from_ C dd s147 Rt (eSt 2 n b c [fr1 l root i (tdW Tryz.f151 12),fr0 l] O nid) = Rt (aSt l root (wi (i + 1)) ((m,mlit (mput (keq (.int .u8)) b (.ptr nid 0) es)) :: (nid,node c nilm) :: O) (nid + 1)) := by
 have h2 : look ((nid,node c nilm) :: O) m = some (mlit es) := by rw [lk_ne (by omega)]; exact h'
 conv => lhs; whnf; arg 2; tactic => exact h
 conv => lhs; whnf; arg 2; tactic => exact h2
 conv => lhs; whnf
 erw [litPut_eq]
 kernel_rfl
theorem p_m1 (root : Nat) (cv : AV) (next : Int) (rest : List Int) (n m : Nat) (b c x : Int) (h : look O n = some (node x (.mp m))) :
  from_ C dd s147 Rt (eSt 0 n b c [fr7 root cv next rest (tdW Tryz.f147 46)] O nid) = Rt (eSt 2 n b c [fr7 root cv next rest (tdW Tryz.f147 46)] O nid) := by
 conv => lhs; whnf; arg 2; tactic => exact h
 kernel_rfl
theorem p_m2 (root : Nat) (cv : AV) (next : Int) (rest : List Int) (n : Nat) (b c x : Int) (hn : n < nid) (h : look O n = some (node x nilm)) :
  from_ C dd s147 Rt (eSt 0 n b c [fr7 root cv next rest (tdW Tryz.f147 46)] O nid) = Rt (eSt 2 n b c [fr7 root cv next rest (tdW Tryz.f147 46)] ((n,node x (.mp nid)) :: (nid,mlit []) :: O) (nid + 1)) := by
 have h2 : look ((nid,mlit []) :: O) n = some (node x nilm) := by rw [lk_ne (by omega)]; exact h
 conv => lhs; whnf; arg 2; tactic => exact h
 conv => lhs; whnf; arg 2; tactic => exact h2
 kernel_rfl
theorem p_m3 (root : Nat) (cv : AV) (next : Int) (rest : List Int) (n m : Nat) (b c x : Int) (hm : m < nid) (es : List (Int × AV)) (h : look O n = some (node x (.mp m))) (h' : look O m = some (mlit es)) :
  from_ C dd s147 Rt (eSt 2 n b c [fr7 root cv next rest (tdW Tryz.f147 46)] O nid) = Rt (lSt root cv (wi (next + 1)) rest ((m,mlit (mput (keq (.int .u8)) b (.ptr nid 0) es)) :: (nid,node c nilm) :: O) (nid + 1)) := by
 have h2 : look ((nid,node c nilm) :: O) m = some (mlit es) := by rw [lk_ne (by omega)]; exact h'
 conv => lhs; whnf; arg 2; tactic => exact h
 conv => lhs; whnf; arg 2; tactic => exact h2
 conv => lhs; whnf
 erw [litPut_eq]
 kernel_rfl
theorem p_l1 (root : Nat) (cv : AV) (next : Int) (rest : List Int) (h : 0 < ln rest) : from_ C dd s147 Rt (lSt root cv next rest O nid) = Rt (gSt root cv next rest root 0 O nid) := by
 have h : decide (ln rest > 0) = true := decide_eq_true h
 conv => lhs; whnf; arg 2; tactic => exact h
 kernel_rfl
theorem p_g0 (root : Nat) (cv : AV) (next : Int) (rest : List Int) (n : Nat) (i : Int) (h : ¬ i < ln rest) : from_ C dd s147 Rt (gSt root cv next rest n i O nid) = Rt (nSt root cv next rest n (ln rest) O nid) := by
 have h : decide (i < ln rest) = false := decide_eq_false h
 conv => lhs; whnf; arg 2; tactic => exact h
 kernel_rfl
theorem chk_yes {R : Type} {p : Prop} [Decidable p] {x : Option R} (h : p) : chk p x = x := if_pos h
abbrev q8 : Int -> Int -> Bool := fun a b => a == b
theorem p_g1 (root : Nat) (cv : AV) (next : Int) (rest : List Int) (n m : Nat) (i x : Int) (es : List (Int × AV)) (h0 : 0 <= i) (h1 : i < ln rest) (h : look O n = some (node x (.mp m))) (h' : look O m = some (mlit es)) (hg : mget q8 (gt rest i 0) es = none) :
  from_ C dd s147 Rt (gSt root cv next rest n i O nid) = Rt (nSt root cv next rest n i O nid) := by
 have h2 : decide (i < ln rest) = true := decide_eq_true h1
 conv => lhs; whnf; arg 2; tactic => exact h2
 conv => lhs; whnf; tactic => exact chk_yes h0
 conv => lhs; whnf; tactic => exact chk_yes h1
 conv => lhs; whnf; arg 2; tactic => exact h
 conv => lhs; whnf; arg 2; tactic => exact h'
 conv => lhs; whnf; tactic => exact litGet_eq
 conv => lhs; whnf; arg 2; tactic => exact hg
 kernel_rfl
theorem p_g2 (root : Nat) (cv : AV) (next : Int) (rest : List Int) (n : Nat) (i x : Int) (h0 : 0 <= i) (h1 : i < ln rest) (h : look O n = some (node x nilm)) :
  from_ C dd s147 Rt (gSt root cv next rest n i O nid) = Rt (nSt root cv next rest n i O nid) := by
 have h2 : decide (i < ln rest) = true := decide_eq_true h1
 conv => lhs; whnf; arg 2; tactic => exact h2
 conv => lhs; whnf; tactic => exact chk_yes h0
 conv => lhs; whnf; tactic => exact chk_yes h1
 conv => lhs; whnf; arg 2; tactic => exact h
 kernel_rfl
theorem p_g3 (root : Nat) (cv : AV) (next : Int) (rest : List Int) (n m n' : Nat) (i x : Int) (es : List (Int × AV)) (h0 : 0 <= i) (h1 : i < ln rest) (h : look O n = some (node x (.mp m))) (h' : look O m = some (mlit es)) (hg : mget q8 (gt rest i 0) es = some (.ptr n' 0)) :
  from_ C dd s147 Rt (gSt root cv next rest n i O nid) = Rt (gSt root cv next rest n' (wi (i + 1)) O nid) := by
 have h2 : decide (i < ln rest) = true := decide_eq_true h1
 conv => lhs; whnf; arg 2; tactic => exact h2
 conv => lhs; whnf; tactic => exact chk_yes h0
 conv => lhs; whnf; tactic => exact chk_yes h1
 conv => lhs; whnf; arg 2; tactic => exact h
 conv => lhs; whnf; arg 2; tactic => exact h'
 conv => lhs; whnf; tactic => exact litGet_eq
 conv => lhs; whnf; arg 2; tactic => exact hg
 kernel_rfl
abbrev carr (codes : List (Int × Int)) : AO := .arr bn codes true
theorem p_n1 (root cid : Nat) (next : Int) (rest : List Int) (n : Nat) (i x : Int) (v : AV) (codes : List (Int × Int)) (h : look O n = some (node x v)) (hc : look O cid = some (carr codes)) (hcid : cid < nid) (hl : codes.length <= 1000) (h0 : 0 <= i) (h1 : i <= ln rest) (h2 : 0 < ln (rest.drop i.toNat)) (h3 : next < 512) :
  from_ C dd s147 Rt (nSt root (.own cid) next rest n i O nid) = Rt (eSt 0 n (gt (rest.drop i.toNat) 0 0) next [fr7 root (.own cid) next (rest.drop i.toNat) (tdW Tryz.f147 46)] ((cid,carr (codes ++ [(x,9)])) :: (nid,carr [(x,9)]) :: (Eff.kill cid).objs O) (nid + 1)) := by
 have h4 : look ((nid,carr [(x,9)]) :: O) cid = some (carr codes) := by rw [lk_ne (by omega)]; exact hc
 have h5 : decide (ln (rest.drop i.toNat) > 0) = true := decide_eq_true h2
 have h6 : decide (next < 512) = true := decide_eq_true h3
 have hq : (codes.length + [(x,(9 : Int))].length) * 16 <= 140737488355328 := by simp; omega
 conv => lhs; whnf; arg 2; tactic => exact h
 conv => lhs; whnf; arg 3; whnf; arg 2; whnf; arg 2; tactic => exact lk_eq (O := O) (i := nid) (a := carr [(x,9)])
 conv => lhs; whnf; arg 2; tactic => exact h4
 conv => lhs; whnf; tactic => exact chk_yes hq
 conv => lhs; whnf; tactic => exact chk_yes h0
 conv => lhs; whnf; tactic => exact chk_yes h1
 conv => lhs; whnf; arg 2; tactic => exact h5
 conv => lhs; whnf; arg 2; tactic => exact h6
 conv => lhs; whnf; tactic => exact chk_yes h2
 kernel_rfl
theorem p_n2 (root cid : Nat) (next : Int) (rest : List Int) (n : Nat) (i x : Int) (v : AV) (codes : List (Int × Int)) (h : look O n = some (node x v)) (hc : look O cid = some (carr codes)) (hcid : cid < nid) (hl : codes.length <= 1000) (h0 : 0 <= i) (h1 : i <= ln rest) (h2 : ¬ (0 < ln (rest.drop i.toNat) ∧ next < 512)) :
  from_ C dd s147 Rt (nSt root (.own cid) next rest n i O nid) = Rt (lSt root (.own cid) next (rest.drop i.toNat) ((cid,carr (codes ++ [(x,9)])) :: (nid,carr [(x,9)]) :: (Eff.kill cid).objs O) (nid + 1)) := by
 have h4 : look ((nid,carr [(x,9)]) :: O) cid = some (carr codes) := by rw [lk_ne (by omega)]; exact hc
 have hq : (codes.length + [(x,(9 : Int))].length) * 16 <= 140737488355328 := by simp; omega
 conv => lhs; whnf; arg 2; tactic => exact h
 conv => lhs; whnf; arg 3; whnf; arg 2; whnf; arg 2; tactic => exact lk_eq (O := O) (i := nid) (a := carr [(x,9)])
 conv => lhs; whnf; arg 2; tactic => exact h4
 conv => lhs; whnf; tactic => exact chk_yes hq
 conv => lhs; whnf; tactic => exact chk_yes h0
 conv => lhs; whnf; tactic => exact chk_yes h1
 by_cases h5 : 0 < ln (rest.drop i.toNat)
 ·have h6 : decide (next < 512) = false := decide_eq_false fun x => h2 ⟨h5,x⟩
  have h5 : decide (ln (rest.drop i.toNat) > 0) = true := decide_eq_true h5
  conv => lhs; whnf; arg 2; tactic => exact h5
  conv => lhs; whnf; arg 2; tactic => exact h6
  kernel_rfl
 ·have h5 : decide (ln (rest.drop i.toNat) > 0) = false := decide_eq_false h5
  conv => lhs; whnf; arg 2; tactic => exact h5
  kernel_rfl
theorem p_n3 (root : Nat) (next : Int) (rest : List Int) (n : Nat) (i x : Int) (v : AV) (h : look O n = some (node x v)) (h0 : 0 <= i) (h1 : i <= ln rest) (h2 : 0 < ln (rest.drop i.toNat)) (h3 : next < 512) :
  from_ C dd s147 Rt (nSt root .nilsl next rest n i O nid) = Rt (eSt 0 n (gt (rest.drop i.toNat) 0 0) next [fr7 root (.own (nid + 1)) next (rest.drop i.toNat) (tdW Tryz.f147 46)] ((nid + 1,carr [(x,9)]) :: (nid,carr [(x,9)]) :: O) (nid + 2)) := by
 have h5 : decide (ln (rest.drop i.toNat) > 0) = true := decide_eq_true h2
 have h6 : decide (next < 512) = true := decide_eq_true h3
 conv => lhs; whnf; arg 2; tactic => exact h
 conv => lhs; whnf; arg 3; whnf; arg 2; whnf; arg 2; tactic => exact lk_eq (O := O) (i := nid) (a := carr [(x,9)])
 conv => lhs; whnf; tactic => exact chk_yes h0
 conv => lhs; whnf; tactic => exact chk_yes h1
 conv => lhs; whnf; arg 2; tactic => exact h5
 conv => lhs; whnf; arg 2; tactic => exact h6
 conv => lhs; whnf; tactic => exact chk_yes h2
 kernel_rfl
theorem p_n4 (root : Nat) (next : Int) (rest : List Int) (n : Nat) (i x : Int) (v : AV) (h : look O n = some (node x v)) (h0 : 0 <= i) (h1 : i <= ln rest) (h2 : ¬ (0 < ln (rest.drop i.toNat) ∧ next < 512)) :
  from_ C dd s147 Rt (nSt root .nilsl next rest n i O nid) = Rt (lSt root (.own (nid + 1)) next (rest.drop i.toNat) ((nid + 1,carr [(x,9)]) :: (nid,carr [(x,9)]) :: O) (nid + 2)) := by
 conv => lhs; whnf; arg 2; tactic => exact h
 conv => lhs; whnf; arg 3; whnf; arg 2; whnf; arg 2; tactic => exact lk_eq (O := O) (i := nid) (a := carr [(x,9)])
 conv => lhs; whnf; tactic => exact chk_yes h0
 conv => lhs; whnf; tactic => exact chk_yes h1
 by_cases h5 : 0 < ln (rest.drop i.toNat)
 ·have h6 : decide (next < 512) = false := decide_eq_false fun x => h2 ⟨h5,x⟩
  have h5 : decide (ln (rest.drop i.toNat) > 0) = true := decide_eq_true h5
  conv => lhs; whnf; arg 2; tactic => exact h5
  conv => lhs; whnf; arg 2; tactic => exact h6
  kernel_rfl
 ·have h5 : decide (ln (rest.drop i.toNat) > 0) = false := decide_eq_false h5
  conv => lhs; whnf; arg 2; tactic => exact h5
  kernel_rfl
theorem cast_bn (codes : List (Int × Int)) : castRows bn bn codes = some codes := rfl
theorem cast_u8 (l : List Int) : castRows u8s u8s l = some l := rfl
theorem getArgs_c {O : Objs} {id : Nat} {codes : List (Int × Int)} (h : look O id = some (carr codes)) : getArgs O s154.ps [.own id] = some (codes,[],[],[id],[]) := by
 have h1 : CT.ofAV O (.sl bn) (.own id) = some codes := by
  conv => lhs; whnf; arg 2; tactic => exact h
  exact cast_bn codes
 show getArg O ⟨.one (.sl bn),[.ro]⟩ (.own id) = _
 unfold getArg
 conv => lhs; whnf; arg 3; tactic => exact h1
 rfl
theorem outAll_c {O : Objs} {id : Nat} {out : List Int} (h : look O id = some (.arr u8s out true)) : outAll O s147.rs [.own id] = some (out,[id],[]) := by
 have h1 : CT.ofAV O (.sl u8s) (.own id) = some out := by
  conv => lhs; whnf; arg 2; tactic => exact h
  exact cast_u8 out
 show outOne O ⟨.one (.sl u8s),[.mv]⟩ (.own id) = _
 unfold outOne
 conv => lhs; whnf; arg 3; tactic => exact h1
 rfl
theorem p_l2 (root : Nat) (next : Int) (out : List Int) (hr : r154 dd [(256,9)] = some out) : from_ C dd s147 Rt (lSt root .nilsl next [] O nid) = some out := by
 conv => lhs; whnf; arg 3; whnf; arg 2; whnf; arg 2; tactic => exact lk_eq (O := O) (i := nid) (a := carr [(256,9)])
 conv => lhs; whnf; arg 3; tactic => exact getArgs_c (codes := [(256,9)]) lk_eq
 conv => lhs; whnf; arg 2; tactic => exact hr
 conv => lhs; whnf; arg 3; tactic => exact outAll_c (out := out) lk_eq
 kernel_rfl
theorem p_l3 (root cid : Nat) (next : Int) (codes : List (Int × Int)) (hc : look O cid = some (carr codes)) (hcid : cid < nid) (hl : codes.length <= 1000) (out : List Int) (hr : r154 dd (codes ++ [(256,9)]) = some out) : from_ C dd s147 Rt (lSt root (.own cid) next [] O nid) = some out := by
 have h4 : look ((nid,carr [(256,9)]) :: O) cid = some (carr codes) := by rw [lk_ne (by omega)]; exact hc
 have hq : (codes.length + [((256 : Int),(9 : Int))].length) * 16 <= 140737488355328 := by simp; omega
 conv => lhs; whnf; arg 3; whnf; arg 2; whnf; arg 2; tactic => exact lk_eq (O := O) (i := nid) (a := carr [(256,9)])
 conv => lhs; whnf; arg 2; tactic => exact h4
 conv => lhs; whnf; tactic => exact chk_yes hq
 conv => lhs; whnf; arg 3; tactic => exact getArgs_c (codes := codes ++ [((256 : Int),(9 : Int))]) lk_eq
 conv => lhs; whnf; arg 2; tactic => exact hr
 conv => lhs; whnf; arg 3; tactic => exact outAll_c (out := out) lk_eq
 kernel_rfl
end T
end
section
namespace T
open Go Go.E Go.Proofs
def mv : Option Nat -> AV
 | none => nilm
 | some m => .mp m
def Dom (dic : List (List Int)) (s : List Int) : Prop := s = [] ∨ s ∈ dic
instance (dic : List (List Int)) (s : List Int) : Decidable (Dom dic s) := inferInstanceAs (Decidable (s = [] ∨ s ∈ dic))
structure Tri (O : Objs) (nid : Nat) (dic : List (List Int)) (code : List Int -> Int) (nd : List Int -> Nat) (mp : List Int -> Option Nat) : Prop where
 node : ∀ s,Dom dic s -> look O (nd s) = some (node (code s) (mv (mp s)))
 map : ∀ s m,Dom dic s -> mp s = some m -> ∃ es,look O m = some (mlit es) ∧ ∀ b,mget q8 b es = if s ++ [b] ∈ dic then some (.ptr (nd (s ++ [b])) 0) else none
 nil : ∀ s,Dom dic s -> mp s = none -> ∀ b,s ++ [b] ∉ dic
 inj : ∀ s t,Dom dic s -> Dom dic t -> nd s = nd t -> s = t
 inj' : ∀ s t m,Dom dic s -> Dom dic t -> mp s = some m -> mp t = some m -> s = t
 lt : ∀ s,Dom dic s -> nd s < nid
 lt' : ∀ s m,Dom dic s -> mp s = some m -> m < nid
 pre : ∀ s b,s ++ [b] ∈ dic -> Dom dic s
 emp : [] ∉ dic
inductive TriO : AO -> Prop
 | node (x : Int) (o : Option Nat) : TriO (node x (mv o))
 | map (es : List (Int × AV)) : TriO (mlit es)
theorem Tri.mono {O O' : Objs} {nid nid' : Nat} {dic : List (List Int)} {code : List Int -> Int} {nd : List Int -> Nat} {mp : List Int -> Option Nat} (h : Tri O nid dic code nd mp) (hn : nid <= nid') (hl : ∀ i a,TriO a -> i < nid -> look O i = some a -> look O' i = some a) : Tri O' nid' dic code nd mp where
 node := fun s hs => hl _ _ (.node _ _) (h.lt s hs) (h.node s hs)
 map := fun s m hs hm => by
  obtain ⟨es,h1,h2⟩ := h.map s m hs hm
  exact ⟨es,hl _ _ (.map es) (h.lt' s m hs hm) h1,h2⟩
 nil := h.nil
 inj := h.inj
 inj' := h.inj'
 lt := fun s hs => Nat.lt_of_lt_of_le (h.lt s hs) hn
 lt' := fun s m hs hm => Nat.lt_of_lt_of_le (h.lt' s m hs hm) hn
 pre := h.pre
 emp := h.emp
theorem Tri.code {O : Objs} {nid : Nat} {dic : List (List Int)} {code code' : List Int -> Int} {nd : List Int -> Nat} {mp : List Int -> Option Nat} (h : Tri O nid dic code nd mp) (hc : ∀ s,Dom dic s -> code' s = code s) : Tri O nid dic code' nd mp :=
 { h with node := fun s hs => by rw [hc s hs]; exact h.node s hs }
def upd {α : Type} (f : List Int -> α) (t : List Int) (x : α) : List Int -> α := fun s => if s = t then x else f s
theorem upd_eq {α : Type} {f : List Int -> α} {t : List Int} {x : α} : upd f t x t = x := if_pos rfl
theorem upd_ne {α : Type} {f : List Int -> α} {t s : List Int} {x : α} (h : s ≠ t) : upd f t x s = f s := if_neg h
section
variable {O : Objs} {nid : Nat} {dic : List (List Int)} {code : List Int -> Int} {nd : List Int -> Nat} {mp : List Int -> Option Nat}
theorem Tri.addMap (h : Tri O nid dic code nd mp) {s : List Int} (hs : Dom dic s) (hm : mp s = none) : Tri ((nd s,T.node (code s) (.mp nid)) :: (nid,mlit []) :: O) (nid + 1) dic code nd (upd mp s (some nid)) where
 node := fun t ht => by
  by_cases e : t = s
  ·subst e
   rw [upd_eq,lk_eq]; rfl
  ·rw [upd_ne e,lk_ne (fun x => e (h.inj _ _ ht hs x.symm)),lk_ne (by have := h.lt t ht; omega)]
   exact h.node t ht
 map := fun t m ht hm' => by
  by_cases e : t = s
  ·subst e
   rw [upd_eq] at hm'; cases hm'
   refine ⟨[],?_,fun b => ?_⟩
   ·rw [lk_ne (by have := h.lt t hs; omega),lk_eq]
   ·rw [if_neg (h.nil t hs hm b)]; rfl
  ·rw [upd_ne e] at hm'
   obtain ⟨es,h1,h2⟩ := h.map t m ht hm'
   have h3 := h.lt' t m ht hm'
   refine ⟨es,?_,h2⟩
   rw [lk_ne ?_,lk_ne (by omega)]
   ·exact h1
   ·intro x
    have := h.node s hs
    rw [x,h1] at this
    cases this
 nil := fun t ht hm' => by
  by_cases e : t = s
  ·subst e; rw [upd_eq] at hm'; cases hm'
  ·rw [upd_ne e] at hm'; exact h.nil t ht hm'
 inj := h.inj
 inj' := fun t u m ht hu h1 h2 => by
  by_cases e : t = s
  ·subst e
   rw [upd_eq] at h1; cases h1
   by_cases e' : u = t
   ·exact e'.symm
   ·rw [upd_ne e'] at h2
    have := h.lt' u _ hu h2
    omega
  ·rw [upd_ne e] at h1
   by_cases e' : u = s
   ·subst e'
    rw [upd_eq] at h2; cases h2
    have := h.lt' t _ ht h1
    omega
   ·rw [upd_ne e'] at h2
    exact h.inj' t u m ht hu h1 h2
 lt := fun t ht => Nat.lt_succ_of_lt (h.lt t ht)
 lt' := fun t m ht hm' => by
  by_cases e : t = s
  ·subst e; rw [upd_eq] at hm'; cases hm'; exact Nat.lt_succ_self _
  ·rw [upd_ne e] at hm'; exact Nat.lt_succ_of_lt (h.lt' t m ht hm')
 pre := h.pre
 emp := h.emp
theorem mget_mput {b b' : Int} {v : AV} : ∀ {es : List (Int × AV)},mget q8 b' (mput q8 b v es) = if b' = b then some v else mget q8 b' es
 | [] => by
  show (bif b' == b then some v else none) = if b' = b then some v else none
  by_cases e : b' = b
  ·simp [e]
  ·rw [if_neg e,show (b' == b) = false by simpa using e]; rfl
 | (j,u) :: es => by
  have h1 : mput q8 b v ((j,u) :: es) = bif b == j then (b,v) :: es else (j,u) :: mput q8 b v es := rfl
  have h2 : ∀ x,mget q8 x ((j,u) :: es) = bif x == j then some u else mget q8 x es := fun _ => rfl
  rw [h1]
  by_cases e : b = j
  ·subst e
   rw [h2,beq_self_eq_true,cond_true]
   show (bif b' == b then some v else mget q8 b' es) = _
   by_cases e' : b' = b
   ·simp [e']
   ·rw [if_neg e',show (b' == b) = false by simpa using e']; rfl
  ·have : (b == j) = false := by simpa using e
   rw [this,cond_false,h2]
   show (bif b' == j then some u else mget q8 b' (mput q8 b v es)) = _
   rw [mget_mput]
   by_cases e' : b' = j
   ·subst e'
    have : ¬ b' = b := fun x => e x.symm
    simp [this]
   ·have : (b' == j) = false := by simpa using e'
    rw [this]; rfl
theorem snoc_inj {s t : List Int} {b c : Int} (h : s ++ [b] = t ++ [c]) : s = t ∧ b = c := by
 have := List.append_inj' h rfl
 exact ⟨this.1,by simpa using this.2⟩
theorem Tri.enter (h : Tri O nid dic code nd mp) {s : List Int} {b : Int} (hs : Dom dic s) {m : Nat} (hm : mp s = some m) (ht : s ++ [b] ∉ dic) {es : List (Int × AV)} (hes : look O m = some (mlit es)) (c : Int) :
  Tri ((m,mlit (mput q8 b (.ptr nid 0) es)) :: (nid,T.node c nilm) :: O) (nid + 1) (dic ++ [s ++ [b]]) (upd code (s ++ [b]) c) (upd nd (s ++ [b]) nid) (upd mp (s ++ [b]) none) := by
 have hne : ∀ u,Dom dic u -> u ≠ s ++ [b] := fun u hu e => by
  rcases hu with hu | hu
  ·rw [hu] at e; simp at e
  ·exact ht (e ▸ hu)
 have hd : ∀ u,Dom (dic ++ [s ++ [b]]) u -> u = s ++ [b] ∨ Dom dic u := fun u hu => by
  rcases hu with hu | hu
  ·exact .inr (.inl hu)
  ·rcases List.mem_append.1 hu with q | q
   ·exact .inr (.inr q)
   ·exact .inl (by simpa using q)
 have hmlt := h.lt' s m hs hm
 obtain ⟨es',he1,he2⟩ := h.map s m hs hm
 rw [hes] at he1
 have : es' = es := by cases he1; rfl
 subst this
 refine ⟨fun u hu => ?_,fun u m' hu hm' => ?_,fun u hu hm' x => ?_,fun u v hu hv e => ?_,fun u v m' hu hv h1 h2 => ?_,fun u hu => ?_,fun u m' hu hm' => ?_,fun u x hx => ?_,?_⟩
 ·rcases hd u hu with rfl | hu
  ·rw [upd_eq,upd_eq,upd_eq,lk_ne (by omega),lk_eq]; rfl
  ·have hl := h.lt u hu
   have hn := h.node u hu
   rw [upd_ne (hne u hu),upd_ne (hne u hu),upd_ne (hne u hu),lk_ne ?_,lk_ne (by omega)]
   ·exact hn
   ·intro e; rw [<- e,hes] at hn; cases hn
 ·rcases hd u hu with rfl | hu
  ·rw [upd_eq] at hm'; cases hm'
  ·rw [upd_ne (hne u hu)] at hm'
   by_cases e : u = s
   ·subst e
    rw [hm] at hm'; cases hm'
    refine ⟨_,lk_eq,fun x => ?_⟩
    rw [mget_mput]
    by_cases ex : x = b
    ·subst ex
     rw [if_pos rfl,if_pos (by simp),upd_eq]
    ·have hx : u ++ [x] ≠ u ++ [b] := fun q => ex (snoc_inj q).2
     rw [if_neg ex,he2,upd_ne hx]
     by_cases q : u ++ [x] ∈ dic
     ·rw [if_pos q,if_pos (by simp [q])]
     ·rw [if_neg q,if_neg (by simp [q,ex])]
   ·obtain ⟨es2,h1,h2⟩ := h.map u m' hu hm'
    have hl := h.lt' u m' hu hm'
    refine ⟨es2,?_,fun x => ?_⟩
    ·rw [lk_ne (fun q => e (h.inj' u s m hu hs (by rw [q]; exact hm') hm)),lk_ne (by omega)]
     exact h1
    ·have hx : u ++ [x] ≠ s ++ [b] := fun q => e (snoc_inj q).1
     rw [h2,upd_ne hx]
     by_cases q : u ++ [x] ∈ dic
     ·rw [if_pos q,if_pos (by simp [q])]
     ·rw [if_neg q,if_neg (by
       intro y
       rcases List.mem_append.1 y with y | y
       ·exact q y
       ·exact hx (by simpa using y))]
 ·rcases hd u hu with rfl | hu
  ·intro hx
   rcases List.mem_append.1 hx with hx | hx
   ·have := h.pre _ _ hx
    rcases this with q | q
    ·simp at q
    ·exact ht q
   ·have := congrArg List.length (show s ++ [b] ++ [x] = s ++ [b] from List.mem_singleton.1 hx)
    simp at this
  ·rw [upd_ne (hne u hu)] at hm'
   intro hx
   rcases List.mem_append.1 hx with hx | hx
   ·exact h.nil u hu hm' x hx
   ·have : u ++ [x] = s ++ [b] := by simpa using hx
    have := (snoc_inj this).1
    subst this
    rw [hm] at hm'; cases hm'
 ·rcases hd u hu with e1 | hu <;> rcases hd v hv with e2 | hv
  ·rw [e1,e2]
  ·rw [e1,upd_eq,upd_ne (hne v hv)] at e
   have := h.lt v hv; omega
  ·rw [e2,upd_eq,upd_ne (hne u hu)] at e
   have := h.lt u hu; omega
  ·rw [upd_ne (hne u hu),upd_ne (hne v hv)] at e
   exact h.inj u v hu hv e
 ·rcases hd u hu with e1 | hu
  ·rw [e1,upd_eq] at h1; cases h1
  ·rcases hd v hv with e2 | hv
   ·rw [e2,upd_eq] at h2; cases h2
   ·rw [upd_ne (hne u hu)] at h1
    rw [upd_ne (hne v hv)] at h2
    exact h.inj' u v m' hu hv h1 h2
 ·rcases hd u hu with rfl | hu
  ·rw [upd_eq]; omega
  ·rw [upd_ne (hne u hu)]
   have := h.lt u hu; omega
 ·rcases hd u hu with rfl | hu
  ·rw [upd_eq] at hm'; cases hm'
  ·rw [upd_ne (hne u hu)] at hm'
   have := h.lt' u m' hu hm'; omega
 ·rcases List.mem_append.1 hx with hx | hx
  ·rcases h.pre u x hx with q | q
   ·exact .inl q
   ·exact .inr (List.mem_append.2 (.inl q))
  ·have : u ++ [x] = s ++ [b] := by simpa using hx
   have := (snoc_inj this).1
   subst this
   rcases hs with q | q
   ·exact .inl q
   ·exact .inr (List.mem_append.2 (.inl q))
 ·intro hx
  rcases List.mem_append.1 hx with hx | hx
  ·exact h.emp hx
  ·simp at hx
end
end T
end
section
namespace T
open Go Go.E Go.Proofs
theorem wi_id {x : Int} (h0 : -9223372036854775808 <= x) (h1 : x <= 9223372036854775807) : wi x = x := by
 unfold wi IntKind.wrap
 simp only [IntKind.bits,IntKind.signed,Bool.true_and]
 split
 ·rename_i h; have := of_decide_eq_true h; omega
 ·rename_i h; have : ¬ (x % 2 ^ 64 ≥ 2 ^ (64 - 1)) := fun y => h (decide_eq_true y); omega
theorem wb_id {x : Int} (h0 : 0 <= x) (h1 : x < 256) : wb x = x := by
 unfold wb IntKind.wrap
 simp only [IntKind.bits,IntKind.signed,Bool.false_and,Bool.false_eq_true,if_false]
 omega
theorem via {s : Sig} {st st' : St} {r : s.B} (h : from_ C dd s (LL s) st = LL s st') (k : LL s st' = some r) : LL s st = some r := L_from (h.trans k)
def dic1 (n : Nat) : List (List Int) := (List.range n).map fun b : Nat => [(b : Int)]
theorem dic1_mem {n : Nat} {s : List Int} : s ∈ dic1 n ↔ ∃ b : Nat,b < n ∧ s = [(b : Int)] := by
 unfold dic1
 simp only [List.mem_map,List.mem_range]
 constructor
 ·rintro ⟨b,h,e⟩; exact ⟨b,h,e.symm⟩
 ·rintro ⟨b,h,e⟩; exact ⟨b,h,e.symm⟩
theorem dic1_succ (n : Nat) : dic1 (n + 1) = dic1 n ++ [[] ++ [(n : Int)]] := by
 unfold dic1; rw [List.range_succ,List.map_append]; rfl
def dicM (met : List (List Int)) : List (List Int) := dic1 256 ++ met
def codeM (met : List (List Int)) (s : List Int) : Int := if s.length <= 1 then (if s = [] then -1 else s.headD 0) else 257 + (met.idxOf s : Int)
section
variable {l : List Int} {out : List Int}
theorem a_loop (k : Nat) : ∀ (i : Nat) (O : Objs) (nid : Nat) (nd : List Int -> Nat) (mp : List Int -> Option Nat),i + k = 256 -> Tri O nid (dic1 i) (codeM []) nd mp -> nd [] = 1 ->
  (∀ O nid nd mp,Tri O nid (dicM []) (codeM []) nd mp -> nd [] = 1 -> LL s147 (lSt 1 .nilsl 257 l O nid) = some out) -> LL s147 (aSt l 1 i O nid) = some out := by
 induction k with
 | zero =>
  intro i O nid nd mp hi ht h1 hk
  have hi : i = 256 := by omega
  subst hi
  refine via (p_a2 (LL s147) O nid l 1 _ (by decide)) (hk O nid nd mp ?_ h1)
  unfold dicM
  rw [List.append_nil]; exact ht
 | succ k ih =>
  intro i O nid nd mp hi ht h1 hk
  have hlt : (i : Int) < 256 := by omega
  refine via (p_a1 (LL s147) O nid l 1 _ hlt) ?_
  rw [wb_id (by omega) hlt]
  have hs : Dom (dic1 i) [] := .inl rfl
  have hnode := ht.node [] hs
  rw [h1] at hnode
  have hout : ([] : List Int) ++ [(i : Int)] ∉ dic1 i := by
   rw [dic1_mem]
   rintro ⟨b,hb,e⟩
   simp at e; omega
  have go : ∀ (O : Objs) (nid m : Nat) (nd : List Int -> Nat) (mp : List Int -> Option Nat),Tri O nid (dic1 i) (codeM []) nd mp -> nd [] = 1 -> mp [] = some m ->
    LL s147 (eSt 2 1 (i : Int) (i : Int) [fr1 l 1 i (tdW Tryz.f151 12),fr0 l] O nid) = some out := by
   intro O nid m nd mp ht h1 hm
   obtain ⟨es,he,_⟩ := ht.map [] m hs hm
   have hnode := ht.node [] hs
   rw [h1,hm] at hnode
   refine via (p_e3 (LL s147) O nid l 1 i 1 m i i _ (ht.lt' [] m hs hm) es hnode he) ?_
   rw [wi_id (by omega) (by omega)]
   have := ht.enter hs hm hout he (i : Int)
   rw [<- dic1_succ] at this
   refine ih (i + 1) _ _ _ _ (by omega) (this.code fun s hsd => ?_) (by rw [upd_ne (by simp)]; exact h1) hk
   by_cases e : s = [] ++ [(i : Int)]
   ·rw [e,upd_eq]; rfl
   ·rw [upd_ne e]
  cases hm : mp [] with
  | some m =>
   rw [hm] at hnode
   exact via (p_e1 (LL s147) O nid l 1 i 1 m i i _ hnode) (go O nid m nd mp ht h1 hm)
  | none =>
   rw [hm] at hnode
   refine via (p_e2 (LL s147) O nid l 1 i 1 i i _ (by have := ht.lt [] hs; omega) hnode) ?_
   have := ht.addMap hs hm
   rw [h1] at this
   exact go _ _ nid nd _ this h1 upd_eq
end
def lng (dic : List (List Int)) (rest : List Int) : Nat -> Nat -> Nat
 | 0,i => i
 | k + 1,i => if rest.take (i + 1) ∈ dic then lng dic rest k (i + 1) else i
theorem take_snoc {l : List Int} {i : Nat} (h : i < l.length) : l.take (i + 1) = l.take i ++ [gt l (i : Int) 0] := by
 unfold gt
 rw [List.take_add_one,List.getElem?_eq_getElem h]
 simp [h]
theorem lng_dom {dic : List (List Int)} {rest : List Int} : ∀ (k i : Nat),i + k = rest.length -> Dom dic (rest.take i) -> Dom dic (rest.take (lng dic rest k i)) ∧ lng dic rest k i <= rest.length ∧ i <= lng dic rest k i ∧ (lng dic rest k i < rest.length -> rest.take (lng dic rest k i + 1) ∉ dic)
 | 0,i,h,hd => ⟨hd,by unfold lng; omega,Nat.le_refl _,fun x => by unfold lng at x; omega⟩
 | k + 1,i,h,hd => by
  unfold lng
  by_cases e : rest.take (i + 1) ∈ dic
  ·rw [if_pos e]
   obtain ⟨h1,h2,h3,h4⟩ := lng_dom k (i + 1) (by omega) (.inr e)
   exact ⟨h1,h2,by omega,h4⟩
  ·rw [if_neg e]
   exact ⟨hd,by omega,Nat.le_refl _,fun _ => e⟩
theorem g_loop {O : Objs} {nid : Nat} {dic : List (List Int)} {code : List Int -> Int} {nd : List Int -> Nat} {mp : List Int -> Option Nat} (ht : Tri O nid dic code nd mp) {root : Nat} {cv : AV} {next : Int} {rest out : List Int} (hr : rest.length <= 1000) : ∀ (k i : Nat),i + k = rest.length -> Dom dic (rest.take i) ->
  LL s147 (nSt root cv next rest (nd (rest.take (lng dic rest k i))) (lng dic rest k i : Nat) O nid) = some out -> LL s147 (gSt root cv next rest (nd (rest.take i)) i O nid) = some out
 | 0,i,h,hd,hk => by
  refine via (p_g0 (LL s147) O nid root cv next rest _ i (by show ¬ (i : Int) < (rest.length : Int); omega)) ?_
  have : ln rest = ((lng dic rest 0 i : Nat) : Int) := by unfold lng; show (rest.length : Int) = i; omega
  rw [this]; exact hk
 | k + 1,i,h,hd,hk => by
  have hi : i < rest.length := by omega
  have hlt : (i : Int) < ln rest := by show (i : Int) < (rest.length : Int); omega
  unfold lng at hk
  rw [take_snoc hi] at hk
  have hnode := ht.node _ hd
  cases hm : mp (rest.take i) with
  | none =>
   have := ht.nil _ hd hm (gt rest (i : Int) 0)
   rw [if_neg this] at hk
   rw [hm] at hnode
   exact via (p_g2 (LL s147) O nid root cv next rest _ i _ (by omega) hlt hnode) hk
  | some m =>
   obtain ⟨es,he,hg⟩ := ht.map _ m hd hm
   have hg := hg (gt rest (i : Int) 0)
   rw [hm] at hnode
   by_cases e : rest.take i ++ [gt rest (i : Int) 0] ∈ dic
   ·rw [if_pos e] at hk hg
    refine via (p_g3 (LL s147) O nid root cv next rest _ m _ i _ es (by omega) hlt hnode he hg) ?_
    rw [wi_id (by omega) (by omega)]
    have := g_loop ht hr (root := root) (cv := cv) (next := next) (out := out) k (i + 1) (by omega) (by rw [take_snoc hi]; exact .inr e) hk
    rw [take_snoc hi] at this
    exact this
   ·rw [if_neg e] at hk hg
    exact via (p_g1 (LL s147) O nid root cv next rest _ m i _ es (by omega) hlt hnode he hg) hk
end T
end
section
namespace T
open Go Go.E Go.Proofs
def pkGo : Nat -> List (List Int) -> List Int -> List (Int × Int)
 | 0,_,_ => []
 | f + 1,met,rest => if rest = [] then [] else
  (codeM met (rest.take (lng (dicM met) rest rest.length 0)),9) ::
   pkGo f (if lng (dicM met) rest rest.length 0 < rest.length ∧ met.length < 255 then met ++ [rest.take (lng (dicM met) rest rest.length 0 + 1)] else met) (rest.drop (lng (dicM met) rest rest.length 0))
def Byt (l : List Int) : Prop := ∀ b ∈ l,0 <= b ∧ b < 256
def Cv (O : Objs) (nid : Nat) (cv : AV) (codes : List (Int × Int)) : Prop := (cv = .nilsl ∧ codes = []) ∨ ∃ cid,cv = .own cid ∧ cid < nid ∧ look O cid = some (carr codes)
theorem kill_look {O : Objs} {cid i : Nat} {a : AO} (h : look O i = some a) (ha : TriO a ∨ ∃ codes,a = carr codes) : look ((Eff.kill cid).objs O) i = some a := by
 rw [look_objs,h]
 rcases ha with ha | ⟨codes,rfl⟩
 ·cases ha with
  | node x o => cases o <;> rfl
  | map es => rfl
 ·rfl
theorem codeM_snoc {met : List (List Int)} {t s : List Int} (hs : Dom (dicM met) s) (ht : t ∉ dicM met) (hl : 2 <= t.length) : codeM (met ++ [t]) s = upd (codeM met) t (257 + (met.length : Int)) s := by
 have hst : s ≠ t := fun e => by
  rcases hs with hs | hs
  ·rw [<- e,hs] at hl; simp at hl
  ·exact ht (e ▸ hs)
 rw [upd_ne hst]
 unfold codeM
 by_cases e : s.length <= 1
 ·rw [if_pos e,if_pos e]
 ·rw [if_neg e,if_neg e]
  have hm : s ∈ met := by
   rcases hs with hs | hs
   ·rw [hs] at e; simp at e
   ·rcases List.mem_append.1 hs with hs | hs
    ·obtain ⟨b,_,e'⟩ := dic1_mem.1 hs
     rw [e'] at e; simp at e
    ·exact hs
  rw [List.idxOf_append,if_pos hm]
theorem codeM_new {met : List (List Int)} {t : List Int} (ht : t ∉ dicM met) (hl : 2 <= t.length) : codeM (met ++ [t]) t = 257 + (met.length : Int) := by
 unfold codeM
 rw [if_neg (by omega)]
 have hm : t ∉ met := fun h => ht (List.mem_append.2 (.inr h))
 rw [List.idxOf_append,if_neg hm]
 simp
theorem l_loop {out : List Int} : ∀ (f : Nat) (met : List (List Int)) (rest : List Int) (O : Objs) (nid : Nat) (nd : List Int -> Nat) (mp : List Int -> Option Nat) (cv : AV) (codes : List (Int × Int)) (next : Int),rest.length <= f -> rest.length <= 1000 -> Byt rest -> Tri O nid (dicM met) (codeM met) nd mp -> nd [] = 1 -> Cv O nid cv codes -> codes.length + f <= 999 ->
  next = 257 + (met.length : Int) -> met.length <= 255 -> r154 dd (codes ++ pkGo f met rest ++ [(256,9)]) = some out -> LL s147 (lSt 1 cv next rest O nid) = some out := by
 intro f
 have fin : ∀ (O : Objs) (nid : Nat) (cv : AV) (codes : List (Int × Int)) (next : Int),Cv O nid cv codes -> codes.length <= 1000 -> r154 dd (codes ++ [(256,9)]) = some out -> LL s147 (lSt 1 cv next [] O nid) = some out := by
  intro O nid cv codes next hc hl hr
  rcases hc with ⟨rfl,rfl⟩ | ⟨cid,rfl,h1,h2⟩
  ·exact L_from (p_l2 (LL s147) O nid 1 next out hr)
  ·exact L_from (p_l3 (LL s147) O nid 1 cid next codes h2 h1 hl out hr)
 induction f with
 | zero =>
  intro met rest O nid nd mp cv codes next hf _ _ _ _ hc hl _ _ hr
  have : rest = [] := List.eq_nil_of_length_eq_zero (by omega)
  subst this
  exact fin O nid cv codes next hc (by omega) (by unfold pkGo at hr; simpa using hr)
 | succ f ih =>
  intro met rest O nid nd mp cv codes next hf hr1 hb ht h1 hc hl hn hml hr
  unfold pkGo at hr
  by_cases e : rest = []
  ·subst e
   exact fin O nid cv codes next hc (by omega) (by simpa using hr)
  rw [if_neg e] at hr
  have hpos : 0 < rest.length := List.length_pos_iff.2 e
  have hd0 : Dom (dicM met) (rest.take 0) := .inl rfl
  obtain ⟨g1,g2,_,g4⟩ := lng_dom (dic := dicM met) (rest := rest) rest.length 0 (by omega) hd0
  have g0 : 1 <= lng (dicM met) rest rest.length 0 := by
   cases hlen : rest.length with
   | zero => omega
   | succ q =>
    have hin : rest.take (0 + 1) ∈ dicM met := by
     rw [take_snoc (by omega)]
     refine List.mem_append.2 (.inl (dic1_mem.2 ?_))
     have hm : gt rest (0 : Int) 0 ∈ rest := by
      cases rest with
      | nil => exact absurd rfl e
      | cons a r => exact List.mem_cons_self
     obtain ⟨b1,b2⟩ := hb _ hm
     exact ⟨(gt rest (0 : Int) 0).toNat,by omega,by rw [Int.toNat_of_nonneg b1]; rfl⟩
    unfold lng
    rw [if_pos hin]
    exact (lng_dom (dic := dicM met) (rest := rest) q 1 (by omega) (.inr hin)).2.2.1
  refine via (p_l1 (LL s147) O nid 1 cv next rest (by show (0 : Int) < (rest.length : Int); omega)) ?_
  have gl := g_loop (out := out) (cv := cv) (next := next) (root := 1) ht hr1 rest.length 0 (by omega) hd0
  rw [show rest.take 0 = [] by simp,h1] at gl
  refine gl ?_
  clear gl
  generalize lng (dicM met) rest rest.length 0 = n at *
  have hnode := ht.node _ g1
  have hlt := ht.lt _ g1
  have htn : ((n : Int)).toNat = n := by omega
  have hnl : (n : Int) <= ln rest := by show (n : Int) <= (rest.length : Int); omega
  have step : ∀ (O1 : Objs) (nid1 cid : Nat),nid <= nid1 -> cid < nid1 -> look O1 cid = some (carr (codes ++ [(codeM met (rest.take n),9)])) -> (∀ i a,TriO a -> i < nid -> look O i = some a -> look O1 i = some a) ->
    (0 < ln (rest.drop (n : Int).toNat) -> next < 512 -> LL s147 (eSt 0 (nd (rest.take n)) (gt (rest.drop (n : Int).toNat) 0 0) next [fr7 1 (.own cid) next (rest.drop (n : Int).toNat) (tdW Tryz.f147 46)] O1 nid1) = some out) ∧
    (¬ (0 < ln (rest.drop (n : Int).toNat) ∧ next < 512) -> LL s147 (lSt 1 (.own cid) next (rest.drop (n : Int).toNat) O1 nid1) = some out) := by
   intro O1 nid1 cid k1 k2 k3 k4
   have ht1 := ht.mono k1 k4
   have hdl : (rest.drop n).length = rest.length - n := by simp
   have hdb : Byt (rest.drop n) := fun b hbm => hb b (List.mem_of_mem_drop hbm)
   rw [htn]
   refine ⟨fun q1 q2 => ?_,fun q => ?_⟩
   ·have q1 : (0 : Int) < ((rest.drop n).length : Int) := q1
    have hnlt : n < rest.length := by omega
    rw [if_pos ⟨hnlt,by omega⟩] at hr
    have hb0 : gt (rest.drop n) 0 0 = gt rest (n : Int) 0 := by
     unfold gt
     rw [htn]
     simp
    have htk : rest.take (n + 1) = rest.take n ++ [gt (rest.drop n) 0 0] := by rw [hb0]; exact take_snoc hnlt
    have hout := g4 hnlt
    have h2 : 2 <= (rest.take (n + 1)).length := by simp; omega
    have go : ∀ (O : Objs) (nid m : Nat) (nd : List Int -> Nat) (mp : List Int -> Option Nat),Tri O nid (dicM met) (codeM met) nd mp -> nd [] = 1 -> cid < nid -> look O cid = some (carr (codes ++ [(codeM met (rest.take n),9)])) -> mp (rest.take n) = some m ->
      LL s147 (eSt 2 (nd (rest.take n)) (gt (rest.drop n) 0 0) next [fr7 1 (.own cid) next (rest.drop n) (tdW Tryz.f147 46)] O nid) = some out := by
     intro O nid m nd mp ht h1 hcid hcl hm
     obtain ⟨es,he,_⟩ := ht.map _ m g1 hm
     have hnode := ht.node _ g1
     rw [hm] at hnode
     refine via (p_m3 (LL s147) O nid 1 (.own cid) next (rest.drop n) _ m _ next _ (ht.lt' _ m g1 hm) es hnode he) ?_
     rw [wi_id (by omega) (by omega)]
     have hen := ht.enter g1 hm (by rw [<- htk]; exact hout) he next
     rw [<- htk] at hen
     have edic : dicM (met ++ [rest.take (n + 1)]) = dicM met ++ [rest.take (n + 1)] := by unfold dicM; simp
     rw [<- edic] at hen
     have hen2 := Tri.code (code' := codeM (met ++ [rest.take (n + 1)])) hen (fun s hsd => by
      rw [hn]
      by_cases es : s = rest.take (n + 1)
      ·rw [es,upd_eq]; exact codeM_new hout h2
      ·refine codeM_snoc ?_ hout h2
       rcases hsd with hsd | hsd
       ·exact .inl hsd
       ·rw [edic] at hsd
        rcases List.mem_append.1 hsd with hsd | hsd
        ·exact .inr hsd
        ·exact absurd (List.mem_singleton.1 hsd) es)
     have hnil : ([] : List Int) ≠ rest.take (n + 1) := by intro x; rw [<- x] at h2; simp at h2
     refine ih (met ++ [rest.take (n + 1)]) (rest.drop n) _ _ _ _ (.own cid) (codes ++ [(codeM met (rest.take n),9)]) _ (by omega) (by omega) hdb hen2 (by rw [upd_ne hnil]; exact h1) (.inr ⟨cid,rfl,by omega,?_⟩) (by simp; omega) (by simp; omega) (by simp; omega) (by
      have := hr
      simp only [List.append_assoc,List.cons_append,List.nil_append] at this ⊢
      exact this)
     ·rw [lk_ne ?_,lk_ne (by omega)]
      ·exact hcl
      ·intro x; rw [<- x,he] at hcl; cases hcl
    have hn1 := ht1.node _ g1
    cases hm : mp (rest.take n) with
    | some m =>
     rw [hm] at hn1
     exact via (p_m1 (LL s147) O1 nid1 1 (.own cid) next (rest.drop n) _ m _ next _ hn1) (go O1 nid1 m nd mp ht1 h1 k2 k3 hm)
    | none =>
     rw [hm] at hn1
     refine via (p_m2 (LL s147) O1 nid1 1 (.own cid) next (rest.drop n) _ _ next _ (ht1.lt _ g1) hn1) ?_
     refine go _ _ nid1 nd _ (ht1.addMap g1 hm) h1 (by omega) ?_ upd_eq
     rw [lk_ne ?_,lk_ne (by omega)]
     ·exact k3
     ·intro x; rw [<- x,hn1] at k3; cases k3
   ·have hmet : ¬ (n < rest.length ∧ met.length < 255) := fun ⟨y1,y2⟩ => q ⟨by show (0 : Int) < ((rest.drop n).length : Int); omega,by omega⟩
    rw [if_neg hmet] at hr
    refine ih met (rest.drop n) O1 nid1 nd mp (.own cid) (codes ++ [(codeM met (rest.take n),9)]) next (by omega) (by omega) hdb ht1 h1 (.inr ⟨cid,rfl,k2,k3⟩) (by simp; omega) hn hml (by
     have := hr
     simp only [List.append_assoc,List.cons_append,List.nil_append] at this ⊢
     exact this)
  rcases hc with ⟨rfl,rfl⟩ | ⟨cid,rfl,c1,c2⟩
  ·obtain ⟨s1,s2⟩ := step ((nid + 1,carr [(codeM met (rest.take n),9)]) :: (nid,carr [(codeM met (rest.take n),9)]) :: O) (nid + 2) (nid + 1) (by omega) (by omega) lk_eq (fun i a ha hi hl => by rw [lk_ne (by omega),lk_ne (by omega)]; exact hl)
   by_cases q : 0 < ln (rest.drop (n : Int).toNat) ∧ next < 512
   ·exact via (p_n3 (LL s147) O nid 1 next rest _ n _ _ hnode (by omega) hnl q.1 q.2) (s1 q.1 q.2)
   ·exact via (p_n4 (LL s147) O nid 1 next rest _ n _ _ hnode (by omega) hnl q) (s2 q)
  ·obtain ⟨s1,s2⟩ := step ((cid,carr (codes ++ [(codeM met (rest.take n),9)])) :: (nid,carr [(codeM met (rest.take n),9)]) :: (Eff.kill cid).objs O) (nid + 1) cid (by omega) (by omega) lk_eq (fun i a ha hi hl => by
    rw [lk_ne ?_,lk_ne (by omega)]
    ·exact kill_look hl (.inl ha)
    ·intro x; rw [<- x,c2] at hl; cases hl; cases ha)
   by_cases q : 0 < ln (rest.drop (n : Int).toNat) ∧ next < 512
   ·exact via (p_n1 (LL s147) O nid 1 cid next rest _ n _ _ codes hnode c2 c1 (by omega) (by omega) hnl q.1 q.2) (s1 q.1 q.2)
   ·exact via (p_n2 (LL s147) O nid 1 cid next rest _ n _ _ codes hnode c2 c1 (by omega) (by omega) hnl q) (s2 q)
theorem d147 (l out : List Int) (hb : Byt l) (h : l.length <= 200 -> r154 dd (pkGo l.length [] l ++ [(256,9)]) = some out) (h' : ¬ l.length <= 200 -> out = []) : r147 dd l = some out := by
 refine D_body rfl ((p_start (LL s147) l).trans ?_)
 by_cases e : l.length <= 200
 ·have : decide (ln l > 200) = false := decide_eq_false (by show ¬ (l.length : Int) > 200; omega)
  rw [this]
  show LL s147 (aSt l 1 0 [(1,node (-1) nilm)] 2) = some out
  refine a_loop (out := out) 256 0 _ _ (fun _ => 1) (fun _ => none) (by omega) ?_ rfl fun O nid nd mp ht h1 => ?_
  ·have emp : ∀ s,Dom (dic1 0) s -> s = [] := fun s hs => by
    rcases hs with hs | hs
    ·exact hs
    ·cases hs
   refine ⟨fun s hs => ?_,fun s m hs hm => (by cases hm),fun s hs _ b hx => (by cases hx),fun s t hs ht _ => by rw [emp s hs,emp t ht],fun s t m hs ht hm => (by cases hm),fun s hs => by omega,fun s m hs hm => (by cases hm),fun s b hx => (by cases hx),fun hx => (by cases hx)⟩
   rw [emp s hs]; rfl
  ·exact l_loop l.length [] l O nid nd mp .nilsl [] 257 (Nat.le_refl _) (by omega) hb ht h1 (.inl ⟨rfl,rfl⟩) (by simp; omega) rfl (by simp) (h e)
 ·have : decide (ln l > 200) = true := decide_eq_true (by show (l.length : Int) > 200; omega)
  rw [this,h' e]; rfl
end T
end
