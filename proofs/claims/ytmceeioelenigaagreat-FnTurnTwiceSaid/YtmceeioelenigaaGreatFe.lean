/- What PakPut reckons. -/
import Derived.Test.YtmceeioelenigaaGreatFd
section
namespace T
open Go Go.E Go.Proofs
theorem kV {O : bD} {a : AO} {i j : Nat} (h : i ≠ j) : look ((i,a) :: O) j = look O j := by
 show (bif Nat.beq i j then some a else look O j) = _
 rw [cO h]; rfl
theorem qQ {O : bD} {a : AO} {i : Nat} : look ((i,a) :: O) i = some a := by
 show (bif Nat.beq i i then some a else look O i) = _
 rw [Nat.beq_refl]; rfl
theorem Et {R : Type} {kt : CT} {k : kt.D} {v : AV} {K : List (kt.D × AV) -> Option R} : ∀ {es acc : List (kt.D × AV)},uO kt k v K acc es = K (acc ++ uf (keq kt) k v es)
 | [],acc => rfl
 | (j,u) :: es,acc => by
  show sel (keq kt k j) (K (acc ++ (k,v) :: es)) (uO kt k v K (acc ++ [(j,u)]) es) = K (acc ++ bif keq kt k j then (k,v) :: es else (j,u) :: uf (keq kt) k v es)
  cases keq kt k j with
  | true => rfl
  | false =>
   show uO kt k v K (acc ++ [(j,u)]) es = _
   rw [Et (es := es)]
   simp
theorem Eu {R : Type} {kt : CT} {k : kt.D} {z : AV} {K : AV -> Bool -> Option R} : ∀ {es : List (kt.D × AV)},xO kt k z K es = match uY (keq kt) k es with | some v => K v true | none => K z false
 | [] => rfl
 | (j,v) :: es => by
  show sel (keq kt k j) (K v true) (xO kt k z K es) = match (bif keq kt k j then some v else uY (keq kt) k es) with | some v => K v true | none => K z false
  cases keq kt k j with
  | true => rfl
  | false => exact Eu
abbrev Ro : cZ := .one (.int .u8)
abbrev bn : cZ := .cons (.int .i64) (.one (.int .i64))
noncomputable abbrev fr0 (l : List Int) : Fr := { fn := 147,tm := [(0,.ro Ro l [0])],td := nM Tryz.f147 12 }
noncomputable abbrev fr1 (l : List Int) (root : Nat) (i : Int) (td : List It) : Fr := { fn := 151,tm := [(1,.ptr root 0),(5,.int .i64 i)],td }
noncomputable abbrev YL (root : Nat) (cv : AV) (next : Int) (rest : List Int) (td : List It) : Fr := { fn := 147,tm := [(3,.ptr root 0),(4,cv),(5,.int .i64 next),(6,.ro Ro rest [0])],td }
noncomputable def aSt (l : List Int) (root : Nat) (i : Int) (O : bD) (ay : Nat) : St := { cur := fr1 l root i (jD Tryz.f151 3),callers := [fr0 l],objs := O,ay,bx := [] }
noncomputable def Qm (reg n : Nat) (b c : Int) (cs : List Fr) (O : bD) (ay : Nat) : St := { cur := { fn := 153,tm := [(0,.ptr n 0),(1,.int .u8 b),(2,.int .i64 c)],td := jD Tryz.f153 reg },callers := cs,objs := O,ay,bx := [] }
noncomputable def YM (root : Nat) (cv : AV) (next : Int) (rest : List Int) (O : bD) (ay : Nat) : St := { cur := YL root cv next rest (jD Tryz.f147 7),callers := [],objs := O,ay,bx := [] }
noncomputable def gSt (root : Nat) (cv : AV) (next : Int) (rest : List Int) (n : Nat) (i : Int) (O : bD) (ay : Nat) : St := { cur := { fn := 152,tm := [(1,.ro Ro rest [0]),(6,.ptr n 0),(11,.ro Ro rest [0]),(12,.int .i64 (ln rest)),(13,.int .i64 i)],td := jD Tryz.f152 3 },callers := [YL root cv next rest (nM Tryz.f147 20)],objs := O,ay,bx := [] }
noncomputable def nSt (root : Nat) (cv : AV) (next : Int) (rest : List Int) (n : Nat) (i : Int) (O : bD) (ay : Nat) : St := { cur := { fn := 147,tm := [(3,.ptr root 0),(4,cv),(5,.int .i64 next),(6,.ro Ro rest [0]),(7,.ptr n 0),(8,.int .i64 i)],td := jD Tryz.f147 9 },callers := [],objs := O,ay,bx := [] }
noncomputable abbrev node (x : Int) (v : AV) : AO := .box [.int .i64 x,v]
abbrev Ew : AV := .raw (.map none)
abbrev yX (es : List (Int × AV)) : AO := .map (.lit (.int .u8) es)
variable (Rt : St -> Option iM.B) (O : bD) (ay : Nat)
theorem aak (l : List Int) : body C dd 147 iM Rt l = bif decide (ln l > 200) then some [] else Rt (aSt l 1 0 [(1,node (-1) Ew)] 2) := by kernel_rfl
theorem ah4 (l : List Int) (root : Nat) (i : Int) (h : i < 256) : from_ C dd iM Rt (aSt l root i O ay) = Rt (Qm 0 root (wb i) i [fr1 l root i (nM Tryz.f151 12),fr0 l] O ay) := by
 have h : decide (i < 256) = true := decide_eq_true h
 conv => lhs; whnf; arg 2; tactic => exact h
 kernel_rfl
theorem ah5 (l : List Int) (root : Nat) (i : Int) (h : ¬ i < 256) : from_ C dd iM Rt (aSt l root i O ay) = Rt (YM root .aO 257 l O ay) := by
 have h : decide (i < 256) = false := decide_eq_false h
 conv => lhs; whnf; arg 2; tactic => exact h
 kernel_rfl
theorem ah6 (l : List Int) (root : Nat) (i : Int) (n m : Nat) (b c x : Int) (h : look O n = some (node x (.mp m))) :
  from_ C dd iM Rt (Qm 0 n b c [fr1 l root i (nM Tryz.f151 12),fr0 l] O ay) = Rt (Qm 2 n b c [fr1 l root i (nM Tryz.f151 12),fr0 l] O ay) := by
 conv => lhs; whnf; arg 2; tactic => exact h
 kernel_rfl
theorem ah7 (l : List Int) (root : Nat) (i : Int) (n : Nat) (b c x : Int) (hn : n < ay) (h : look O n = some (node x Ew)) :
  from_ C dd iM Rt (Qm 0 n b c [fr1 l root i (nM Tryz.f151 12),fr0 l] O ay) = Rt (Qm 2 n b c [fr1 l root i (nM Tryz.f151 12),fr0 l] ((n,node x (.mp ay)) :: (ay,yX []) :: O) (ay + 1)) := by
 have h2 : look ((ay,yX []) :: O) n = some (node x Ew) := by rw [kV (by omega)]; exact h
 conv => lhs; whnf; arg 2; tactic => exact h
 conv => lhs; whnf; arg 2; tactic => exact h2
 kernel_rfl
theorem ah8 (l : List Int) (root : Nat) (i : Int) (n m : Nat) (b c x : Int) (hm : m < ay) (es : List (Int × AV)) (h : look O n = some (node x (.mp m))) (h' : look O m = some (yX es)) :
  from_ C dd iM Rt (Qm 2 n b c [fr1 l root i (nM Tryz.f151 12),fr0 l] O ay) = Rt (aSt l root (wi (i + 1)) ((m,yX (uf (keq (.int .u8)) b (.ptr ay 0) es)) :: (ay,node c Ew) :: O) (ay + 1)) := by
 have h2 : look ((ay,node c Ew) :: O) m = some (yX es) := by rw [kV (by omega)]; exact h'
 conv => lhs; whnf; arg 2; tactic => exact h
 conv => lhs; whnf; arg 2; tactic => exact h2
 conv => lhs; whnf
 erw [Et]
 kernel_rfl
theorem ah9 (root : Nat) (cv : AV) (next : Int) (rest : List Int) (n m : Nat) (b c x : Int) (h : look O n = some (node x (.mp m))) :
  from_ C dd iM Rt (Qm 0 n b c [YL root cv next rest (nM Tryz.f147 46)] O ay) = Rt (Qm 2 n b c [YL root cv next rest (nM Tryz.f147 46)] O ay) := by
 conv => lhs; whnf; arg 2; tactic => exact h
 kernel_rfl
theorem aia (root : Nat) (cv : AV) (next : Int) (rest : List Int) (n : Nat) (b c x : Int) (hn : n < ay) (h : look O n = some (node x Ew)) :
  from_ C dd iM Rt (Qm 0 n b c [YL root cv next rest (nM Tryz.f147 46)] O ay) = Rt (Qm 2 n b c [YL root cv next rest (nM Tryz.f147 46)] ((n,node x (.mp ay)) :: (ay,yX []) :: O) (ay + 1)) := by
 have h2 : look ((ay,yX []) :: O) n = some (node x Ew) := by rw [kV (by omega)]; exact h
 conv => lhs; whnf; arg 2; tactic => exact h
 conv => lhs; whnf; arg 2; tactic => exact h2
 kernel_rfl
theorem aib (root : Nat) (cv : AV) (next : Int) (rest : List Int) (n m : Nat) (b c x : Int) (hm : m < ay) (es : List (Int × AV)) (h : look O n = some (node x (.mp m))) (h' : look O m = some (yX es)) :
  from_ C dd iM Rt (Qm 2 n b c [YL root cv next rest (nM Tryz.f147 46)] O ay) = Rt (YM root cv (wi (next + 1)) rest ((m,yX (uf (keq (.int .u8)) b (.ptr ay 0) es)) :: (ay,node c Ew) :: O) (ay + 1)) := by
 have h2 : look ((ay,node c Ew) :: O) m = some (yX es) := by rw [kV (by omega)]; exact h'
 conv => lhs; whnf; arg 2; tactic => exact h
 conv => lhs; whnf; arg 2; tactic => exact h2
 conv => lhs; whnf
 erw [Et]
 kernel_rfl
theorem aic (root : Nat) (cv : AV) (next : Int) (rest : List Int) (h : 0 < ln rest) : from_ C dd iM Rt (YM root cv next rest O ay) = Rt (gSt root cv next rest root 0 O ay) := by
 have h : decide (ln rest > 0) = true := decide_eq_true h
 conv => lhs; whnf; arg 2; tactic => exact h
 kernel_rfl
theorem aie (root : Nat) (cv : AV) (next : Int) (rest : List Int) (n : Nat) (i : Int) (h : ¬ i < ln rest) : from_ C dd iM Rt (gSt root cv next rest n i O ay) = Rt (nSt root cv next rest n (ln rest) O ay) := by
 have h : decide (i < ln rest) = false := decide_eq_false h
 conv => lhs; whnf; arg 2; tactic => exact h
 kernel_rfl
theorem jv {R : Type} {p : Prop} [Decidable p] {x : Option R} (h : p) : chk p x = x := if_pos h
abbrev q8 : Int -> Int -> Bool := fun a b => a == b
theorem aif (root : Nat) (cv : AV) (next : Int) (rest : List Int) (n m : Nat) (i x : Int) (es : List (Int × AV)) (h0 : 0 <= i) (h1 : i < ln rest) (h : look O n = some (node x (.mp m))) (h' : look O m = some (yX es)) (hg : uY q8 (gt rest i 0) es = none) :
  from_ C dd iM Rt (gSt root cv next rest n i O ay) = Rt (nSt root cv next rest n i O ay) := by
 have h2 : decide (i < ln rest) = true := decide_eq_true h1
 conv => lhs; whnf; arg 2; tactic => exact h2
 conv => lhs; whnf; tactic => exact jv h0
 conv => lhs; whnf; tactic => exact jv h1
 conv => lhs; whnf; arg 2; tactic => exact h
 conv => lhs; whnf; arg 2; tactic => exact h'
 conv => lhs; whnf; tactic => exact Eu
 conv => lhs; whnf; arg 2; tactic => exact hg
 kernel_rfl
theorem aii (root : Nat) (cv : AV) (next : Int) (rest : List Int) (n : Nat) (i x : Int) (h0 : 0 <= i) (h1 : i < ln rest) (h : look O n = some (node x Ew)) :
  from_ C dd iM Rt (gSt root cv next rest n i O ay) = Rt (nSt root cv next rest n i O ay) := by
 have h2 : decide (i < ln rest) = true := decide_eq_true h1
 conv => lhs; whnf; arg 2; tactic => exact h2
 conv => lhs; whnf; tactic => exact jv h0
 conv => lhs; whnf; tactic => exact jv h1
 conv => lhs; whnf; arg 2; tactic => exact h
 kernel_rfl
theorem aij (root : Nat) (cv : AV) (next : Int) (rest : List Int) (n m n' : Nat) (i x : Int) (es : List (Int × AV)) (h0 : 0 <= i) (h1 : i < ln rest) (h : look O n = some (node x (.mp m))) (h' : look O m = some (yX es)) (hg : uY q8 (gt rest i 0) es = some (.ptr n' 0)) :
  from_ C dd iM Rt (gSt root cv next rest n i O ay) = Rt (gSt root cv next rest n' (wi (i + 1)) O ay) := by
 have h2 : decide (i < ln rest) = true := decide_eq_true h1
 conv => lhs; whnf; arg 2; tactic => exact h2
 conv => lhs; whnf; tactic => exact jv h0
 conv => lhs; whnf; tactic => exact jv h1
 conv => lhs; whnf; arg 2; tactic => exact h
 conv => lhs; whnf; arg 2; tactic => exact h'
 conv => lhs; whnf; tactic => exact Eu
 conv => lhs; whnf; arg 2; tactic => exact hg
 kernel_rfl
abbrev ni (codes : List (Int × Int)) : AO := .arr bn codes true
theorem aik (root qR : Nat) (next : Int) (rest : List Int) (n : Nat) (i x : Int) (v : AV) (codes : List (Int × Int)) (h : look O n = some (node x v)) (hc : look O qR = some (ni codes)) (acX : qR < ay) (hl : codes.length <= 1000) (h0 : 0 <= i) (h1 : i <= ln rest) (h2 : 0 < ln (rest.drop i.toNat)) (h3 : next < 512) :
  from_ C dd iM Rt (nSt root (.own qR) next rest n i O ay) = Rt (Qm 0 n (gt (rest.drop i.toNat) 0 0) next [YL root (.own qR) next (rest.drop i.toNat) (nM Tryz.f147 46)] ((qR,ni (codes ++ [(x,9)])) :: (ay,ni [(x,9)]) :: (Eff.kill qR).objs O) (ay + 1)) := by
 have h4 : look ((ay,ni [(x,9)]) :: O) qR = some (ni codes) := by rw [kV (by omega)]; exact hc
 have h5 : decide (ln (rest.drop i.toNat) > 0) = true := decide_eq_true h2
 have h6 : decide (next < 512) = true := decide_eq_true h3
 have hq : (codes.length + [(x,(9 : Int))].length) * 16 <= 140737488355328 := by simp; omega
 conv => lhs; whnf; arg 2; tactic => exact h
 conv => lhs; whnf; arg 3; whnf; arg 2; whnf; arg 2; tactic => exact qQ (O := O) (i := ay) (a := ni [(x,9)])
 conv => lhs; whnf; arg 2; tactic => exact h4
 conv => lhs; whnf; tactic => exact jv hq
 conv => lhs; whnf; tactic => exact jv h0
 conv => lhs; whnf; tactic => exact jv h1
 conv => lhs; whnf; arg 2; tactic => exact h5
 conv => lhs; whnf; arg 2; tactic => exact h6
 conv => lhs; whnf; tactic => exact jv h2
 kernel_rfl
theorem ail (root qR : Nat) (next : Int) (rest : List Int) (n : Nat) (i x : Int) (v : AV) (codes : List (Int × Int)) (h : look O n = some (node x v)) (hc : look O qR = some (ni codes)) (acX : qR < ay) (hl : codes.length <= 1000) (h0 : 0 <= i) (h1 : i <= ln rest) (h2 : ¬ (0 < ln (rest.drop i.toNat) ∧ next < 512)) :
  from_ C dd iM Rt (nSt root (.own qR) next rest n i O ay) = Rt (YM root (.own qR) next (rest.drop i.toNat) ((qR,ni (codes ++ [(x,9)])) :: (ay,ni [(x,9)]) :: (Eff.kill qR).objs O) (ay + 1)) := by
 have h4 : look ((ay,ni [(x,9)]) :: O) qR = some (ni codes) := by rw [kV (by omega)]; exact hc
 have hq : (codes.length + [(x,(9 : Int))].length) * 16 <= 140737488355328 := by simp; omega
 conv => lhs; whnf; arg 2; tactic => exact h
 conv => lhs; whnf; arg 3; whnf; arg 2; whnf; arg 2; tactic => exact qQ (O := O) (i := ay) (a := ni [(x,9)])
 conv => lhs; whnf; arg 2; tactic => exact h4
 conv => lhs; whnf; tactic => exact jv hq
 conv => lhs; whnf; tactic => exact jv h0
 conv => lhs; whnf; tactic => exact jv h1
 by_cases h5 : 0 < ln (rest.drop i.toNat)
 ·have h6 : decide (next < 512) = false := decide_eq_false fun x => h2 ⟨h5,x⟩
  have h5 : decide (ln (rest.drop i.toNat) > 0) = true := decide_eq_true h5
  conv => lhs; whnf; arg 2; tactic => exact h5
  conv => lhs; whnf; arg 2; tactic => exact h6
  kernel_rfl
 ·have h5 : decide (ln (rest.drop i.toNat) > 0) = false := decide_eq_false h5
  conv => lhs; whnf; arg 2; tactic => exact h5
  kernel_rfl
theorem ain (root : Nat) (next : Int) (rest : List Int) (n : Nat) (i x : Int) (v : AV) (h : look O n = some (node x v)) (h0 : 0 <= i) (h1 : i <= ln rest) (h2 : 0 < ln (rest.drop i.toNat)) (h3 : next < 512) :
  from_ C dd iM Rt (nSt root .aO next rest n i O ay) = Rt (Qm 0 n (gt (rest.drop i.toNat) 0 0) next [YL root (.own (ay + 1)) next (rest.drop i.toNat) (nM Tryz.f147 46)] ((ay + 1,ni [(x,9)]) :: (ay,ni [(x,9)]) :: O) (ay + 2)) := by
 have h5 : decide (ln (rest.drop i.toNat) > 0) = true := decide_eq_true h2
 have h6 : decide (next < 512) = true := decide_eq_true h3
 conv => lhs; whnf; arg 2; tactic => exact h
 conv => lhs; whnf; arg 3; whnf; arg 2; whnf; arg 2; tactic => exact qQ (O := O) (i := ay) (a := ni [(x,9)])
 conv => lhs; whnf; tactic => exact jv h0
 conv => lhs; whnf; tactic => exact jv h1
 conv => lhs; whnf; arg 2; tactic => exact h5
 conv => lhs; whnf; arg 2; tactic => exact h6
 conv => lhs; whnf; tactic => exact jv h2
 kernel_rfl
theorem aio (root : Nat) (next : Int) (rest : List Int) (n : Nat) (i x : Int) (v : AV) (h : look O n = some (node x v)) (h0 : 0 <= i) (h1 : i <= ln rest) (h2 : ¬ (0 < ln (rest.drop i.toNat) ∧ next < 512)) :
  from_ C dd iM Rt (nSt root .aO next rest n i O ay) = Rt (YM root (.own (ay + 1)) next (rest.drop i.toNat) ((ay + 1,ni [(x,9)]) :: (ay,ni [(x,9)]) :: O) (ay + 2)) := by
 conv => lhs; whnf; arg 2; tactic => exact h
 conv => lhs; whnf; arg 3; whnf; arg 2; whnf; arg 2; tactic => exact qQ (O := O) (i := ay) (a := ni [(x,9)])
 conv => lhs; whnf; tactic => exact jv h0
 conv => lhs; whnf; tactic => exact jv h1
 by_cases h5 : 0 < ln (rest.drop i.toNat)
 ·have h6 : decide (next < 512) = false := decide_eq_false fun x => h2 ⟨h5,x⟩
  have h5 : decide (ln (rest.drop i.toNat) > 0) = true := decide_eq_true h5
  conv => lhs; whnf; arg 2; tactic => exact h5
  conv => lhs; whnf; arg 2; tactic => exact h6
  kernel_rfl
 ·have h5 : decide (ln (rest.drop i.toNat) > 0) = false := decide_eq_false h5
  conv => lhs; whnf; arg 2; tactic => exact h5
  kernel_rfl
theorem aal (codes : List (Int × Int)) : jX bn bn codes = some codes := rfl
theorem aam (l : List Int) : jX Ro Ro l = some l := rfl
theorem KJ {O : bD} {id : Nat} {codes : List (Int × Int)} (h : look O id = some (ni codes)) : getArgs O RI.ps [.own id] = some (codes,[],[],[id],[]) := by
 have h1 : CT.je O (.sl bn) (.own id) = some codes := by
  conv => lhs; whnf; arg 2; tactic => exact h
  exact aal codes
 show getArg O ⟨.one (.sl bn),[.ro]⟩ (.own id) = _
 unfold getArg
 conv => lhs; whnf; arg 3; tactic => exact h1
 rfl
theorem PO {O : bD} {id : Nat} {out : List Int} (h : look O id = some (.arr Ro out true)) : sO O iM.rs [.own id] = some (out,[id],[]) := by
 have h1 : CT.je O (.sl Ro) (.own id) = some out := by
  conv => lhs; whnf; arg 2; tactic => exact h
  exact aam out
 show sN O ⟨.one (.sl Ro),[.mv]⟩ (.own id) = _
 unfold sN
 conv => lhs; whnf; arg 3; tactic => exact h1
 rfl
theorem aip (root : Nat) (next : Int) (out : List Int) (hr : Vh dd [(256,9)] = some out) : from_ C dd iM Rt (YM root .aO next [] O ay) = some out := by
 conv => lhs; whnf; arg 3; whnf; arg 2; whnf; arg 2; tactic => exact qQ (O := O) (i := ay) (a := ni [(256,9)])
 conv => lhs; whnf; arg 3; tactic => exact KJ (codes := [(256,9)]) qQ
 conv => lhs; whnf; arg 2; tactic => exact hr
 conv => lhs; whnf; arg 3; tactic => exact PO (out := out) qQ
 kernel_rfl
theorem aiq (root qR : Nat) (next : Int) (codes : List (Int × Int)) (hc : look O qR = some (ni codes)) (acX : qR < ay) (hl : codes.length <= 1000) (out : List Int) (hr : Vh dd (codes ++ [(256,9)]) = some out) : from_ C dd iM Rt (YM root (.own qR) next [] O ay) = some out := by
 have h4 : look ((ay,ni [(256,9)]) :: O) qR = some (ni codes) := by rw [kV (by omega)]; exact hc
 have hq : (codes.length + [((256 : Int),(9 : Int))].length) * 16 <= 140737488355328 := by simp; omega
 conv => lhs; whnf; arg 3; whnf; arg 2; whnf; arg 2; tactic => exact qQ (O := O) (i := ay) (a := ni [(256,9)])
 conv => lhs; whnf; arg 2; tactic => exact h4
 conv => lhs; whnf; tactic => exact jv hq
 conv => lhs; whnf; arg 3; tactic => exact KJ (codes := codes ++ [((256 : Int),(9 : Int))]) qQ
 conv => lhs; whnf; arg 2; tactic => exact hr
 conv => lhs; whnf; arg 3; tactic => exact PO (out := out) qQ
 kernel_rfl
end T
end
section
namespace T
open Go Go.E Go.Proofs
def mv : Option Nat -> AV
 | none => Ew
 | some m => .mp m
def Dom (nY : List (List Int)) (s : List Int) : Prop := s = [] ∨ s ∈ nY
instance (nY : List (List Int)) (s : List Int) : Decidable (Dom nY s) := inferInstanceAs (Decidable (s = [] ∨ s ∈ nY))
structure Nl (O : bD) (ay : Nat) (nY : List (List Int)) (code : List Int -> Int) (nd : List Int -> Nat) (mp : List Int -> Option Nat) : Prop where
 node : ∀ s,Dom nY s -> look O (nd s) = some (node (code s) (mv (mp s)))
 map : ∀ s m,Dom nY s -> mp s = some m -> ∃ es,look O m = some (yX es) ∧ ∀ b,uY q8 b es = if s ++ [b] ∈ nY then some (.ptr (nd (s ++ [b])) 0) else none
 nil : ∀ s,Dom nY s -> mp s = none -> ∀ b,s ++ [b] ∉ nY
 inj : ∀ s t,Dom nY s -> Dom nY t -> nd s = nd t -> s = t
 Vk : ∀ s t m,Dom nY s -> Dom nY t -> mp s = some m -> mp t = some m -> s = t
 lt : ∀ s,Dom nY s -> nd s < ay
 lt' : ∀ s m,Dom nY s -> mp s = some m -> m < ay
 pre : ∀ s b,s ++ [b] ∈ nY -> Dom nY s
 emp : [] ∉ nY
inductive YN : AO -> Prop
 | node (x : Int) (o : Option Nat) : YN (node x (mv o))
 | map (es : List (Int × AV)) : YN (yX es)
theorem Nl.mono {O O' : bD} {ay fF : Nat} {nY : List (List Int)} {code : List Int -> Int} {nd : List Int -> Nat} {mp : List Int -> Option Nat} (h : Nl O ay nY code nd mp) (hn : ay <= fF) (hl : ∀ i a,YN a -> i < ay -> look O i = some a -> look O' i = some a) : Nl O' fF nY code nd mp where
 node := fun s hs => hl _ _ (.node _ _) (h.lt s hs) (h.node s hs)
 map := fun s m hs hm => by
  obtain ⟨es,h1,h2⟩ := h.map s m hs hm
  exact ⟨es,hl _ _ (.map es) (h.lt' s m hs hm) h1,h2⟩
 nil := h.nil
 inj := h.inj
 Vk := h.Vk
 lt := fun s hs => Nat.lt_of_lt_of_le (h.lt s hs) hn
 lt' := fun s m hs hm => Nat.lt_of_lt_of_le (h.lt' s m hs hm) hn
 pre := h.pre
 emp := h.emp
theorem Nl.code {O : bD} {ay : Nat} {nY : List (List Int)} {code code' : List Int -> Int} {nd : List Int -> Nat} {mp : List Int -> Option Nat} (h : Nl O ay nY code nd mp) (hc : ∀ s,Dom nY s -> code' s = code s) : Nl O ay nY code' nd mp :=
 { h with node := fun s hs => by rw [hc s hs]; exact h.node s hs }
def upd {α : Type} (f : List Int -> α) (t : List Int) (x : α) : List Int -> α := fun s => if s = t then x else f s
theorem eu {α : Type} {f : List Int -> α} {t : List Int} {x : α} : upd f t x t = x := if_pos rfl
theorem upd_ne {α : Type} {f : List Int -> α} {t s : List Int} {x : α} (h : s ≠ t) : upd f t x s = f s := if_neg h
section
variable {O : bD} {ay : Nat} {nY : List (List Int)} {code : List Int -> Int} {nd : List Int -> Nat} {mp : List Int -> Option Nat}
theorem Nl.YO (h : Nl O ay nY code nd mp) {s : List Int} (hs : Dom nY s) (hm : mp s = none) : Nl ((nd s,T.node (code s) (.mp ay)) :: (ay,yX []) :: O) (ay + 1) nY code nd (upd mp s (some ay)) where
 node := fun t ht => by
  by_cases e : t = s
  ·subst e
   rw [eu,qQ]; rfl
  ·rw [upd_ne e,kV (fun x => e (h.inj _ _ ht hs x.symm)),kV (by have := h.lt t ht; omega)]
   exact h.node t ht
 map := fun t m ht hm' => by
  by_cases e : t = s
  ·subst e
   rw [eu] at hm'; cases hm'
   refine ⟨[],?_,fun b => ?_⟩
   ·rw [kV (by have := h.lt t hs; omega),qQ]
   ·rw [if_neg (h.nil t hs hm b)]; rfl
  ·rw [upd_ne e] at hm'
   obtain ⟨es,h1,h2⟩ := h.map t m ht hm'
   have h3 := h.lt' t m ht hm'
   refine ⟨es,?_,h2⟩
   rw [kV ?_,kV (by omega)]
   ·exact h1
   ·intro x
    have := h.node s hs
    rw [x,h1] at this
    cases this
 nil := fun t ht hm' => by
  by_cases e : t = s
  ·subst e; rw [eu] at hm'; cases hm'
  ·rw [upd_ne e] at hm'; exact h.nil t ht hm'
 inj := h.inj
 Vk := fun t u m ht hu h1 h2 => by
  by_cases e : t = s
  ·subst e
   rw [eu] at h1; cases h1
   by_cases e' : u = t
   ·exact e'.symm
   ·rw [upd_ne e'] at h2
    have := h.lt' u _ hu h2
    omega
  ·rw [upd_ne e] at h1
   by_cases e' : u = s
   ·subst e'
    rw [eu] at h2; cases h2
    have := h.lt' t _ ht h1
    omega
   ·rw [upd_ne e'] at h2
    exact h.Vk t u m ht hu h1 h2
 lt := fun t ht => Nat.lt_succ_of_lt (h.lt t ht)
 lt' := fun t m ht hm' => by
  by_cases e : t = s
  ·subst e; rw [eu] at hm'; cases hm'; exact Nat.lt_succ_self _
  ·rw [upd_ne e] at hm'; exact Nat.lt_succ_of_lt (h.lt' t m ht hm')
 pre := h.pre
 emp := h.emp
theorem KL {b b' : Int} {v : AV} : ∀ {es : List (Int × AV)},uY q8 b' (uf q8 b v es) = if b' = b then some v else uY q8 b' es
 | [] => by
  show (bif b' == b then some v else none) = if b' = b then some v else none
  by_cases e : b' = b
  ·simp [e]
  ·rw [if_neg e,show (b' == b) = false by simpa using e]; rfl
 | (j,u) :: es => by
  have h1 : uf q8 b v ((j,u) :: es) = bif b == j then (b,v) :: es else (j,u) :: uf q8 b v es := rfl
  have h2 : ∀ x,uY q8 x ((j,u) :: es) = bif x == j then some u else uY q8 x es := fun _ => rfl
  rw [h1]
  by_cases e : b = j
  ·subst e
   rw [h2,beq_self_eq_true,cond_true]
   show (bif b' == b then some v else uY q8 b' es) = _
   by_cases e' : b' = b
   ·simp [e']
   ·rw [if_neg e',show (b' == b) = false by simpa using e']; rfl
  ·have : (b == j) = false := by simpa using e
   rw [this,cond_false,h2]
   show (bif b' == j then some u else uY q8 b' (uf q8 b v es)) = _
   rw [KL]
   by_cases e' : b' = j
   ·subst e'
    have : ¬ b' = b := fun x => e x.symm
    simp [this]
   ·have : (b' == j) = false := by simpa using e'
    rw [this]; rfl
theorem Dk {s t : List Int} {b c : Int} (h : s ++ [b] = t ++ [c]) : s = t ∧ b = c := by
 have := List.append_inj' h rfl
 exact ⟨this.1,by simpa using this.2⟩
theorem Nl.enter (h : Nl O ay nY code nd mp) {s : List Int} {b : Int} (hs : Dom nY s) {m : Nat} (hm : mp s = some m) (ht : s ++ [b] ∉ nY) {es : List (Int × AV)} (hes : look O m = some (yX es)) (c : Int) :
  Nl ((m,yX (uf q8 b (.ptr ay 0) es)) :: (ay,T.node c Ew) :: O) (ay + 1) (nY ++ [s ++ [b]]) (upd code (s ++ [b]) c) (upd nd (s ++ [b]) ay) (upd mp (s ++ [b]) none) := by
 have hne : ∀ u,Dom nY u -> u ≠ s ++ [b] := fun u hu e => by
  rcases hu with hu | hu
  ·rw [hu] at e; simp at e
  ·exact ht (e ▸ hu)
 have hd : ∀ u,Dom (nY ++ [s ++ [b]]) u -> u = s ++ [b] ∨ Dom nY u := fun u hu => by
  rcases hu with hu | hu
  ·exact .inr (.inl hu)
  ·rcases List.mem_append.1 hu with q | q
   ·exact .inr (.inr q)
   ·exact .inl (by simpa using q)
 have al9 := h.lt' s m hs hm
 obtain ⟨es',he1,he2⟩ := h.map s m hs hm
 rw [hes] at he1
 have : es' = es := by cases he1; rfl
 subst this
 refine ⟨fun u hu => ?_,fun u m' hu hm' => ?_,fun u hu hm' x => ?_,fun u v hu hv e => ?_,fun u v m' hu hv h1 h2 => ?_,fun u hu => ?_,fun u m' hu hm' => ?_,fun u x hx => ?_,?_⟩
 ·rcases hd u hu with rfl | hu
  ·rw [eu,eu,eu,kV (by omega),qQ]; rfl
  ·have hl := h.lt u hu
   have hn := h.node u hu
   rw [upd_ne (hne u hu),upd_ne (hne u hu),upd_ne (hne u hu),kV ?_,kV (by omega)]
   ·exact hn
   ·intro e; rw [<- e,hes] at hn; cases hn
 ·rcases hd u hu with rfl | hu
  ·rw [eu] at hm'; cases hm'
  ·rw [upd_ne (hne u hu)] at hm'
   by_cases e : u = s
   ·subst e
    rw [hm] at hm'; cases hm'
    refine ⟨_,qQ,fun x => ?_⟩
    rw [KL]
    by_cases ex : x = b
    ·subst ex
     rw [if_pos rfl,if_pos (by simp),eu]
    ·have hx : u ++ [x] ≠ u ++ [b] := fun q => ex (Dk q).2
     rw [if_neg ex,he2,upd_ne hx]
     by_cases q : u ++ [x] ∈ nY
     ·rw [if_pos q,if_pos (by simp [q])]
     ·rw [if_neg q,if_neg (by simp [q,ex])]
   ·obtain ⟨es2,h1,h2⟩ := h.map u m' hu hm'
    have hl := h.lt' u m' hu hm'
    refine ⟨es2,?_,fun x => ?_⟩
    ·rw [kV (fun q => e (h.Vk u s m hu hs (by rw [q]; exact hm') hm)),kV (by omega)]
     exact h1
    ·have hx : u ++ [x] ≠ s ++ [b] := fun q => e (Dk q).1
     rw [h2,upd_ne hx]
     by_cases q : u ++ [x] ∈ nY
     ·rw [if_pos q,if_pos (by simp [q])]
     ·rw [if_neg q,if_neg (by
       intro y
       rcases List.mem_append.1 y with y | y
       ·exact q y
       ·exact hx (by simpa using y))]
 ·rcases hd u hu with rfl | hu
  ·intro hx
   rcases List.mem_append.1 hx with hx | hx
   ·have := h.pre _ _ hx
    rcases this with q | q
    ·simp at q
    ·exact ht q
   ·have := congrArg List.length (show s ++ [b] ++ [x] = s ++ [b] from List.mem_singleton.1 hx)
    simp at this
  ·rw [upd_ne (hne u hu)] at hm'
   intro hx
   rcases List.mem_append.1 hx with hx | hx
   ·exact h.nil u hu hm' x hx
   ·have : u ++ [x] = s ++ [b] := by simpa using hx
    have := (Dk this).1
    subst this
    rw [hm] at hm'; cases hm'
 ·rcases hd u hu with e1 | hu <;> rcases hd v hv with e2 | hv
  ·rw [e1,e2]
  ·rw [e1,eu,upd_ne (hne v hv)] at e
   have := h.lt v hv; omega
  ·rw [e2,eu,upd_ne (hne u hu)] at e
   have := h.lt u hu; omega
  ·rw [upd_ne (hne u hu),upd_ne (hne v hv)] at e
   exact h.inj u v hu hv e
 ·rcases hd u hu with e1 | hu
  ·rw [e1,eu] at h1; cases h1
  ·rcases hd v hv with e2 | hv
   ·rw [e2,eu] at h2; cases h2
   ·rw [upd_ne (hne u hu)] at h1
    rw [upd_ne (hne v hv)] at h2
    exact h.Vk u v m' hu hv h1 h2
 ·rcases hd u hu with rfl | hu
  ·rw [eu]; omega
  ·rw [upd_ne (hne u hu)]
   have := h.lt u hu; omega
 ·rcases hd u hu with rfl | hu
  ·rw [eu] at hm'; cases hm'
  ·rw [upd_ne (hne u hu)] at hm'
   have := h.lt' u m' hu hm'; omega
 ·rcases List.mem_append.1 hx with hx | hx
  ·rcases h.pre u x hx with q | q
   ·exact .inl q
   ·exact .inr (List.mem_append.2 (.inl q))
  ·have : u ++ [x] = s ++ [b] := by simpa using hx
   have := (Dk this).1
   subst this
   rcases hs with q | q
   ·exact .inl q
   ·exact .inr (List.mem_append.2 (.inl q))
 ·intro hx
  rcases List.mem_append.1 hx with hx | hx
  ·exact h.emp hx
  ·simp at hx
end
end T
end
section
namespace T
open Go Go.E Go.Proofs
theorem aK {x : Int} (h0 : -9223372036854775808 <= x) (h1 : x <= 9223372036854775807) : wi x = x := by
 unfold wi IntKind.wrap
 simp only [IntKind.bits,IntKind.signed,Bool.true_and]
 split
 ·rename_i h; have := of_decide_eq_true h; omega
 ·rename_i h; have : ¬ (x % 2 ^ 64 ≥ 2 ^ (64 - 1)) := fun y => h (decide_eq_true y); omega
theorem jT {x : Int} (h0 : 0 <= x) (h1 : x < 256) : wb x = x := by
 unfold wb IntKind.wrap
 simp only [IntKind.bits,IntKind.signed,Bool.false_and,Bool.false_eq_true,if_false]
 omega
theorem via {s : fM} {st st' : St} {r : s.B} (h : from_ C dd s (LL s) st = LL s st') (k : LL s st' = some r) : LL s st = some r := LZ (h.trans k)
def Ey (n : Nat) : List (List Int) := (List.range n).map fun b : Nat => [(b : Int)]
theorem qE {n : Nat} {s : List Int} : s ∈ Ey n ↔ ∃ b : Nat,b < n ∧ s = [(b : Int)] := by
 unfold Ey
 simp only [List.mem_map,List.mem_range]
 constructor
 ·rintro ⟨b,h,e⟩; exact ⟨b,h,e.symm⟩
 ·rintro ⟨b,h,e⟩; exact ⟨b,h,e.symm⟩
theorem Vl (n : Nat) : Ey (n + 1) = Ey n ++ [[] ++ [(n : Int)]] := by
 unfold Ey; rw [List.range_succ,List.map_append]; rfl
def jC (met : List (List Int)) : List (List Int) := Ey 256 ++ met
def iE (met : List (List Int)) (s : List Int) : Int := if s.length <= 1 then (if s = [] then -1 else s.headD 0) else 257 + (met.idxOf s : Int)
section
variable {l : List Int} {out : List Int}
theorem acY (k : Nat) : ∀ (i : Nat) (O : bD) (ay : Nat) (nd : List Int -> Nat) (mp : List Int -> Option Nat),i + k = 256 -> Nl O ay (Ey i) (iE []) nd mp -> nd [] = 1 ->
  (∀ O ay nd mp,Nl O ay (jC []) (iE []) nd mp -> nd [] = 1 -> LL iM (YM 1 .aO 257 l O ay) = some out) -> LL iM (aSt l 1 i O ay) = some out := by
 induction k with
 | zero =>
  intro i O ay nd mp hi ht h1 hk
  have hi : i = 256 := by omega
  subst hi
  refine via (ah5 (LL iM) O ay l 1 _ (by decide)) (hk O ay nd mp ?_ h1)
  unfold jC
  rw [List.append_nil]; exact ht
 | succ k ih =>
  intro i O ay nd mp hi ht h1 hk
  have hlt : (i : Int) < 256 := by omega
  refine via (ah4 (LL iM) O ay l 1 _ hlt) ?_
  rw [jT (by omega) hlt]
  have hs : Dom (Ey i) [] := .inl rfl
  have mg := ht.node [] hs
  rw [h1] at mg
  have hout : ([] : List Int) ++ [(i : Int)] ∉ Ey i := by
   rw [qE]
   rintro ⟨b,hb,e⟩
   simp at e; omega
  have go : ∀ (O : bD) (ay m : Nat) (nd : List Int -> Nat) (mp : List Int -> Option Nat),Nl O ay (Ey i) (iE []) nd mp -> nd [] = 1 -> mp [] = some m ->
    LL iM (Qm 2 1 (i : Int) (i : Int) [fr1 l 1 i (nM Tryz.f151 12),fr0 l] O ay) = some out := by
   intro O ay m nd mp ht h1 hm
   obtain ⟨es,he,_⟩ := ht.map [] m hs hm
   have mg := ht.node [] hs
   rw [h1,hm] at mg
   refine via (ah8 (LL iM) O ay l 1 i 1 m i i _ (ht.lt' [] m hs hm) es mg he) ?_
   rw [aK (by omega) (by omega)]
   have := ht.enter hs hm hout he (i : Int)
   rw [<- Vl] at this
   refine ih (i + 1) _ _ _ _ (by omega) (this.code fun s hsd => ?_) (by rw [upd_ne (by simp)]; exact h1) hk
   by_cases e : s = [] ++ [(i : Int)]
   ·rw [e,eu]; rfl
   ·rw [upd_ne e]
  cases hm : mp [] with
  | some m =>
   rw [hm] at mg
   exact via (ah6 (LL iM) O ay l 1 i 1 m i i _ mg) (go O ay m nd mp ht h1 hm)
  | none =>
   rw [hm] at mg
   refine via (ah7 (LL iM) O ay l 1 i 1 i i _ (by have := ht.lt [] hs; omega) mg) ?_
   have := ht.YO hs hm
   rw [h1] at this
   exact go _ _ ay nd _ this h1 eu
end
def xI (nY : List (List Int)) (rest : List Int) : Nat -> Nat -> Nat
 | 0,i => i
 | k + 1,i => if rest.take (i + 1) ∈ nY then xI nY rest k (i + 1) else i
theorem take_snoc {l : List Int} {i : Nat} (h : i < l.length) : l.take (i + 1) = l.take i ++ [gt l (i : Int) 0] := by
 unfold gt
 rw [List.take_add_one,List.getElem?_eq_getElem h]
 simp [h]
theorem Gm {nY : List (List Int)} {rest : List Int} : ∀ (k i : Nat),i + k = rest.length -> Dom nY (rest.take i) -> Dom nY (rest.take (xI nY rest k i)) ∧ xI nY rest k i <= rest.length ∧ i <= xI nY rest k i ∧ (xI nY rest k i < rest.length -> rest.take (xI nY rest k i + 1) ∉ nY)
 | 0,i,h,hd => ⟨hd,by unfold xI; omega,Nat.le_refl _,fun x => by unfold xI at x; omega⟩
 | k + 1,i,h,hd => by
  unfold xI
  by_cases e : rest.take (i + 1) ∈ nY
  ·rw [if_pos e]
   obtain ⟨h1,h2,h3,h4⟩ := Gm k (i + 1) (by omega) (.inr e)
   exact ⟨h1,h2,by omega,h4⟩
  ·rw [if_neg e]
   exact ⟨hd,by omega,Nat.le_refl _,fun _ => e⟩
theorem YP {O : bD} {ay : Nat} {nY : List (List Int)} {code : List Int -> Int} {nd : List Int -> Nat} {mp : List Int -> Option Nat} (ht : Nl O ay nY code nd mp) {root : Nat} {cv : AV} {next : Int} {rest out : List Int} (hr : rest.length <= 1000) : ∀ (k i : Nat),i + k = rest.length -> Dom nY (rest.take i) ->
  LL iM (nSt root cv next rest (nd (rest.take (xI nY rest k i))) (xI nY rest k i : Nat) O ay) = some out -> LL iM (gSt root cv next rest (nd (rest.take i)) i O ay) = some out
 | 0,i,h,hd,hk => by
  refine via (aie (LL iM) O ay root cv next rest _ i (by show ¬ (i : Int) < (rest.length : Int); omega)) ?_
  have : ln rest = ((xI nY rest 0 i : Nat) : Int) := by unfold xI; show (rest.length : Int) = i; omega
  rw [this]; exact hk
 | k + 1,i,h,hd,hk => by
  have hi : i < rest.length := by omega
  have hlt : (i : Int) < ln rest := by show (i : Int) < (rest.length : Int); omega
  unfold xI at hk
  rw [take_snoc hi] at hk
  have mg := ht.node _ hd
  cases hm : mp (rest.take i) with
  | none =>
   have := ht.nil _ hd hm (gt rest (i : Int) 0)
   rw [if_neg this] at hk
   rw [hm] at mg
   exact via (aii (LL iM) O ay root cv next rest _ i _ (by omega) hlt mg) hk
  | some m =>
   obtain ⟨es,he,hg⟩ := ht.map _ m hd hm
   have hg := hg (gt rest (i : Int) 0)
   rw [hm] at mg
   by_cases e : rest.take i ++ [gt rest (i : Int) 0] ∈ nY
   ·rw [if_pos e] at hk hg
    refine via (aij (LL iM) O ay root cv next rest _ m _ i _ es (by omega) hlt mg he hg) ?_
    rw [aK (by omega) (by omega)]
    have := YP ht hr (root := root) (cv := cv) (next := next) (out := out) k (i + 1) (by omega) (by rw [take_snoc hi]; exact .inr e) hk
    rw [take_snoc hi] at this
    exact this
   ·rw [if_neg e] at hk hg
    exact via (aif (LL iM) O ay root cv next rest _ m i _ es (by omega) hlt mg he hg) hk
end T
end
section
namespace T
open Go Go.E Go.Proofs
def qL : Nat -> List (List Int) -> List Int -> List (Int × Int)
 | 0,_,_ => []
 | f + 1,met,rest => if rest = [] then [] else
  (iE met (rest.take (xI (jC met) rest rest.length 0)),9) ::
   qL f (if xI (jC met) rest rest.length 0 < rest.length ∧ met.length < 255 then met ++ [rest.take (xI (jC met) rest rest.length 0 + 1)] else met) (rest.drop (xI (jC met) rest rest.length 0))
def gQ (l : List Int) : Prop := ∀ b ∈ l,0 <= b ∧ b < 256
def Cv (O : bD) (ay : Nat) (cv : AV) (codes : List (Int × Int)) : Prop := (cv = .aO ∧ codes = []) ∨ ∃ qR,cv = .own qR ∧ qR < ay ∧ look O qR = some (ni codes)
theorem Vm {O : bD} {qR i : Nat} {a : AO} (h : look O i = some a) (ha : YN a ∨ ∃ codes,a = ni codes) : look ((Eff.kill qR).objs O) i = some a := by
 rw [rP,h]
 rcases ha with ha | ⟨codes,rfl⟩
 ·cases ha with
  | node x o => cases o <;> rfl
  | map es => rfl
 ·rfl
theorem RS {met : List (List Int)} {t s : List Int} (hs : Dom (jC met) s) (ht : t ∉ jC met) (hl : 2 <= t.length) : iE (met ++ [t]) s = upd (iE met) t (257 + (met.length : Int)) s := by
 have hst : s ≠ t := fun e => by
  rcases hs with hs | hs
  ·rw [<- e,hs] at hl; simp at hl
  ·exact ht (e ▸ hs)
 rw [upd_ne hst]
 unfold iE
 by_cases e : s.length <= 1
 ·rw [if_pos e,if_pos e]
 ·rw [if_neg e,if_neg e]
  have hm : s ∈ met := by
   rcases hs with hs | hs
   ·rw [hs] at e; simp at e
   ·rcases List.mem_append.1 hs with hs | hs
    ·obtain ⟨b,_,e'⟩ := qE.1 hs
     rw [e'] at e; simp at e
    ·exact hs
  rw [List.idxOf_append,if_pos hm]
theorem Vo {met : List (List Int)} {t : List Int} (ht : t ∉ jC met) (hl : 2 <= t.length) : iE (met ++ [t]) t = 257 + (met.length : Int) := by
 unfold iE
 rw [if_neg (by omega)]
 have hm : t ∉ met := fun h => ht (List.mem_append.2 (.inr h))
 rw [List.idxOf_append,if_neg hm]
 simp
theorem acZ {out : List Int} : ∀ (f : Nat) (met : List (List Int)) (rest : List Int) (O : bD) (ay : Nat) (nd : List Int -> Nat) (mp : List Int -> Option Nat) (cv : AV) (codes : List (Int × Int)) (next : Int),rest.length <= f -> rest.length <= 1000 -> gQ rest -> Nl O ay (jC met) (iE met) nd mp -> nd [] = 1 -> Cv O ay cv codes -> codes.length + f <= 999 ->
  next = 257 + (met.length : Int) -> met.length <= 255 -> Vh dd (codes ++ qL f met rest ++ [(256,9)]) = some out -> LL iM (YM 1 cv next rest O ay) = some out := by
 intro f
 have fin : ∀ (O : bD) (ay : Nat) (cv : AV) (codes : List (Int × Int)) (next : Int),Cv O ay cv codes -> codes.length <= 1000 -> Vh dd (codes ++ [(256,9)]) = some out -> LL iM (YM 1 cv next [] O ay) = some out := by
  intro O ay cv codes next hc hl hr
  rcases hc with ⟨rfl,rfl⟩ | ⟨qR,rfl,h1,h2⟩
  ·exact LZ (aip (LL iM) O ay 1 next out hr)
  ·exact LZ (aiq (LL iM) O ay 1 qR next codes h2 h1 hl out hr)
 induction f with
 | zero =>
  intro met rest O ay nd mp cv codes next hf _ _ _ _ hc hl _ _ hr
  have : rest = [] := List.eq_nil_of_length_eq_zero (by omega)
  subst this
  exact fin O ay cv codes next hc (by omega) (by unfold qL at hr; simpa using hr)
 | succ f ih =>
  intro met rest O ay nd mp cv codes next hf hr1 hb ht h1 hc hl hn hml hr
  unfold qL at hr
  by_cases e : rest = []
  ·subst e
   exact fin O ay cv codes next hc (by omega) (by simpa using hr)
  rw [if_neg e] at hr
  have hpos : 0 < rest.length := List.length_pos_iff.2 e
  have hd0 : Dom (jC met) (rest.take 0) := .inl rfl
  obtain ⟨g1,g2,_,g4⟩ := Gm (nY := jC met) (rest := rest) rest.length 0 (by omega) hd0
  have g0 : 1 <= xI (jC met) rest rest.length 0 := by
   cases hlen : rest.length with
   | zero => omega
   | succ q =>
    have hin : rest.take (0 + 1) ∈ jC met := by
     rw [take_snoc (by omega)]
     refine List.mem_append.2 (.inl (qE.2 ?_))
     have hm : gt rest (0 : Int) 0 ∈ rest := by
      cases rest with
      | nil => exact absurd rfl e
      | cons a r => exact List.mem_cons_self
     obtain ⟨b1,b2⟩ := hb _ hm
     exact ⟨(gt rest (0 : Int) 0).toNat,by omega,by rw [Int.toNat_of_nonneg b1]; rfl⟩
    unfold xI
    rw [if_pos hin]
    exact (Gm (nY := jC met) (rest := rest) q 1 (by omega) (.inr hin)).2.2.1
  refine via (aic (LL iM) O ay 1 cv next rest (by show (0 : Int) < (rest.length : Int); omega)) ?_
  have gl := YP (out := out) (cv := cv) (next := next) (root := 1) ht hr1 rest.length 0 (by omega) hd0
  rw [show rest.take 0 = [] by simp,h1] at gl
  refine gl ?_
  clear gl
  generalize xI (jC met) rest rest.length 0 = n at *
  have mg := ht.node _ g1
  have hlt := ht.lt _ g1
  have htn : ((n : Int)).toNat = n := by omega
  have hnl : (n : Int) <= ln rest := by show (n : Int) <= (rest.length : Int); omega
  have step : ∀ (O1 : bD) (dP qR : Nat),ay <= dP -> qR < dP -> look O1 qR = some (ni (codes ++ [(iE met (rest.take n),9)])) -> (∀ i a,YN a -> i < ay -> look O i = some a -> look O1 i = some a) ->
    (0 < ln (rest.drop (n : Int).toNat) -> next < 512 -> LL iM (Qm 0 (nd (rest.take n)) (gt (rest.drop (n : Int).toNat) 0 0) next [YL 1 (.own qR) next (rest.drop (n : Int).toNat) (nM Tryz.f147 46)] O1 dP) = some out) ∧
    (¬ (0 < ln (rest.drop (n : Int).toNat) ∧ next < 512) -> LL iM (YM 1 (.own qR) next (rest.drop (n : Int).toNat) O1 dP) = some out) := by
   intro O1 dP qR k1 k2 k3 k4
   have ht1 := ht.mono k1 k4
   have hdl : (rest.drop n).length = rest.length - n := by simp
   have hdb : gQ (rest.drop n) := fun b hbm => hb b (List.mem_of_mem_drop hbm)
   rw [htn]
   refine ⟨fun q1 q2 => ?_,fun q => ?_⟩
   ·have q1 : (0 : Int) < ((rest.drop n).length : Int) := q1
    have hnlt : n < rest.length := by omega
    rw [if_pos ⟨hnlt,by omega⟩] at hr
    have hb0 : gt (rest.drop n) 0 0 = gt rest (n : Int) 0 := by
     unfold gt
     rw [htn]
     simp
    have htk : rest.take (n + 1) = rest.take n ++ [gt (rest.drop n) 0 0] := by rw [hb0]; exact take_snoc hnlt
    have hout := g4 hnlt
    have h2 : 2 <= (rest.take (n + 1)).length := by simp; omega
    have go : ∀ (O : bD) (ay m : Nat) (nd : List Int -> Nat) (mp : List Int -> Option Nat),Nl O ay (jC met) (iE met) nd mp -> nd [] = 1 -> qR < ay -> look O qR = some (ni (codes ++ [(iE met (rest.take n),9)])) -> mp (rest.take n) = some m ->
      LL iM (Qm 2 (nd (rest.take n)) (gt (rest.drop n) 0 0) next [YL 1 (.own qR) next (rest.drop n) (nM Tryz.f147 46)] O ay) = some out := by
     intro O ay m nd mp ht h1 acX hcl hm
     obtain ⟨es,he,_⟩ := ht.map _ m g1 hm
     have mg := ht.node _ g1
     rw [hm] at mg
     refine via (aib (LL iM) O ay 1 (.own qR) next (rest.drop n) _ m _ next _ (ht.lt' _ m g1 hm) es mg he) ?_
     rw [aK (by omega) (by omega)]
     have hen := ht.enter g1 hm (by rw [<- htk]; exact hout) he next
     rw [<- htk] at hen
     have afd : jC (met ++ [rest.take (n + 1)]) = jC met ++ [rest.take (n + 1)] := by unfold jC; simp
     rw [<- afd] at hen
     have air := Nl.code (code' := iE (met ++ [rest.take (n + 1)])) hen (fun s hsd => by
      rw [hn]
      by_cases es : s = rest.take (n + 1)
      ·rw [es,eu]; exact Vo hout h2
      ·refine RS ?_ hout h2
       rcases hsd with hsd | hsd
       ·exact .inl hsd
       ·rw [afd] at hsd
        rcases List.mem_append.1 hsd with hsd | hsd
        ·exact .inr hsd
        ·exact absurd (List.mem_singleton.1 hsd) es)
     have hnil : ([] : List Int) ≠ rest.take (n + 1) := by intro x; rw [<- x] at h2; simp at h2
     refine ih (met ++ [rest.take (n + 1)]) (rest.drop n) _ _ _ _ (.own qR) (codes ++ [(iE met (rest.take n),9)]) _ (by omega) (by omega) hdb air (by rw [upd_ne hnil]; exact h1) (.inr ⟨qR,rfl,by omega,?_⟩) (by simp; omega) (by simp; omega) (by simp; omega) (by
      have := hr
      simp only [List.append_assoc,List.cons_append,List.nil_append] at this ⊢
      exact this)
     ·rw [kV ?_,kV (by omega)]
      ·exact hcl
      ·intro x; rw [<- x,he] at hcl; cases hcl
    have hn1 := ht1.node _ g1
    cases hm : mp (rest.take n) with
    | some m =>
     rw [hm] at hn1
     exact via (ah9 (LL iM) O1 dP 1 (.own qR) next (rest.drop n) _ m _ next _ hn1) (go O1 dP m nd mp ht1 h1 k2 k3 hm)
    | none =>
     rw [hm] at hn1
     refine via (aia (LL iM) O1 dP 1 (.own qR) next (rest.drop n) _ _ next _ (ht1.lt _ g1) hn1) ?_
     refine go _ _ dP nd _ (ht1.YO g1 hm) h1 (by omega) ?_ eu
     rw [kV ?_,kV (by omega)]
     ·exact k3
     ·intro x; rw [<- x,hn1] at k3; cases k3
   ·have hmet : ¬ (n < rest.length ∧ met.length < 255) := fun ⟨y1,y2⟩ => q ⟨by show (0 : Int) < ((rest.drop n).length : Int); omega,by omega⟩
    rw [if_neg hmet] at hr
    refine ih met (rest.drop n) O1 dP nd mp (.own qR) (codes ++ [(iE met (rest.take n),9)]) next (by omega) (by omega) hdb ht1 h1 (.inr ⟨qR,rfl,k2,k3⟩) (by simp; omega) hn hml (by
     have := hr
     simp only [List.append_assoc,List.cons_append,List.nil_append] at this ⊢
     exact this)
  rcases hc with ⟨rfl,rfl⟩ | ⟨qR,rfl,c1,c2⟩
  ·obtain ⟨s1,s2⟩ := step ((ay + 1,ni [(iE met (rest.take n),9)]) :: (ay,ni [(iE met (rest.take n),9)]) :: O) (ay + 2) (ay + 1) (by omega) (by omega) qQ (fun i a ha hi hl => by rw [kV (by omega),kV (by omega)]; exact hl)
   by_cases q : 0 < ln (rest.drop (n : Int).toNat) ∧ next < 512
   ·exact via (ain (LL iM) O ay 1 next rest _ n _ _ mg (by omega) hnl q.1 q.2) (s1 q.1 q.2)
   ·exact via (aio (LL iM) O ay 1 next rest _ n _ _ mg (by omega) hnl q) (s2 q)
  ·obtain ⟨s1,s2⟩ := step ((qR,ni (codes ++ [(iE met (rest.take n),9)])) :: (ay,ni [(iE met (rest.take n),9)]) :: (Eff.kill qR).objs O) (ay + 1) qR (by omega) (by omega) qQ (fun i a ha hi hl => by
    rw [kV ?_,kV (by omega)]
    ·exact Vm hl (.inl ha)
    ·intro x; rw [<- x,c2] at hl; cases hl; cases ha)
   by_cases q : 0 < ln (rest.drop (n : Int).toNat) ∧ next < 512
   ·exact via (aik (LL iM) O ay 1 qR next rest _ n _ _ codes mg c2 c1 (by omega) (by omega) hnl q.1 q.2) (s1 q.1 q.2)
   ·exact via (ail (LL iM) O ay 1 qR next rest _ n _ _ codes mg c2 c1 (by omega) (by omega) hnl q) (s2 q)
theorem ais (l out : List Int) (hb : gQ l) (h : l.length <= 200 -> Vh dd (qL l.length [] l ++ [(256,9)]) = some out) (h' : ¬ l.length <= 200 -> out = []) : acO dd l = some out := by
 refine Rh rfl ((aak (LL iM) l).trans ?_)
 by_cases e : l.length <= 200
 ·have : decide (ln l > 200) = false := decide_eq_false (by show ¬ (l.length : Int) > 200; omega)
  rw [this]
  show LL iM (aSt l 1 0 [(1,node (-1) Ew)] 2) = some out
  refine acY (out := out) 256 0 _ _ (fun _ => 1) (fun _ => none) (by omega) ?_ rfl fun O ay nd mp ht h1 => ?_
  ·have emp : ∀ s,Dom (Ey 0) s -> s = [] := fun s hs => by
    rcases hs with hs | hs
    ·exact hs
    ·cases hs
   refine ⟨fun s hs => ?_,fun s m hs hm => (by cases hm),fun s hs _ b hx => (by cases hx),fun s t hs ht _ => by rw [emp s hs,emp t ht],fun s t m hs ht hm => (by cases hm),fun s hs => by omega,fun s m hs hm => (by cases hm),fun s b hx => (by cases hx),fun hx => (by cases hx)⟩
   rw [emp s hs]; rfl
  ·exact acZ l.length [] l O ay nd mp .aO [] 257 (Nat.le_refl _) (by omega) hb ht h1 (.inl ⟨rfl,rfl⟩) (by simp; omega) rfl (by simp) (h e)
 ·have : decide (ln l > 200) = true := decide_eq_true (by show (l.length : Int) > 200; omega)
  rw [this,h' e]; rfl
end T
end
