/- Plain laws: files written and read. -/
import Derived.Test.YtmceeioelenigaaGreatGa
section
namespace T
open Go Go.E Go.Proofs
def zW (a : List Int) : Bool := decide (2 <= a.length ∧ (1 <= a.getD 0 0 ∧ a.getD 0 0 <= 6) ∧ (1 <= a.getD 1 0 ∧ a.getD 1 0 <= 6) ∧ (a.length : Int) = 2 + 4 * a.getD 0 0 * a.getD 1 0)
def NI (a : List Int) (i : Nat) : eF := (gt a ((2 + 4 * i : Nat) : Int) 0,gt a ((2 + 4 * i + 1 : Nat) : Int) 0,gt a ((2 + 4 * i + 2 : Nat) : Int) 0,gt a ((2 + 4 * i + 3 : Nat) : Int) 0)
def jG (a : List Int) : jc × Bool := if zW a then ((a.getD 0 0,a.getD 1 0,fD ((a.getD 1 0).toNat * (a.getD 0 0).toNat) (NI a)),true) else ((0,0,[]),false)
theorem afr (a : List Int) (hb : gQ a) (hl : 4 <= a.length) : XJ dd a = some (a.getD 0 0,a.getD 1 0,a.getD 2 0,a.getD 3 0) := by
 have hln := gG a
 refine dL rfl ((ahH dd ahI ..).trans ?_); show (_ : Option I4) = some _
 rw [if_pos (by omega),if_pos (by omega),if_pos (by omega),if_pos (by omega),oU (iI hb 0),oU (iI hb 1),oU (iI hb 2),oU (iI hb 3)]
theorem getD_drop {a : List Int} {m k : Nat} : (a.drop m).getD k 0 = gt a ((m + k : Nat) : Int) 0 := by
 unfold gt
 rw [Int.toNat_natCast,List.getD_eq_getElem?_getD,List.getD_eq_getElem?_getD,List.getElem?_drop]
theorem afs (a : List Int) (hb : gQ a) (i : Nat) (hl : 2 + 4 * i + 4 <= a.length) : XJ dd (a.drop (2 + 4 * i)) = some (NI a i) := by
 rw [afr _ (ig hb _) (by simp; omega),getD_drop,getD_drop,getD_drop,getD_drop]; rfl
theorem abM {a : List Int} (hb : gQ a) {W H : Nat} (hl : a.length = 2 + 4 * (H * W)) (hH : H <= 6) (hW : W <= 6) (y : Nat) (hy : y < H) (b c e f : Int) (out : jc × Bool) : ∀ (k x : Nat),x + k = W ->
  PL (I8 W H H ((y + 1 : Nat) : Int) a W b c (mF (H * W) ((y + 1) * W) (NI a)) e f) = some out ->
  PL (MW W H y ((y * W : Nat) : Int) (((y + 1) * W : Nat) : Int) H y W x a W b c (mF (H * W) (y * W + x) (NI a)) e f) = some out
 | 0,x,h,hk => by
  refine eL ((Yu dd PL ..).trans ?_)
  have : x = W := by omega
  subst this
  rw [aC (by omega),bg (by omega), <- bG]
  exact hk
 | k + 1,x,h,hk => by
  have hm := l9 hy hH hW
  have e3 := bG (y := y) (W := W)
  have hln := gG a
  have w1 : wi (2 + wi (4 * wi (wi ((y : Int) * W) + x))) = ((2 + 4 * (y * W + x) : Nat) : Int) := by
   rw [(jR hy hH hW).1,aK (x := ((y * W : Nat) : Int) + x) (by omega) (by omega),aK (x := 4 * (((y * W : Nat) : Int) + x)) (by omega) (by omega),aK (by omega) (by omega)]; omega
  refine eL ((Yu dd PL ..).trans ?_)
  rw [au (by omega),w1,if_pos (by omega),if_pos (by omega),Int.toNat_natCast,afs a hb _ (by omega),Option.bind_some,if_pos (by omega),if_pos (by omega),bg (by omega)]
  have ei : (((y * W : Nat) : Int) + (x : Int)).toNat = y * W + x := by omega
  rw [ei,Jh (by omega)]
  exact abM hb hl hH hW y hy b c e f out k (x + 1) (by omega) hk
theorem abN {a : List Int} (hb : gQ a) {W H : Nat} (hl : a.length = 2 + 4 * (H * W)) (hH : H <= 6) (hW : W <= 6) (b c e f : Int) : ∀ (k y : Nat),y + k = H ->
  PL (I8 W H H y a W b c (mF (H * W) (y * W) (NI a)) e f) = some (((W : Int),(H : Int),fD (H * W) (NI a)),true)
 | 0,y,h => by
  refine eL ((Yt dd PL ..).trans ?_); show (_ : Option (Rs × Bool)) = some _
  have : y = H := by omega
  subst this
  rw [aC (by omega),Sj]
 | k + 1,y,h => by
  have hy : y < H := by omega
  obtain ⟨w1,w2⟩ := jR hy hH hW
  have hm := l9 hy hH hW
  have e3 := bG (y := y) (W := W)
  have hfl := zQ (N := H * W) (n := y * W) (g := NI a) (by omega)
  have hln := gG (mF (H * W) (y * W) (NI a))
  refine eL ((Yt dd PL ..).trans ?_); show (_ : Option (Rs × Bool)) = some _
  rw [au (by omega),w1,w2,if_pos (by omega),if_pos (by omega),if_pos (by omega),Int.toNat_natCast,Int.toNat_natCast,rX]
  have hrl : ln (rowP (mF (H * W) (y * W) (NI a)) W y) = W := by
   rw [gG]; unfold rowP; simp; omega
  rw [hrl]
  exact abM hb hl hH hW y hy b c e f _ W 0 (by omega) (abN hb hl hH hW b c e f k (y + 1) (by omega))
theorem Sm {a : List Int} (h : zW a = true) : ∃ W H : Nat,a.getD 0 0 = W ∧ a.getD 1 0 = H ∧ 1 <= W ∧ W <= 6 ∧ 1 <= H ∧ H <= 6 ∧ a.length = 2 + 4 * (H * W) := by
 obtain ⟨h1,h2,h3,h4⟩ := of_decide_eq_true h
 refine ⟨(a.getD 0 0).toNat,(a.getD 1 0).toNat,by omega,by omega,by omega,by omega,by omega,by omega,?_⟩
 generalize a.getD 0 0 = w at *
 generalize a.getD 1 0 = q at *
 have : ((q.toNat * w.toNat : Nat) : Int) = w * q := by
  rw [Int.natCast_mul,Int.toNat_of_nonneg (by omega),Int.toNat_of_nonneg (by omega),Int.mul_comm]
 rw [Int.mul_assoc] at h4
 omega
theorem ac4 (a : List Int) (hb : gQ a) (hs : a.length <= 100000) : Z9 dd a = some (jG a) := by
 have hln := gG a
 have b0 := iI hb 0
 have b1 := iI hb 1
 refine dL rfl ((ahF dd PL ..).trans ?_)
 by_cases c1 : 2 <= a.length
 rotate_left
 ·have : zW a = false := decide_eq_false fun h => c1 h.1
  unfold jG
  rw [au (by omega),this]; rfl
 rw [aC (by omega),if_pos (by omega),if_pos (by omega),oU b0,oU b1,D62,Option.bind_some]
 by_cases c2 : 1 <= a.getD 0 0 ∧ a.getD 0 0 <= 6
 rotate_left
 ·have : zW a = false := decide_eq_false fun h => c2 h.2.1
  have hr : nR (a.getD 0 0) 1 6 = false := decide_eq_false c2
  unfold jG
  rw [hr,this]; rfl
 rw [jI.2 c2,Bool.not_true,cond_false,D62,Option.bind_some]
 by_cases c3 : 1 <= a.getD 1 0 ∧ a.getD 1 0 <= 6
 rotate_left
 ·have : zW a = false := decide_eq_false fun h => c3 h.2.2.1
  have hr : nR (a.getD 1 0) 1 6 = false := decide_eq_false c3
  unfold jG
  rw [hr,this]; rfl
 rw [jI.2 c3,Bool.not_true,cond_false]
 have hmul : 0 <= a.getD 0 0 * a.getD 1 0 ∧ a.getD 0 0 * a.getD 1 0 <= 36 := by
  refine ⟨Int.mul_nonneg (by omega) (by omega),?_⟩
  have := Int.mul_le_mul c2.2 c3.2 (by omega) (by omega)
  omega
 have w1 : wi (2 + wi (wi (4 * a.getD 0 0) * a.getD 1 0)) = 2 + 4 * a.getD 0 0 * a.getD 1 0 := by
  rw [aK (x := 4 * a.getD 0 0) (by omega) (by omega)]
  have : 4 * a.getD 0 0 * a.getD 1 0 = 4 * (a.getD 0 0 * a.getD 1 0) := Int.mul_assoc _ _ _
  rw [aK (x := 4 * a.getD 0 0 * a.getD 1 0) (by omega) (by omega),aK (by omega) (by omega)]
 rw [w1]
 by_cases c4 : (a.length : Int) = 2 + 4 * a.getD 0 0 * a.getD 1 0
 rotate_left
 ·have : zW a = false := decide_eq_false fun h => c4 h.2.2.2
  unfold jG
  rw [uN (by rw [hln]; exact c4),this]; rfl
 have hok : zW a = true := decide_eq_true ⟨c1,c2,c3,c4⟩
 obtain ⟨W,H,e1,e2,p1,p2,p3,p4,p5⟩ := Sm hok
 unfold jG
 rw [hok,tN (by rw [hln]; exact c4),e1,e2]
 have hm := jJ p4 p2
 have hw : wi ((W : Int) * H) = ((H * W : Nat) : Int) := by rw [wV,Nat.mul_comm]; exact aK (by omega) (by omega)
 rw [hw,if_pos (by omega),if_pos (by omega),if_pos (by omega),Int.toNat_natCast,if_pos rfl,Int.toNat_natCast,Int.toNat_natCast]
 have := abN hb p5 p4 p2 0 0 0 0 H 0 (by omega)
 rw [Nat.zero_mul,Si] at this
 exact this
theorem L77 {a : List Int} (hb : gQ a) {N : Nat} (hl : a.length = 2 + 4 * N) (hN : N <= 36) (b c w h : Int) : ∀ (k i : Nat),i + k = N -> l77 (TT a ((2 + 4 * i : Nat) : Int) b c w h (fD i (NI a))) = some ((w,h,fD N (NI a)),true)
 | 0,i,hi => by
  have hln := gG a
  have : i = N := by omega
  subst this
  refine eL ((abh dd l77 ..).trans ?_); show (_ : Option (Rs × Bool)) = some _
  rw [aC (by omega)]
 | k + 1,i,hi => by
  have hln := gG a
  have w1 : wi (((2 + 4 * i : Nat) : Int) + 1) = ((2 + 4 * i + 1 : Nat) : Int) := by rw [aK (by omega) (by omega)]; omega
  have w2 : wi (((2 + 4 * i : Nat) : Int) + 2) = ((2 + 4 * i + 2 : Nat) : Int) := by rw [aK (by omega) (by omega)]; omega
  have w3 : wi (((2 + 4 * i : Nat) : Int) + 3) = ((2 + 4 * i + 3 : Nat) : Int) := by rw [aK (by omega) (by omega)]; omega
  have w4 : wi (((2 + 4 * i : Nat) : Int) + 4) = ((2 + 4 * (i + 1) : Nat) : Int) := by rw [aK (by omega) (by omega)]; omega
  refine eL ((abh dd l77 ..).trans ?_); show (_ : Option (Rs × Bool)) = some _
  rw [au (by omega),w1,w2,w3,w4,if_pos (by omega),if_pos (by omega),if_pos (by omega),if_pos (by omega),if_pos (by omega),if_pos (by omega),if_pos (by omega),if_pos (by omega),if_pos (by rw [jQ]; omega),
   oU (gy hb _),oU (gy hb _),oU (gy hb _),oU (gy hb _)]
  have : (fD i (NI a)).append [(gt a ((2 + 4 * i : Nat) : Int) 0,gt a ((2 + 4 * i + 1 : Nat) : Int) 0,gt a ((2 + 4 * i + 2 : Nat) : Int) 0,gt a ((2 + 4 * i + 3 : Nat) : Int) 0)] = fD (i + 1) (NI a) := zS.symm
  rw [this]
  exact L77 hb hl hN b c w h k (i + 1) (by omega)
theorem D77 (a : List Int) (hb : gQ a) (hs : a.length <= 100000) : r77 dd a = some (jG a) := by
 have hln := gG a
 have b0 := iI hb 0
 have b1 := iI hb 1
 refine dL rfl ((b77 dd l77 ..).trans ?_)
 have hmul : 0 <= a.getD 0 0 * a.getD 1 0 := Int.mul_nonneg b0.1 b1.1
 have aiE : 4 * a.getD 0 0 * a.getD 1 0 = 4 * (a.getD 0 0 * a.getD 1 0) := Int.mul_assoc _ _ _
 by_cases c0 : 6 <= a.length
 rotate_left
 ·have : zW a = false := decide_eq_false fun h => by
   obtain ⟨h1,h2,h3,h4⟩ := h
   have : 1 <= a.getD 0 0 * a.getD 1 0 := by
    have := Int.mul_le_mul h2.1 h3.1 (by omega) (by omega)
    omega
   omega
  unfold jG
  rw [au (by omega),this]; rfl
 rw [aC (by omega),if_pos (by omega),if_pos (by omega),oU b0,oU b1]
 by_cases c2 : a.getD 0 0 <= 6
 rotate_left
 ·have : zW a = false := decide_eq_false fun h => c2 h.2.1.2
  unfold jG
  rw [au (by omega),this]; rfl
 rw [aC (by omega)]
 by_cases c3 : a.getD 1 0 <= 6
 rotate_left
 ·have : zW a = false := decide_eq_false fun h => c3 h.2.2.1.2
  unfold jG
  rw [au (by omega),this]; rfl
 rw [aC (by omega)]
 have ajZ : a.getD 0 0 * a.getD 1 0 <= 36 := by
  have := Int.mul_le_mul c2 c3 (by omega) (by omega)
  omega
 have w1 : wi (2 + wi (wi (4 * a.getD 0 0) * a.getD 1 0)) = 2 + 4 * a.getD 0 0 * a.getD 1 0 := by
  rw [aK (x := 4 * a.getD 0 0) (by omega) (by omega),aK (x := 4 * a.getD 0 0 * a.getD 1 0) (by omega) (by omega),aK (by omega) (by omega)]
 rw [w1]
 by_cases c4 : (a.length : Int) = 2 + 4 * a.getD 0 0 * a.getD 1 0
 rotate_left
 ·have : zW a = false := decide_eq_false fun h => c4 h.2.2.2
  unfold jG
  rw [uN (by rw [hln]; exact c4),this]; rfl
 have hpos : 1 <= a.getD 0 0 * a.getD 1 0 := by omega
 have c2' : 1 <= a.getD 0 0 := by
  rcases Int.lt_or_le 0 (a.getD 0 0) with q | q
  ·omega
  ·have : a.getD 0 0 = 0 := by omega
   rw [this,Int.zero_mul] at hpos; omega
 have c3' : 1 <= a.getD 1 0 := by
  rcases Int.lt_or_le 0 (a.getD 1 0) with q | q
  ·omega
  ·have : a.getD 1 0 = 0 := by omega
   rw [this,Int.mul_zero] at hpos; omega
 have hok : zW a = true := decide_eq_true ⟨by omega,⟨c2',c2⟩,⟨c3',c3⟩,c4⟩
 obtain ⟨W,H,e1,e2,p1,p2,p3,p4,p5⟩ := Sm hok
 unfold jG
 rw [hok,tN (by rw [hln]; exact c4),e1,e2,if_pos rfl,Int.toNat_natCast,Int.toNat_natCast]
 have := L77 hb p5 (jJ p4 p2) 0 0 W H (H * W) 0 (by omega)
 exact this
theorem aaq {a : List Int} (hb : gQ a) (h : zW a = true) : ∃ W H,iq (jG a).1 W H := by
 obtain ⟨W,H,e1,e2,p1,p2,p3,p4,p5⟩ := Sm h
 refine ⟨W,H,?_⟩
 unfold jG
 rw [h,if_pos rfl,e1,e2,Int.toNat_natCast,Int.toNat_natCast]
 refine ⟨rfl,rfl,p1,p2,p3,p4,jQ,List.all_eq_true.2 fun x hx => ?_⟩
 unfold fD at hx
 obtain ⟨i,_,rfl⟩ := List.mem_map.1 hx
 unfold NI
 have g0 := gy hb ((2 + 4 * i : Nat) : Int)
 have g1 := gy hb ((2 + 4 * i + 1 : Nat) : Int)
 have g2 := gy hb ((2 + 4 * i + 2 : Nat) : Int)
 have g3 := gy hb ((2 + 4 * i + 3 : Nat) : Int)
 exact kF.2 ⟨by dsimp only; omega,by dsimp only; omega,by dsimp only; omega,by dsimp only; omega⟩
end T
end
section
namespace T
open Go Go.E Go.Proofs
theorem Ul {x y : eF} : (x.1 == y.1 && (x.2.1 == y.2.1 && (x.2.2.1 == y.2.2.1 && (x.2.2.2 == y.2.2.2 && true)))) = decide (x = y) := by
 obtain ⟨a,b,c,d⟩ := x
 obtain ⟨e,f,g,h⟩ := y
 rw [Bool.and_true]
 by_cases q : ((a,b,c,d) : eF) = (e,f,g,h)
 ·rw [decide_eq_true q]
  simp only [Prod.mk.injEq] at q
  obtain ⟨rfl,rfl,rfl,rfl⟩ := q
  simp
 ·rw [decide_eq_false q]
  cases h1 : (a == e && (b == f && (c == g && d == h))) with
  | false => rfl
  | true =>
   simp only [Bool.and_eq_true,beq_iff_eq] at h1
   obtain ⟨rfl,rfl,rfl,rfl⟩ := h1
   exact absurd rfl q
def tV (l : List eF) (s : Nat) : Nat -> Nat -> Nat
 | 0,e => e
 | k + 1,e => if gt l (e : Int) z4 = gt l (s : Int) z4 then tV l s k (e + 1) else e
theorem Dq (l : List eF) (s : Nat) : ∀ (k e : Nat),e <= tV l s k e ∧ tV l s k e <= e + k
 | 0,e => ⟨Nat.le_refl _,Nat.le_refl _⟩
 | k + 1,e => by
  unfold tV
  split
  ·have := Dq l s k (e + 1); omega
  ·omega
def fK (l : List eF) : Nat -> Nat -> List Int
 | 0,_ => []
 | f + 1,s => if s < l.length then ((tV l s (l.length - (s + 1)) (s + 1) : Int) - s) :: (qM (gt l (s : Int) z4) ++ fK l f (tV l s (l.length - (s + 1)) (s + 1))) else []
def Ji (r : jc) : List Int := r.1 :: r.2.1 :: fK r.2.2 r.2.2.length 0
theorem BD (l : List eF) : ∀ (f s : Nat),(fK l f s).length <= 5 * f
 | 0,s => by simp [fK]
 | f + 1,s => by
  unfold fK
  split
  ·have := BD l f (tV l s (l.length - (s + 1)) (s + 1))
   simp [qM]; omega
  ·simp
theorem Jj (l : List eF) (hl : l.length <= 36) (hp : l.all gu = true) : ∀ (f s : Nat),gQ (fK l f s)
 | 0,s => iQ
 | f + 1,s => by
  unfold fK
  split
  ·rename_i h
   have := Dq l s (l.length - (s + 1)) (s + 1)
   refine dI.2 ⟨by omega,nH.2 ⟨?_,Jj l hl hp f _⟩⟩
   obtain ⟨h1,h2,h3,h4⟩ := kF.1 (nJ (z := z4) hp h)
   exact dI.2 ⟨by omega,dI.2 ⟨by omega,dI.2 ⟨by omega,dI.2 ⟨by omega,iQ⟩⟩⟩⟩
  ·exact iQ
section
variable {l : List eF}
theorem abO (hl : l.length <= 36) (hp : l.all gu = true) (w h : Int) (s : Nat) (o : List Int) (ho : o.length <= 10000) (out : List Int) : ∀ (k e : Nat),e + k = l.length -> s < e ->
  JC (yU ((tV l s k e : Nat) : Int) w h l (o ++ ((tV l s k e : Int) - s) :: qM (gt l (s : Int) z4))) = some out -> JC (Nc s e w h l o) = some out
 | 0,e,he,hs,hk => by
  have hln := gG l
  have w1 : wi ((e : Int) - s) = (e : Int) - s := aK (by omega) (by omega)
  have w2 : wb ((e : Int) - s) = (e : Int) - s := jT (by omega) (by omega)
  refine eL ((YC dd JC ..).trans ?_)
  rw [aC (by omega),if_pos (by omega),if_pos (by omega),if_pos (by omega),w1,w2,ac2 _ _ (by show (o ++ _).length <= _; simp; omega) (nJ hp (show s < l.length by omega)),Option.bind_some]
  show JC (yU e w h l ((o ++ [(e : Int) - s]) ++ qM (gt l (s : Int) z4))) = _
  rw [List.append_assoc]
  exact hk
 | k + 1,e,he,hs,hk => by
  have hln := gG l
  have w1 : wi ((e : Int) - s) = (e : Int) - s := aK (by omega) (by omega)
  have w2 : wb ((e : Int) - s) = (e : Int) - s := jT (by omega) (by omega)
  unfold tV at hk
  refine eL ((YC dd JC ..).trans ?_)
  rw [au (by omega),if_pos (by omega),if_pos (by omega),if_pos (by omega),if_pos (by omega),Ul]
  by_cases c : gt l (e : Int) z4 = gt l (s : Int) z4
  ·rw [au c,bg (by omega)]
   rw [if_pos c] at hk
   exact abO hl hp w h s o ho out k (e + 1) (by omega) (by omega) hk
  ·rw [aC c,if_pos (by omega),if_pos (by omega),if_pos (by omega),w1,w2,ac2 _ _ (by show (o ++ _).length <= _; simp; omega) (nJ hp (show s < l.length by omega)),Option.bind_some]
   rw [if_neg c] at hk
   show JC (yU e w h l ((o ++ [(e : Int) - s]) ++ qM (gt l (s : Int) z4))) = _
   rw [List.append_assoc]
   exact hk
theorem abP (hl : l.length <= 36) (hp : l.all gu = true) (w h : Int) : ∀ (f s : Nat) (o : List Int),l.length - s <= f -> o.length + 5 * f <= 5000 -> JC (yU s w h l o) = some (o ++ fK l f s)
 | 0,s,o,hf,ho => by
  have hln := gG l
  refine eL ((YB dd JC ..).trans ?_); show (_ : Option (List Int)) = some _
  rw [aC (by omega)]
  show some o = some (o ++ [])
  rw [List.append_nil]
 | f + 1,s,o,hf,ho => by
  have hln := gG l
  refine eL ((YB dd JC ..).trans ?_); show (_ : Option (List Int)) = some _
  by_cases c : s < l.length
  ·rw [au (by omega),bg (by omega)]
   refine abO hl hp w h s o (by omega) _ (l.length - (s + 1)) (s + 1) (by omega) (by omega) ?_
   have := Dq l s (l.length - (s + 1)) (s + 1)
   have e : fK l (f + 1) s = ((tV l s (l.length - (s + 1)) (s + 1) : Int) - s) :: (qM (gt l (s : Int) z4) ++ fK l f (tV l s (l.length - (s + 1)) (s + 1))) := by
    show (if s < l.length then _ else _) = _
    rw [if_pos c]
   rw [abP hl hp w h f _ _ (by omega) (by simp [qM]; omega),e]
   simp
  ·rw [aC (by omega)]
   have e : fK l (f + 1) s = [] := by
    show (if s < l.length then _ else _) = _
    rw [if_neg c]
   rw [e,List.append_nil]
theorem abQ (hl : l.length <= 36) (hp : l.all gu = true) (w h : Int) (s : Nat) (o : List Int) (ho : o.length <= 10000) (out : List Int) : ∀ (k n : Nat),s + n + k = l.length -> 0 < n ->
  PK (Eh ((tV l s k (s + n) : Nat) : Int) w h l (o ++ ((tV l s k (s + n) : Int) - s) :: qM (gt l (s : Int) z4))) = some out -> PK (MS s n w h l o) = some out
 | 0,n,he,hs,hk => by
  have hln := gG l
  have w1 : wi ((s : Int) + n) = ((s + n : Nat) : Int) := by rw [aK (by omega) (by omega)]; omega
  have w2 : wb (n : Int) = ((s + n : Nat) : Int) - s := by rw [jT (by omega) (by omega)]; omega
  refine eL ((Ym dd PK ..).trans ?_)
  rw [w1,aC (by omega),if_pos (by omega),if_pos (by omega),if_pos (by omega),w2,afu (nJ hp (show s < l.length by omega))]
  exact hk
 | k + 1,n,he,hs,hk => by
  have hln := gG l
  have w1 : wi ((s : Int) + n) = ((s + n : Nat) : Int) := by rw [aK (by omega) (by omega)]; omega
  have w2 : wb (n : Int) = ((s + n : Nat) : Int) - s := by rw [jT (by omega) (by omega)]; omega
  unfold tV at hk
  refine eL ((Ym dd PK ..).trans ?_)
  rw [w1,au (by omega),if_pos (by omega),if_pos (by omega),if_pos (by omega),if_pos (by omega),Ul]
  by_cases c : gt l ((s + n : Nat) : Int) z4 = gt l (s : Int) z4
  ·rw [au c,bg (by omega)]
   rw [if_pos c] at hk
   exact abQ hl hp w h s o ho out k (n + 1) (by omega) (by omega) hk
  ·rw [aC c,if_pos (by omega),if_pos (by omega),if_pos (by omega),w2,afu (nJ hp (show s < l.length by omega))]
   rw [if_neg c] at hk
   exact hk
 where
 afu {p : eF} {x : Int} (h : gu p = true) : [x,wb p.1,wb p.2.1,wb p.2.2.1,wb p.2.2.2] = x :: qM p := by rw [RX h]
theorem abR (hl : l.length <= 36) (hp : l.all gu = true) (w h : Int) : ∀ (f s : Nat) (o : List Int),l.length - s <= f -> o.length + 5 * f <= 5000 -> PK (Eh s w h l o) = some (o ++ fK l f s)
 | 0,s,o,hf,ho => by
  have hln := gG l
  refine eL ((Yl dd PK ..).trans ?_); show (_ : Option (List Int)) = some _
  rw [aC (by omega)]
  show some o = some (o ++ [])
  rw [List.append_nil]
 | f + 1,s,o,hf,ho => by
  have hln := gG l
  refine eL ((Yl dd PK ..).trans ?_); show (_ : Option (List Int)) = some _
  by_cases c : s < l.length
  ·rw [au (by omega)]
   refine abQ hl hp w h s o (by omega) _ (l.length - (s + 1)) 1 (by omega) (by omega) ?_
   have := Dq l s (l.length - (s + 1)) (s + 1)
   have e : fK l (f + 1) s = ((tV l s (l.length - (s + 1)) (s + 1) : Int) - s) :: (qM (gt l (s : Int) z4) ++ fK l f (tV l s (l.length - (s + 1)) (s + 1))) := by
    show (if s < l.length then _ else _) = _
    rw [if_pos c]
   rw [abR hl hp w h f _ _ (by omega) (by simp [qM]; omega),e]
   simp
  ·rw [aC (by omega)]
   have e : fK l (f + 1) s = [] := by
    show (if s < l.length then _ else _) = _
    rw [if_neg c]
   rw [e,List.append_nil]
end
theorem aiF {r : jc} {W H : Nat} (hn : iq r W H) : aaf dd ((),r) = some (Ji r) := by
 obtain ⟨w,h,l⟩ := r
 have e1 : w = W := hn.w; have e2 : h = H := hn.h
 have := hn.w1; have := hn.w6; have := hn.h1; have := hn.h6
 have hm := jJ hn.h6 hn.w6
 have hl : l.length = H * W := hn.len
 refine dL rfl ((ahR dd JC ..).trans ?_)
 rw [jT (by omega) (by omega),jT (by omega) (by omega)]
 exact abP (l := l) (by omega) hn.YR w h l.length 0 [w,h] (by omega) (by simp; omega)
theorem aiG {r : jc} {W H : Nat} (hn : iq r W H) : aeZ dd r = some (Ji r) := by
 obtain ⟨w,h,l⟩ := r
 have e1 : w = W := hn.w; have e2 : h = H := hn.h
 have := hn.w1; have := hn.w6; have := hn.h1; have := hn.h6
 have hm := jJ hn.h6 hn.w6
 have hl : l.length = H * W := hn.len
 refine dL rfl ((b110 dd PK ..).trans ?_)
 rw [jT (by omega) (by omega),jT (by omega) (by omega)]
 exact abR (l := l) (by omega) hn.YR w h l.length 0 [w,h] (by omega) (by simp; omega)
theorem Vr {r : jc} {W H : Nat} (hn : iq r W H) : gQ (Ji r) ∧ (Ji r).length <= 182 := by
 have := hn.w1; have := hn.w6; have := hn.h1; have := hn.h6; have e1 := hn.w; have e2 := hn.h
 have hm := jJ hn.h6 hn.w6
 have hl := hn.len
 refine ⟨dI.2 ⟨by omega,dI.2 ⟨by omega,Jj _ (by omega) hn.YR _ _⟩⟩,?_⟩
 have := BD r.2.2 r.2.2.length 0
 show (fK r.2.2 r.2.2.length 0).length + 1 + 1 <= 182
 omega
end T
end
section
namespace T
open Go Go.E Go.Proofs
def Um (m : List Int) : eF := (gt m 1 0,gt m 2 0,gt m 3 0,gt m 4 0)
def oV (N : Nat) : Nat -> List Int -> List eF -> Option (List eF)
 | 0,_,acc => if acc.length = N then some acc else none
 | f + 1,m,acc => if m = [] then (if acc.length = N then some acc else none) else
  if m.getD 0 0 < 1 ∨ m.getD 0 0 > (N : Int) - acc.length then none else oV N f (m.drop 5) (acc ++ List.replicate (m.getD 0 0).toNat (Um m))
def Am (a : List Int) : Bool := decide (2 <= a.length ∧ (1 <= a.getD 0 0 ∧ a.getD 0 0 <= 6) ∧ (1 <= a.getD 1 0 ∧ a.getD 1 0 <= 6) ∧ (a.length - 2) % 5 = 0)
def o9 (a : List Int) : jc × Bool := if Am a then match oV ((a.getD 1 0).toNat * (a.getD 0 0).toNat) a.length (a.drop 2) [] with
  | some l => ((a.getD 0 0,a.getD 1 0,l),true)
  | none => ((0,0,[]),false)
 else ((0,0,[]),false)
def Vs (w h : Int) : Option (List eF) -> jc × Bool
 | some l => ((w,h,l),true)
 | none => ((0,0,[]),false)
theorem ac5 {m : List Int} (h : gQ m) : gu (Um m) = true := by
 unfold Um
 have g0 := gy h 1
 have g1 := gy h 2
 have g2 := gy h 3
 have g3 := gy h 4
 exact kF.2 ⟨by dsimp only; omega,by dsimp only; omega,by dsimp only; omega,by dsimp only; omega⟩
theorem aar {α : Type} {acc : List α} {j : Nat} {x : α} : acc ++ List.replicate j x ++ [x] = acc ++ List.replicate (j + 1) x := by
 rw [List.append_assoc,List.replicate_succ']
theorem Un {N : Nat} : ∀ (f : Nat) (m : List Int) (acc l : List eF),gQ m -> acc.all gu = true -> oV N f m acc = some l -> l.length = N ∧ l.all gu = true
 | 0,m,acc,l,hb,ha,h => by
  unfold oV at h
  split at h
  ·cases h; exact ⟨by assumption,ha⟩
  ·cases h
 | f + 1,m,acc,l,hb,ha,h => by
  unfold oV at h
  split at h
  ·split at h
   ·cases h; exact ⟨by assumption,ha⟩
   ·cases h
  ·split at h
   ·cases h
   ·refine Un f _ _ l (ig hb 5) ?_ h
    rw [List.all_append,ha,Bool.true_and]
    refine List.all_eq_true.2 fun x hx => ?_
    rw [(List.mem_replicate.1 hx).2]
    exact ac5 hb
theorem abS {W H : Nat} (m : List Int) (hm : 5 <= m.length) (acc : List eF) (ha : acc.length <= 1000) (p : eF) (n : Nat) (hn : n <= 300) (b c : Int) (out : jc × Bool) : ∀ (k j : Nat),j + k = n ->
  JB (Bv W H (m.drop 5) b c (acc ++ List.replicate n p)) = some out -> JB (Nb W H m n j b c (acc ++ List.replicate j p) p.1 p.2.1 p.2.2.1 p.2.2.2) = some out
 | 0,j,h,hk => by
  have hln := gG m
  have : j = n := by omega
  subst this
  refine eL ((YA dd JB ..).trans ?_)
  rw [aC (by omega),if_pos (by omega)]
  exact hk
 | k + 1,j,h,hk => by
  refine eL ((YA dd JB ..).trans ?_)
  rw [au (by omega),if_pos (by simp; omega),bg (by omega)]
  have := abS m hm acc ha p n hn b c out k (j + 1) (by omega) hk
  rw [<- aar] at this
  exact this
theorem afv {W H : Nat} (hW : W <= 6) (hH : H <= 6) (b c : Int) : ∀ (f : Nat) (m : List Int) (acc : List eF),m.length <= 5 * f -> m.length % 5 = 0 -> gQ m -> acc.length <= H * W ->
  JB (Bv W H m b c acc) = some (Vs W H (oV (H * W) f m acc)) := by
 intro f
 have hmu := jJ hH hW
 have w1 : wi ((W : Int) * H) = ((H * W : Nat) : Int) := by rw [wV,Nat.mul_comm]; exact aK (by omega) (by omega)
 have fin : ∀ (acc : List eF),JB (Bv W H [] b c acc) = some (Vs W H (if acc.length = H * W then some acc else none)) := by
  intro acc
  have hla := gG acc
  refine eL ((Yz dd JB ..).trans ?_)
  rw [aC (by show ¬ ((([] : List Int).length : Int) > 0); simp),w1]
  by_cases e : acc.length = H * W
  ·rw [tN (by omega),if_pos e]; rfl
  ·rw [uN (by omega),if_neg e]; rfl
 induction f with
 | zero =>
  intro m acc h1 h2 hb ha
  have : m = [] := List.eq_nil_of_length_eq_zero (by omega)
  subst this
  exact fin acc
 | succ f ih =>
  intro m acc h1 h2 hb ha
  by_cases e : m = []
  ·subst e
   have : oV (H * W) (f + 1) [] acc = if acc.length = H * W then some acc else none := by
    show (if ([] : List Int) = [] then _ else _) = _
    rw [if_pos rfl]
   rw [this]
   exact fin acc
  have hpos := List.length_pos_iff.2 e
  have hln := gG m
  have hla := gG acc
  have b0 := iI hb 0
  have step : oV (H * W) (f + 1) m acc = if m.getD 0 0 < 1 ∨ m.getD 0 0 > ((H * W : Nat) : Int) - acc.length then none else oV (H * W) f (m.drop 5) (acc ++ List.replicate (m.getD 0 0).toNat (Um m)) := by
   show (if m = [] then _ else _) = _
   rw [if_neg e]
  have w2 : wi (((H * W : Nat) : Int) - ln acc) = ((H * W : Nat) : Int) - acc.length := aK (by omega) (by omega)
  refine eL ((Yz dd JB ..).trans ?_)
  rw [au (by omega),if_pos (by omega),oU b0,w1,w2]
  by_cases c1 : m.getD 0 0 < 1
  ·rw [au c1,step,if_pos (.inl c1)]; rfl
  rw [aC c1]
  by_cases c2 : m.getD 0 0 > ((H * W : Nat) : Int) - acc.length
  ·rw [au c2,step,if_pos (.inr c2)]; rfl
  have hpx : XJ dd (m.drop 1) = some (Um m) := by
   rw [afr _ (ig hb 1) (by simp; omega),getD_drop,getD_drop,getD_drop,getD_drop]; rfl
  rw [aC c2,if_pos (by omega),hpx,Option.bind_some,step,if_neg (fun h => h.elim c1 c2)]
  have := abS (W := W) (H := H) m (by omega) acc (by omega) (Um m) (m.getD 0 0).toNat (by omega) b c (Vs W H (oV (H * W) f (m.drop 5) (acc ++ List.replicate (m.getD 0 0).toNat (Um m)))) (m.getD 0 0).toNat 0 (by omega) (ih _ _ (by rw [List.length_drop]; omega) (by rw [List.length_drop]; omega) (ig hb 5) (by rw [List.length_append,List.length_replicate]; omega))
  rw [Int.toNat_of_nonneg b0.1,List.replicate_zero,List.append_nil] at this
  exact this
theorem aiH (a : List Int) (hb : gQ a) (hs : a.length <= 100000) : aae dd ((),a) = some (o9 a) := by
 have hln := gG a
 have b0 := iI hb 0
 have b1 := iI hb 1
 have no : Am a = false -> o9 a = ((0,0,[]),false) := fun h => by unfold o9; rw [h]; rfl
 refine dL rfl ((ahQ dd JB ..).trans ?_); show (_ : Option (Rs × Bool)) = some _
 by_cases c1 : 2 <= a.length
 rotate_left
 ·rw [au (by omega),no (decide_eq_false fun h => c1 h.1)]
 have w0 : (wi (ln a - 2)).tmod 5 = (((a.length - 2) % 5 : Nat) : Int) := by
  rw [aK (by omega) (by omega),tm (by omega)]; omega
 rw [aC (by omega),w0]
 by_cases c5 : (a.length - 2) % 5 = 0
 rotate_left
 ·rw [uN (by omega),no (decide_eq_false fun h => c5 h.2.2.2)]
 rw [tN (by omega),if_pos (by omega),if_pos (by omega),oU b0,oU b1,D62,Option.bind_some]
 by_cases c2 : 1 <= a.getD 0 0 ∧ a.getD 0 0 <= 6
 rotate_left
 ·have hr : nR (a.getD 0 0) 1 6 = false := decide_eq_false c2
  rw [hr,no (decide_eq_false fun h => c2 h.2.1)]; rfl
 rw [jI.2 c2,Bool.not_true,cond_false,D62,Option.bind_some]
 by_cases c3 : 1 <= a.getD 1 0 ∧ a.getD 1 0 <= 6
 rotate_left
 ·have hr : nR (a.getD 1 0) 1 6 = false := decide_eq_false c3
  rw [hr,no (decide_eq_false fun h => c3 h.2.2.1)]; rfl
 rw [jI.2 c3,Bool.not_true,cond_false]
 have hok : Am a = true := decide_eq_true ⟨c1,c2,c3,c5⟩
 unfold o9
 rw [hok,if_pos rfl]
 obtain ⟨W,e1⟩ : ∃ W : Nat,a.getD 0 0 = W := ⟨(a.getD 0 0).toNat,by omega⟩
 obtain ⟨H,e2⟩ : ∃ H : Nat,a.getD 1 0 = H := ⟨(a.getD 1 0).toNat,by omega⟩
 rw [e1,e2]
 have hm := jJ (show H <= 6 by omega) (show W <= 6 by omega)
 have hw : wi ((W : Int) * H) = ((H * W : Nat) : Int) := by rw [wV,Nat.mul_comm]; exact aK (by omega) (by omega)
 rw [hw,if_pos (by omega),if_pos (by omega),if_pos (by omega),Int.toNat_natCast,Int.toNat_natCast]
 have := afv (show W <= 6 by omega) (show H <= 6 by omega) 0 0 a.length (a.drop 2) [] (by simp; omega) (by simp; omega) (ig hb 2) (by simp)
 show JB (Bv W H (a.drop 2) 0 0 []) = _
 rw [this]
 cases oV (H * W) a.length (a.drop 2) [] <;> rfl
theorem afw {W H : Nat} (a : List Int) (hb : gQ a) (i : Nat) (hi : i + 5 <= a.length) (hs : a.length <= 100000) (hN : H * W <= 36) (b c : Int) (out : jc × Bool) : ∀ (n : Nat) (acc : List eF),n <= 300 -> acc.length + n <= 1000 ->
  ((if gt a (i : Int) 0 = 0 ∨ acc.length + n > H * W then some ((0,0,[]),false) else VB (FM a ((i + 5 : Nat) : Int) b c W H (acc ++ List.replicate n (Um (a.drop i))))) = some out) -> VB (TV a i n b c W H acc) = some out
 | 0,acc,hn,ha,hk => by
  have hln := gG a
  have hla := gG acc
  have w1 : wi ((W : Int) * H) = ((H * W : Nat) : Int) := by rw [wV,Nat.mul_comm]; exact aK (by omega) (by omega)
  have w5 : wi ((i : Int) + 5) = ((i + 5 : Nat) : Int) := by rw [aK (by omega) (by omega)]; omega
  refine eL ((abl dd VB ..).trans ?_)
  rw [aC (by omega),if_pos (by omega),if_pos (by omega),w1,w5]
  by_cases c1 : gt a (i : Int) 0 = 0
  ·rw [if_pos (.inl c1)] at hk
   rw [bJ c1]; exact hk
  ·rw [aN c1]
   by_cases c2 : acc.length > H * W
   ·rw [if_pos (.inr (by omega))] at hk
    rw [au (by omega)]; exact hk
   ·rw [if_neg (fun h => h.elim c1 fun q => c2 (by omega))] at hk
    rw [aC (by omega)]
    rw [List.replicate_zero,List.append_nil] at hk
    exact hk
 | n + 1,acc,hn,ha,hk => by
  have hln := gG a
  have w1 : wi ((i : Int) + 1) = ((i + 1 : Nat) : Int) := bg (by omega)
  have w2 : wi ((i : Int) + 2) = ((i + 2 : Nat) : Int) := by rw [aK (by omega) (by omega)]; omega
  have w3 : wi ((i : Int) + 3) = ((i + 3 : Nat) : Int) := by rw [aK (by omega) (by omega)]; omega
  have w4 : wi ((i : Int) + 4) = ((i + 4 : Nat) : Int) := by rw [aK (by omega) (by omega)]; omega
  have gd : ∀ k : Nat,gt a ((i + k : Nat) : Int) 0 = gt (a.drop i) (k : Int) 0 := fun k => by
   rw [<- getD_drop]; unfold gt; rw [Int.toNat_natCast]
  refine eL ((abl dd VB ..).trans ?_)
  rw [au (by omega),w1,w2,w3,w4,if_pos (by omega),if_pos (by omega),if_pos (by omega),if_pos (by omega),if_pos (by omega),if_pos (by omega),if_pos (by omega),if_pos (by omega),if_pos (by omega),
   oU (gy hb _),oU (gy hb _),oU (gy hb _),oU (gy hb _),gd 1,gd 2,gd 3,gd 4,aK (by omega) (by omega),show ((n + 1 : Nat) : Int) - 1 = (n : Int) by omega]
  refine afw a hb i hi hs hN b c out n (acc ++ [Um (a.drop i)]) (by omega) (by simp; omega) ?_
  have e1 : (acc ++ [Um (a.drop i)]).length + n = acc.length + (n + 1) := by simp; omega
  rw [e1,List.append_assoc,List.singleton_append, <- List.replicate_succ]
  exact hk
def EC (x y : jc × Bool) : Prop := x.2 = y.2 ∧ (y.2 = true -> x = y)
theorem aiI {W H : Nat} (hN : H * W <= 36) (a : List Int) (hb : gQ a) (hs : a.length <= 100000) (b c : Int) : ∀ (f i : Nat) (acc : List eF),a.length - i <= 5 * f -> (a.length - i) % 5 = 0 -> i <= a.length -> acc.length <= H * W ->
  ∃ out,VB (FM a i b c W H acc) = some out ∧ EC out (Vs W H (oV (H * W) f (a.drop i) acc)) := by
 intro f
 have hln := gG a
 have w1 : wi ((W : Int) * H) = ((H * W : Nat) : Int) := by rw [wV,Nat.mul_comm]; exact aK (by omega) (by omega)
 have fin : ∀ (acc : List eF),∃ out,VB (FM a (a.length : Nat) b c W H acc) = some out ∧ EC out (Vs W H (if acc.length = H * W then some acc else none)) := by
  intro acc
  have hla := gG acc
  refine ⟨(((W : Int),(H : Int),acc),ln acc == ((H * W : Nat) : Int)),?_,?_⟩
  ·refine eL ((abk dd VB ..).trans ?_); show (_ : Option (Rs × Bool)) = some _
   rw [aC (by omega),w1]
  ·by_cases e : acc.length = H * W
   ·rw [if_pos e]
    have : (ln acc == ((H * W : Nat) : Int)) = true := beq_iff_eq.2 (by omega)
    rw [this]; exact ⟨rfl,fun _ => rfl⟩
   ·rw [if_neg e]
    have : (ln acc == ((H * W : Nat) : Int)) = false := beq_eq_false_iff_ne.2 (by omega)
    rw [this]; exact ⟨rfl,fun h => by cases h⟩
 induction f with
 | zero =>
  intro i acc h1 h2 hi ha
  have : i = a.length := by omega
  subst this
  exact fin acc
 | succ f ih =>
  intro i acc h1 h2 hi ha
  by_cases e : i = a.length
  ·subst e
   have : oV (H * W) (f + 1) (a.drop a.length) acc = if acc.length = H * W then some acc else none := by
    show (if a.drop a.length = [] then _ else _) = _
    rw [if_pos (List.drop_eq_nil_of_le (Nat.le_refl _))]
   rw [this]
   exact fin acc
  have hlt : i < a.length := by omega
  have hne : a.drop i ≠ [] := fun x => by
   have := congrArg List.length x
   simp at this; omega
  have b0 := gy hb (i : Int)
  have g0 : (a.drop i).getD 0 0 = gt a (i : Int) 0 := getD_drop
  have step : oV (H * W) (f + 1) (a.drop i) acc = if gt a (i : Int) 0 < 1 ∨ gt a (i : Int) 0 > ((H * W : Nat) : Int) - acc.length then none else oV (H * W) f (a.drop (i + 5)) (acc ++ List.replicate (gt a (i : Int) 0).toNat (Um (a.drop i))) := by
   show (if a.drop i = [] then _ else _) = _
   rw [if_neg hne,g0,List.drop_drop]
  obtain ⟨n,hn⟩ : ∃ n : Nat,gt a (i : Int) 0 = n := ⟨(gt a (i : Int) 0).toNat,by omega⟩
  have hq : ∀ out,((if gt a (i : Int) 0 = 0 ∨ acc.length + n > H * W then some ((0,0,[]),false) else VB (FM a ((i + 5 : Nat) : Int) b c W H (acc ++ List.replicate n (Um (a.drop i))))) = some out) -> VB (FM a i b c W H acc) = some out := by
   intro out hk
   refine eL ((abk dd VB ..).trans ?_); show (_ : Option (Rs × Bool)) = some _
   rw [au (by omega),if_pos (by omega),if_pos (by omega),oU b0,hn]
   exact afw a hb i (by omega) hs hN b c out n acc (by omega) (by omega) hk
  by_cases cc : gt a (i : Int) 0 < 1 ∨ gt a (i : Int) 0 > ((H * W : Nat) : Int) - acc.length
  ·refine ⟨((0,0,[]),false),hq _ ?_,?_⟩
   ·rw [if_pos]
    rcases cc with c1 | c1
    ·exact .inl (by omega)
    ·exact .inr (by omega)
   ·rw [step,if_pos cc]; exact ⟨rfl,fun h => by cases h⟩
  ·obtain ⟨out,o1,o2⟩ := ih (i + 5) (acc ++ List.replicate n (Um (a.drop i))) (by omega) (by omega) (by omega) (by simp; omega)
   refine ⟨out,hq _ ?_,?_⟩
   ·rw [if_neg (fun h => cc (h.elim (fun q => .inl (by omega)) fun q => .inr (by omega)))]
    exact o1
   ·rw [step,if_neg cc,hn,Int.toNat_natCast]
    exact o2
theorem oh (x : jc × Bool) : EC x x := ⟨rfl,fun _ => rfl⟩
theorem D79 (a : List Int) (hb : gQ a) (hs : a.length <= 100000) : ∃ out,r79 dd a = some out ∧ EC out (o9 a) := by
 have hln := gG a
 have b0 := iI hb 0
 have b1 := iI hb 1
 have bad : o9 a = ((0,0,[]),false) -> t79 dd VB a = some ((0,0,[]),false) -> ∃ out,r79 dd a = some out ∧ EC out (o9 a) := fun h k => ⟨_,d79 _ k,by rw [h]; exact oh _⟩
 have no : Am a = false -> o9 a = ((0,0,[]),false) := fun h => by unfold o9; rw [h]; rfl
 by_cases c5 : 2 <= a.length ∧ (a.length - 2) % 5 = 0
 rotate_left
 ·refine bad (no (decide_eq_false fun h => c5 ⟨h.1,h.2.2.2⟩)) ?_
  unfold t79
  by_cases c7 : a.length < 7
  ·rw [au (by omega)]
  ·rw [aC (by omega),aK (by omega) (by omega),tm (by omega),uN (by omega)]
 obtain ⟨c1,c5⟩ := c5
 by_cases c7 : a.length < 7
 ·
  refine bad ?_ ?_
  ·unfold o9
   cases hok : Am a with
   | false => rfl
   | true =>
    obtain ⟨_,h2,h3,_⟩ := of_decide_eq_true hok
    have hl2 : a.length = 2 := by omega
    have hd : a.drop 2 = [] := List.drop_eq_nil_of_le (by omega)
    have : oV ((a.getD 1 0).toNat * (a.getD 0 0).toNat) a.length (a.drop 2) [] = none := by
     rw [hd,hl2]
     show (if ([] : List Int) = [] then (if ([] : List eF).length = _ then _ else _) else _) = _
     rw [if_pos rfl,if_neg]
     have := Nat.mul_le_mul (show 1 <= (a.getD 1 0).toNat by omega) (show 1 <= (a.getD 0 0).toNat by omega)
     show ¬ 0 = _
     omega
    rw [this]; rfl
  ·unfold t79
   rw [au (by omega)]
 have w0 : (wi (ln a - 2)).tmod 5 = 0 := by rw [aK (by omega) (by omega),tm (by omega)]; omega
 by_cases c2 : a.getD 0 0 <= 6
 rotate_left
 ·refine bad (no (decide_eq_false fun h => c2 h.2.1.2)) ?_
  unfold t79
  rw [aC (by omega),w0,tN rfl,if_pos (by omega),oU b0,au (by omega)]
 by_cases c3 : a.getD 1 0 <= 6
 rotate_left
 ·refine bad (no (decide_eq_false fun h => c3 h.2.2.1.2)) ?_
  unfold t79
  rw [aC (by omega),w0,tN rfl,if_pos (by omega),oU b0,aC (by omega),if_pos (by omega),oU b1,au (by omega)]
 obtain ⟨W,e1⟩ : ∃ W : Nat,a.getD 0 0 = W := ⟨(a.getD 0 0).toNat,by omega⟩
 obtain ⟨H,e2⟩ : ∃ H : Nat,a.getD 1 0 = H := ⟨(a.getD 1 0).toNat,by omega⟩
 have hm := jJ (show H <= 6 by omega) (show W <= 6 by omega)
 obtain ⟨out,o1,o2⟩ := aiI (W := W) (H := H) hm a hb hs 0 0 a.length 2 [] (by omega) (by omega) (by omega) (by simp)
 refine ⟨out,?_,?_⟩
 ·apply d79; unfold t79
  rw [aC (by omega),w0,tN rfl,if_pos (by omega),oU b0,aC (by omega),if_pos (by omega),oU b1,aC (by omega),if_pos (by omega),if_pos (by omega),e1,e2]
  exact o1
 ·have hrr : Vs W H (oV (H * W) a.length (a.drop 2) []) = o9 a := by
   unfold o9
   by_cases hz : 1 <= W ∧ 1 <= H
   ·have hok : Am a = true := decide_eq_true ⟨c1,by omega,by omega,c5⟩
    rw [hok,if_pos rfl,e1,e2,Int.toNat_natCast,Int.toNat_natCast]
    cases oV (H * W) a.length (a.drop 2) [] <;> rfl
   ·have hok : Am a = false := decide_eq_false fun h => hz ⟨by have := h.2.1; omega,by have := h.2.2.1; omega⟩
    rw [hok]
    have h0 : H * W = 0 := by
     rcases Nat.lt_or_ge 0 W with q | q
     ·have : H = 0 := by omega
      rw [this,Nat.zero_mul]
     ·have : W = 0 := by omega
      rw [this,Nat.mul_zero]
    have hne : a.drop 2 ≠ [] := fun x => by
     have := congrArg List.length x
     simp at this; omega
    obtain ⟨q,hq⟩ : ∃ q,a.length = q + 1 := ⟨a.length - 1,by omega⟩
    have : oV (H * W) a.length (a.drop 2) [] = none := by
     rw [hq,h0]
     show (if a.drop 2 = [] then _ else if (a.drop 2).getD 0 0 < 1 ∨ (a.drop 2).getD 0 0 > ((0 : Nat) : Int) - ([] : List eF).length then none else _) = _
     rw [if_neg hne,if_pos]
     simp only [List.length_nil]
     omega
    rw [this]; rfl
  rw [<- hrr]; exact o2
theorem aas {a : List Int} (hb : gQ a) (h : (o9 a).2 = true) : ∃ W H,iq (o9 a).1 W H := by
 unfold o9 at h ⊢
 cases hok : Am a with
 | false => rw [hok] at h; cases h
 | true =>
  rw [hok,if_pos rfl] at h
  rw [if_pos rfl]
  obtain ⟨_,h2,h3,_⟩ := of_decide_eq_true hok
  cases hr : oV ((a.getD 1 0).toNat * (a.getD 0 0).toNat) a.length (a.drop 2) [] with
  | none => rw [hr] at h; cases h
  | some l =>
   obtain ⟨q1,q2⟩ := Un _ _ _ _ (ig hb 2) rfl hr
   exact ⟨(a.getD 0 0).toNat,(a.getD 1 0).toNat,⟨by show a.getD 0 0 = _; omega,by show a.getD 1 0 = _; omega,by omega,by omega,by omega,by omega,q1,q2⟩⟩
end T
end
section
namespace T
open Go Go.E Go.Proofs
def lQ (l : List Int) (k : Nat) : Int := gt l ((k / 8 : Nat) : Int) 0 / 2 ^ (k % 8) % 2
def kX (l : List Int) (a : Nat) : Nat -> Int
 | 0 => 0
 | j + 1 => kX l a j + lQ l (a + j) * 2 ^ j
theorem Sr (l : List Int) (k : Nat) : lQ l k = 0 ∨ lQ l k = 1 := by unfold lQ; omega
theorem zT (l : List Int) (a : Nat) : ∀ j,j <= 9 -> 0 <= kX l a j ∧ kX l a j < 2 ^ j
 | 0,_ => by unfold kX; omega
 | j + 1,h => by
  obtain ⟨h1,h2⟩ := zT l a j (by omega)
  have hp := pw j (by omega)
  have := Sr l (a + j)
  unfold kX
  rw [Int.pow_succ]
  rcases this with q | q <;> rw [q] <;> omega
theorem afx (l : List Int) (hb : gQ l) (hs : l.length <= 1000) (a : Nat) (ha : a + 9 <= 8 * l.length) : ∀ (k j : Nat),j + k = 9 -> aah (MO l a 9 (kX l a j) j) = some (kX l a 9,true)
 | 0,j,h => by
  refine eL ((Yg dd aah ..).trans ?_); show (_ : Option (Int × Bool)) = some _
  have : j = 9 := by omega
  subst this
  rw [aC (by omega)]
 | k + 1,j,h => by
  have hln := gG l
  have w1 : wi ((a : Int) + j) = ((a + j : Nat) : Int) := by rw [aK (by omega) (by omega)]; omega
  have e8 : (((a + j : Nat) : Int)).tdiv 8 = (((a + j) / 8 : Nat) : Int) := by rw [td (by omega)]; omega
  have m8 : (((a + j : Nat) : Int)).tmod 8 = (((a + j) % 8 : Nat) : Int) := by rw [tm (by omega)]; omega
  have w8 : wi (((a + j) / 8 : Nat) : Int) = (((a + j) / 8 : Nat) : Int) := aK (by omega) (by omega)
  have mt : min ((((a + j) % 8 : Nat) : Int)).toNat IntKind.i64.bits = (a + j) % 8 := JF (by show (a + j) % 8 <= 64; omega)
  have mj : min ((j : Int)).toNat IntKind.i64.bits = j := JF (by show j <= 64; omega)
  have hg := gy hb (((a + j) / 8 : Nat) : Int)
  have hp := JE (m := (a + j) % 8) (by omega)
  have hpj := pw j (by omega)
  have hnb := zT l a j (by omega)
  have hv : (((gt l (((a + j) / 8 : Nat) : Int) 0)).fdiv (2 ^ ((a + j) % 8))).tmod 2 = lQ l (a + j) := by
   rw [fd (by omega),tm (Int.ediv_nonneg hg.1 (by omega))]; rfl
  have h01 := Sr l (a + j)
  have next := afx l hb hs a ha k (j + 1) (by omega)
  have e : kX l a (j + 1) = kX l a j + lQ l (a + j) * 2 ^ j := rfl
  rw [e] at next
  refine eL ((Yg dd aah ..).trans ?_); show (_ : Option (Int × Bool)) = some _
  rw [au (by omega),w1,e8,w8,m8,mt,mj,if_pos (by omega),if_pos (by omega),if_pos (by omega),if_pos (by omega),oU hg,hv,bg (by omega)]
  have w2 : wi (lQ l (a + j) * 2 ^ j) = lQ l (a + j) * 2 ^ j := by rcases h01 with q | q <;> rw [q] <;> exact aK (by omega) (by omega)
  have w3 : wi (kX l a j + lQ l (a + j) * 2 ^ j) = kX l a j + lQ l (a + j) * 2 ^ j := by rcases h01 with q | q <;> rw [q] <;> exact aK (by omega) (by omega)
  rw [w2,w3]
  exact next
theorem afy (l : List Int) (hb : gQ l) (hs : l.length <= 1000) (a : Nat) (ha : a <= 100000) : aeU dd (l,(a : Int),9) = some (if a + 9 <= 8 * l.length then (kX l a 9,true) else (0,false)) := by
 have hln := gG l
 refine dL rfl ((aho dd aah ..).trans ?_); show (_ : Option (Int × Bool)) = some _
 rw [aC (by omega),D36,Option.bind_some,jI.2 (by omega),Bool.not_true,cond_false,aK (x := 8 * ln l) (by omega) (by omega),aK (by omega) (by omega)]
 by_cases h : a + 9 <= 8 * l.length
 ·rw [aC (by omega),if_pos h]
  exact afx l hb hs a h 9 0 (by omega)
 ·rw [au (by omega),if_neg h]
def endOk (l : List Int) (a : Nat) : Bool := decide ((a + 7) / 8 = l.length ∧ (a % 8 = 0 ∨ gt l ((a / 8 : Nat) : Int) 0 / 2 ^ (a % 8) = 0))
theorem YW (b : Int) (m : Nat) (h0 : 0 <= b) : b / 2 ^ m = 0 ↔ b / 2 ^ m % 2 = 0 ∧ b / 2 ^ (m + 1) = 0 := by
 have e : b / 2 ^ (m + 1) = b / 2 ^ m / 2 := by
  rw [Int.pow_succ,Int.ediv_ediv_of_nonneg]
  exact Int.le_of_lt (Int.pow_pos (by decide))
 rw [e]
 omega
theorem afz (l : List Int) (hb : gQ l) (q : Nat) (hq : q + 1 = l.length) (hs : l.length <= 1000) : ∀ (k m : Nat),m + k = 8 -> Yh (MP l ((8 * q + m : Nat) : Int)) = some (decide (gt l (q : Int) 0 / 2 ^ m = 0))
 | 0,m,h => by
  have hln := gG l
  have : m = 8 := by omega
  subst this
  have hg := gy hb (q : Int)
  have e : gt l (q : Int) 0 / 2 ^ 8 = 0 := by omega
  refine eL ((RP dd Yh ..).trans ?_); show (_ : Option Bool) = some _
  rw [aK (by omega) (by omega),aC (by omega),decide_eq_true e]
 | k + 1,m,h => by
  have hln := gG l
  have hg := gy hb (q : Int)
  have e8 : (((8 * q + m : Nat) : Int)).tdiv 8 = (q : Int) := by rw [td (by omega)]; omega
  have m8 : (((8 * q + m : Nat) : Int)).tmod 8 = (m : Int) := by rw [tm (by omega)]; omega
  have w8 : wi (q : Int) = q := aK (by omega) (by omega)
  have mt : min ((m : Int)).toNat IntKind.u8.bits = m := JF (by show m <= 8; omega)
  have hp := JE (m := m) (by omega)
  have hnn : 0 <= gt l (q : Int) 0 / 2 ^ m := Int.ediv_nonneg hg.1 (by omega)
  have hds := YW (gt l (q : Int) 0) m hg.1
  refine eL ((RP dd Yh ..).trans ?_); show (_ : Option Bool) = some _
  rw [aK (x := 8 * ln l) (by omega) (by omega),au (by omega),e8,w8,m8,mt,if_pos (by omega),if_pos (by omega),if_pos (by omega),fd (by omega),tm hnn]
  by_cases c : gt l (q : Int) 0 / 2 ^ m % 2 = 1
  ·rw [bJ c,decide_eq_false (by omega)]
  ·rw [aN c,bg (by omega)]
   have := afz l hb q hq hs k (m + 1) (by omega)
   rw [show 8 * q + m + 1 = 8 * q + (m + 1) by omega,this]
   have : decide (gt l (q : Int) 0 / 2 ^ m = 0) = decide (gt l (q : Int) 0 / 2 ^ (m + 1) = 0) := by
    by_cases z : gt l (q : Int) 0 / 2 ^ (m + 1) = 0
    ·rw [decide_eq_true z,decide_eq_true (hds.2 ⟨by omega,z⟩)]
    ·rw [decide_eq_false z,decide_eq_false (fun x => z (hds.1 x).2)]
   rw [this]
theorem aiJ (l : List Int) (hb : gQ l) (hs : l.length <= 1000) (a : Nat) (ha : (a + 7) / 8 = l.length) (h1 : 1 <= a) : aeV dd (l,(a : Int)) = some (endOk l a) := by
 have hln := gG l
 refine dL rfl ((ahp dd Yh ..).trans ?_); show (_ : Option Bool) = some _
 by_cases c : a % 8 = 0
 ·have : endOk l a = true := decide_eq_true ⟨ha,.inl c⟩
  rw [this]
  refine eL ((RP dd Yh ..).trans ?_); show (_ : Option Bool) = some _
  rw [aK (by omega) (by omega),aC (by omega)]
 ·have := afz l hb (a / 8) (by omega) hs (8 - a % 8) (a % 8) (by omega)
  rw [show 8 * (a / 8) + a % 8 = a by omega] at this
  rw [this]
  unfold endOk
  congr 1
  exact decide_eq_decide.2 ⟨fun h => ⟨ha,.inr h⟩,fun h => h.2.resolve_left c⟩
theorem aiK (l : List Int) (hb : gQ l) (hs : l.length <= 1000) (a : Nat) (ha : a <= 100000) : ae4 dd (l,(a : Int)) = some (endOk l a) := by
 have hln := gG l
 refine dL rfl ((ahY dd ahZ ..).trans ?_); show (_ : Option Bool) = some _
 have w7 : wi ((a : Int) + 7) = ((a + 7 : Nat) : Int) := by rw [aK (by omega) (by omega)]; omega
 have e7 : (((a + 7 : Nat) : Int)).tdiv 8 = (((a + 7) / 8 : Nat) : Int) := by rw [td (by omega)]; omega
 have w8 : wi (((a + 7) / 8 : Nat) : Int) = (((a + 7) / 8 : Nat) : Int) := aK (by omega) (by omega)
 have m8 : ((a : Int)).tmod 8 = ((a % 8 : Nat) : Int) := by rw [tm (by omega)]; omega
 have e8 : ((a : Int)).tdiv 8 = ((a / 8 : Nat) : Int) := by rw [td (by omega)]; omega
 have wa : wi ((a / 8 : Nat) : Int) = ((a / 8 : Nat) : Int) := aK (by omega) (by omega)
 rw [w7,e7,w8,m8,e8,wa]
 by_cases c1 : (a + 7) / 8 = l.length
 rotate_left
 ·rw [uN (by omega)]
  have : endOk l a = false := decide_eq_false fun h => c1 h.1
  rw [this]
 rw [tN (by omega)]
 by_cases c : a % 8 = 0
 ·have : endOk l a = true := decide_eq_true ⟨c1,.inl c⟩
  rw [bJ (by omega),this]
 ·have mt : min (((a % 8 : Nat) : Int)).toNat IntKind.u8.bits = a % 8 := JF (by show a % 8 <= 8; omega)
  have hp := JE (m := a % 8) (by omega)
  rw [aN (by omega),if_pos (by omega),if_pos (by omega),if_pos (by omega),mt,fd (by omega)]
  unfold endOk
  congr 1
  by_cases z : gt l ((a / 8 : Nat) : Int) 0 / 2 ^ (a % 8) = 0
  ·rw [decide_eq_true ⟨c1,.inr z⟩]; exact beq_iff_eq.2 z
  ·rw [decide_eq_false fun h => z (h.2.resolve_left c)]; exact beq_eq_false_iff_ne.2 z
end T
end
section
namespace T
open Go Go.E Go.Proofs
def jo (b : List Int) : Int := b.getD 0 0
def FN (met : List (List Int)) (last : List Int) (c : Int) : Option (List Int) :=
 if c < 256 then some [c]
 else if c - 257 < met.length then some (gt met (c - 257) [])
 else if c - 257 = met.length ∧ 0 < last.length ∧ met.length < 255 then some (last ++ [jo last]) else none
def rO (met : List (List Int)) (last b : List Int) : List (List Int) := if 0 < last.length ∧ met.length < 255 then met ++ [last ++ [jo b]] else met
def y5 (l : List Int) : Nat -> Nat -> List Int -> List (List Int) -> List Int -> List Int × Bool
 | 0,_,_,_,_ => ([],false)
 | f + 1,a,last,met,out => if a + 9 <= 8 * l.length then
   (if kX l a 9 = 256 then (if endOk l (a + 9) then (out,true) else ([],false)) else
    match FN met last (kX l a 9) with
    | none => ([],false)
    | some b => if out.length + b.length <= 200 then y5 l f (a + 9) b (rO met last b) (out ++ b) else ([],false))
  else ([],false)
structure PG (last : List Int) (met : List (List Int)) (out : List Int) : Prop where
 o1 : out.length <= 200
 o2 : gQ out
 l1 : last.length <= out.length
 l2 : last = out.drop (out.length - last.length)
 l3 : out ≠ [] -> 0 < last.length
 m1 : met.length <= 255
 m2 : ∀ (i : Nat) (h : i < met.length),2 <= met[i].length ∧ ∃ a,a + met[i].length <= out.length ∧ met[i] = (out.drop a).take met[i].length
theorem PG.nil : PG [] [] [] := ⟨by simp,iQ,by simp,rfl,fun h => absurd rfl h,by simp,fun i h => absurd h (Nat.not_lt_zero _)⟩
theorem PG.afA {last : List Int} {met : List (List Int)} {out : List Int} (h : PG last met out) {i : Nat} (hi : i < met.length) : gQ met[i] := by
 obtain ⟨_,a,_,e⟩ := h.m2 i hi
 rw [e]; exact kW (ig h.o2 a) _
theorem PG.lastB {last : List Int} {met : List (List Int)} {out : List Int} (h : PG last met out) : gQ last := by rw [h.l2]; exact ig h.o2 _
theorem KO {b : List Int} (h : gQ b) : 0 <= jo b ∧ jo b < 256 := iI h 0
theorem P5 {last : List Int} {met : List (List Int)} {out : List Int} (h : PG last met out) {c : Int} (h0 : 0 <= c) (h1 : c < 512) (hne : c ≠ 256) {b : List Int} (hb : FN met last c = some b) : gQ b ∧ 1 <= b.length ∧ b.length <= 201 := by
 unfold FN at hb
 split at hb
 ·cases hb; exact ⟨dI.2 ⟨by omega,iQ⟩,by simp,by simp⟩
 ·split at hb
  ·cases hb
   obtain ⟨i,hi⟩ : ∃ i : Nat,c - 257 = i := ⟨(c - 257).toNat,by omega⟩
   rw [hi,iW (by omega)]
   have hm := h.m2 i (by omega)
   have := h.o1
   obtain ⟨h2,a,h3,_⟩ := hm
   exact ⟨h.afA _,by omega,by omega⟩
  ·split at hb
   ·cases hb
    have := h.l1; have := h.o1
    exact ⟨nH.2 ⟨h.lastB,dI.2 ⟨KO h.lastB,iQ⟩⟩,by simp,by simp; omega⟩
   ·cases hb
theorem P6 {α : Type} {l m : List α} {a n : Nat} (h : a + n <= l.length) : ((l ++ m).drop a).take n = (l.drop a).take n := by
 rw [List.drop_append_of_le_length (by omega),List.take_append_of_le_length (by simp; omega)]
theorem PG.step {last : List Int} {met : List (List Int)} {out : List Int} (h : PG last met out) {b : List Int} (hb : gQ b) (h1 : 1 <= b.length) (hl : out.length + b.length <= 200) : PG b (rO met last b) (out ++ b) := by
 refine ⟨by simp; omega,nH.2 ⟨h.o2,hb⟩,by simp,?_,fun _ => h1,?_,?_⟩
 ·rw [List.length_append,Nat.add_sub_cancel]
  rw [List.drop_append_of_le_length (Nat.le_refl _),List.drop_eq_nil_of_le (Nat.le_refl _),List.nil_append]
 ·have := h.m1
  unfold rO; split
  ·simp; omega
  ·exact this
 ·have old : ∀ (i : Nat) (hi : i < met.length),2 <= met[i].length ∧ ∃ a,a + met[i].length <= (out ++ b).length ∧ met[i] = ((out ++ b).drop a).take met[i].length := fun i hi => by
   obtain ⟨q1,a,q2,q3⟩ := h.m2 i hi
   exact ⟨q1,a,by simp; omega,by rw [P6 q2]; exact q3⟩
  intro i hi
  unfold rO at hi ⊢
  split
  ·rename_i hc
   rw [if_pos hc] at hi
   rcases Nat.lt_or_ge i met.length with q | q
   ·simp only [List.getElem_append_left q]
    exact old i q
   ·have hi' : i = met.length := by simp at hi; omega
    subst hi'
    have e : (met ++ [last ++ [jo b]])[met.length] = last ++ [jo b] := by simp
    simp only [e]
    have hlast := h.l1
    refine ⟨by simp; omega,out.length - last.length,by simp; omega,?_⟩
    have hd : (out ++ b).drop (out.length - last.length) = last ++ b := by
     rw [List.drop_append_of_le_length (by omega), <- h.l2]
    rw [hd,List.length_append]
    obtain ⟨x,r,rfl⟩ : ∃ x r,b = x :: r := by
     cases b with
     | nil => simp at h1
     | cons x r => exact ⟨x,r,rfl⟩
    show last ++ [x] = (last ++ x :: r).take (last.length + 1)
    rw [List.take_length_add_append]
    rfl
  ·rename_i hc
   rw [if_neg hc] at hi
   exact old i hi
def P7 (sp : List (Int × Int)) (met : List (List Int)) (out : List Int) : Prop := sp.length = met.length ∧ ∀ (i : Nat) (h : i < met.length),∃ a : Nat,gt sp (i : Int) (0,0) = ((a : Int),(met[i].length : Int)) ∧ a + met[i].length <= out.length ∧ met[i] = (out.drop a).take met[i].length
def qH (out : List Int) (a : Nat) : Nat -> List Int
 | 0 => out
 | n + 1 => qH out a n ++ [gt (qH out a n) ((a + n : Nat) : Int) 0]
theorem ED (out : List Int) (a : Nat) : ∀ n,(qH out a n).length = out.length + n
 | 0 => rfl
 | n + 1 => by
  show (qH out a n ++ [_]).length = _
  rw [List.length_append,ED out a n]; rfl
theorem EF {out : List Int} {a : Nat} : ∀ (n : Nat),a + n <= out.length -> qH out a n = out ++ (out.drop a).take n
 | 0,_ => by simp [qH]
 | n + 1,h => by
  show qH out a n ++ [_] = _
  rw [EF n (by omega),iW (by simp; omega)]
  rw [List.getElem_append_left (by omega),List.append_assoc]
  congr 1
  have : (out.drop a).take (n + 1) = (out.drop a).take n ++ [(out.drop a)[n]'(by simp; omega)] := by
   rw [List.take_succ_eq_append_getElem]
  rw [this,List.getElem_drop]
theorem Vt {out last : List Int} (h1 : last = out.drop (out.length - last.length)) (h2 : 0 < last.length) (h3 : last.length <= out.length) : qH out (out.length - last.length) (last.length + 1) = out ++ (last ++ [jo last]) := by
 show qH out (out.length - last.length) last.length ++ [_] = _
 rw [EF _ (by omega), <- h1,List.take_length]
 have e : out.length - last.length + last.length = out.length := by omega
 rw [e,iW (by simp; omega),List.getElem_append_right (Nat.le_refl _),List.append_assoc]
 congr 2
 have : jo last = last[0] := by
  unfold jo
  rw [List.getD_eq_getElem?_getD,List.getElem?_eq_getElem h2]; rfl
 rw [this]
 simp
theorem YX (st la ls : Int) (sp : List (Int × Int)) (a n : Nat) (out : List Int) (ho : out.length + n <= 1000) (ha : a < out.length) (hst : st = (out.length : Int)) (R : Bool × List Int × List (Int × Int) × Int × Int) : ∀ (k j : Nat),j + k = n ->
  some (decide ((qH out a n).length <= 200),qH out a n,sp,st,(n : Int)) = some R -> Jc (Nj st n j la ls (qH out a j) sp a n) = some R
 | 0,j,h,hk => by
  have : j = n := by omega
  subst this
  have hlc := ED out a j
  have hln := gG (qH out a j)
  refine eL ((YG dd Jc ..).trans ?_); show (_ : Option (Bool × List Int × List (Int × Int) × Int × Int)) = some _
  rw [aC (by omega)]
  refine eL ((YF dd Jc ..).trans ?_); show (_ : Option (Bool × List Int × List (Int × Int) × Int × Int)) = some _
  rw [aK (by omega) (by omega), <- hk]
  have e1 : decide (ln (qH out a j) <= 200) = decide ((qH out a j).length <= 200) := decide_eq_decide.2 (by omega)
  have e2 : ln (qH out a j) - st = j := by omega
  rw [e1,e2]
 | k + 1,j,h,hk => by
  have hlc := ED out a j
  have hln := gG (qH out a j)
  have w1 : wi ((a : Int) + j) = ((a + j : Nat) : Int) := by rw [aK (by omega) (by omega)]; omega
  refine eL ((YG dd Jc ..).trans ?_); show (_ : Option (Bool × List Int × List (Int × Int) × Int × Int)) = some _
  rw [au (by omega),w1,if_pos (by omega),if_pos (by omega),if_pos (by omega),bg (by omega)]
  exact YX st la ls sp a n out ho ha hst R k (j + 1) (by omega) hk
def KP (sp : List (Int × Int)) (out last : List Int) : List (Int × Int) := if 0 < out.length ∧ sp.length < 255 then sp ++ [(((out.length - last.length : Nat) : Int),(last.length : Int) + 1)] else sp
theorem KQ {sp : List (Int × Int)} {q : Int × Int} {i : Nat} (h : i < sp.length) : gt (sp ++ [q]) (i : Int) (0,0) = gt sp (i : Int) (0,0) := by
 rw [iW (by simp; omega),iW h,List.getElem_append_left h]
theorem aiL {last : List Int} {met : List (List Int)} {out : List Int} (h : PG last met out) {sp : List (Int × Int)} (hs : P7 sp met out) {c : Int} (h0 : 0 <= c) (h1 : c < 512) (hne : c ≠ 256) (la : Int) (hla : out ≠ [] -> la = ((out.length - last.length : Nat) : Int)) :
  match FN met last c with
  | none => ∃ R,aag dd ((out,sp,la,(last.length : Int)),c) = some (false,R)
  | some b => aag dd ((out,sp,la,(last.length : Int)),c) = some (decide (out.length + b.length <= 200),out ++ b,KP sp out last,(out.length : Int),(b.length : Int)) := by
 have hln := gG out
 have hls := gG sp
 have hlen := hs.1
 have ho1 := h.o1
 have hm1 := h.m1
 have hl1 := h.l1
 have start : ∀ R,Jc (Jb c (ln out) la (last.length : Int) out (KP sp out last)) = some R -> aag dd ((out,sp,la,(last.length : Int)),c) = some R := by
  intro R hk
  refine dL rfl ((ahX dd Jc ..).trans ?_); show (_ : Option (Bool × List Int × List (Int × Int) × Int × Int)) = some _
  unfold KP at hk
  by_cases c1 : 0 < out.length
  ·have aiM := hla (fun x => by rw [x] at c1; simp at c1)
   rw [au (by omega),aK (by omega) (by omega)]
   by_cases c2 : sp.length < 255
   ·rw [if_pos ⟨c1,c2⟩] at hk
    rw [au (by omega),if_pos (by omega),aK (by omega) (by omega)]
    rw [aiM] at hk ⊢
    exact hk
   ·rw [if_neg (fun x => c2 x.2)] at hk
    rw [aC (by omega)]
    exact hk
  ·rw [if_neg (fun x => c1 x.1)] at hk
   rw [aC (by omega)]
   exact hk
 have aml := gG (KP sp out last)
 unfold FN
 by_cases c1 : c < 256
 ·rw [if_pos c1]
  refine start _ ?_
  refine eL ((Nk dd Jc ..).trans ?_); show (_ : Option (Bool × List Int × List (Int × Int) × Int × Int)) = some _
  rw [au c1,if_pos (by omega),jT h0 c1]
  refine eL ((YF dd Jc ..).trans ?_); show (_ : Option (Bool × List Int × List (Int × Int) × Int × Int)) = some _
  have hl2 := gG (out.append [c])
  have hl3 : (out.append [c]).length = out.length + 1 := by show (out ++ [c]).length = _; simp
  rw [aK (by omega) (by omega)]
  have e1 : decide (ln (out.append [c]) <= 200) = decide (out.length + [c].length <= 200) := decide_eq_decide.2 (by rw [List.length_singleton]; omega)
  rw [e1,show ln (out.append [c]) - ln out = (([c] : List Int).length : Int) by rw [List.length_singleton]; omega,hln]
  rfl
 rw [if_neg c1]
 have w1 : wi (c - 257) = c - 257 := aK (by omega) (by omega)
 by_cases c2 : c - 257 < met.length
 ·rw [if_pos c2]
  refine start _ ?_
  obtain ⟨i,hi⟩ : ∃ i : Nat,c - 257 = i := ⟨(c - 257).toNat,by omega⟩
  have him : i < met.length := by omega
  obtain ⟨a,g1,g2,g3⟩ := hs.2 i him
  have hm2 := (h.m2 i him).1
  have hsl : i < (KP sp out last).length := by unfold KP; split <;> (try simp) <;> omega
  have hg : gt (KP sp out last) (i : Int) (0,0) = ((a : Int),(met[i].length : Int)) := by
   unfold KP; split
   ·rw [KQ (by omega)]; exact g1
   ·exact g1
  have hgm : gt met (c - 257) [] = met[i] := by rw [hi,iW him]
  refine eL ((Nk dd Jc ..).trans ?_); show (_ : Option (Bool × List Int × List (Int × Int) × Int × Int)) = some _
  rw [aC c1,au (by omega),w1,hi,au (by omega),if_pos (by omega),if_pos (by omega),hg]
  refine YX _ la _ _ a met[i].length out (by omega) (by omega) hln _ met[i].length 0 (by omega) ?_
  rw [EF _ g2, <- g3, <- hi,hgm,hln]
  simp
 rw [if_neg c2]
 by_cases c3 : c - 257 = met.length ∧ 0 < last.length ∧ met.length < 255
 ·rw [if_pos c3]
  refine start _ ?_
  obtain ⟨c3,c4,c5⟩ := c3
  have hpos : 0 < out.length := by omega
  have hsg : KP sp out last = sp ++ [(((out.length - last.length : Nat) : Int),(last.length : Int) + 1)] := by
   unfold KP; rw [if_pos ⟨hpos,by omega⟩]
  have hg : gt (KP sp out last) (met.length : Int) (0,0) = (((out.length - last.length : Nat) : Int),(last.length : Int) + 1) := by
   rw [hsg, <- hlen,iW (by simp)]; simp
  have hsl : (KP sp out last).length = met.length + 1 := by rw [hsg]; simp; omega
  refine eL ((Nk dd Jc ..).trans ?_); show (_ : Option (Bool × List Int × List (Int × Int) × Int × Int)) = some _
  rw [aC c1,au (by omega),w1,c3,au (by omega),if_pos (by omega),if_pos (by omega),hg]
  have := YX (ln out) la (last.length : Int) (KP sp out last) (out.length - last.length) (last.length + 1) out (by omega) (by omega) hln _ (last.length + 1) 0 (by omega) rfl
  rw [Vt h.l2 c4 hl1] at this
  rw [hln] at this ⊢
  have e : (out ++ (last ++ [jo last])).length = out.length + (last ++ [jo last]).length := by simp
  rw [e] at this
  have e2 : (((last ++ [jo last]).length : Nat) : Int) = ((last.length + 1 : Nat) : Int) := by simp
  rw [e2]
  exact this
 ·rw [if_neg c3]
  refine ⟨(out,KP sp out last,la,(last.length : Int)),start _ ?_⟩
  refine eL ((Nk dd Jc ..).trans ?_); show (_ : Option (Bool × List Int × List (Int × Int) × Int × Int)) = some _
  rw [aC c1]
  by_cases c4 : c ≥ 257
  ·have hsg : (KP sp out last).length = met.length ∨ ((KP sp out last).length = met.length + 1 ∧ 0 < out.length ∧ met.length < 255) := by
    unfold KP; split
    ·right; simp; omega
    ·left; exact hlen
   rw [au c4,w1,aC ?_]
   rcases hsg with q | ⟨q,q2,q3⟩
   ·omega
   ·have := h.l3 (fun x => by rw [x] at q2; simp at q2)
    omega
  ·rw [aC c4]
theorem P7.step {last : List Int} {met : List (List Int)} {out : List Int} (h : PG last met out) {sp : List (Int × Int)} (hs : P7 sp met out) {b : List Int} (h1 : 1 <= b.length) : P7 (KP sp out last) (rO met last b) (out ++ b) := by
 have hlen := hs.1
 have old : ∀ (i : Nat) (h : i < met.length),∃ a : Nat,gt sp (i : Int) (0,0) = ((a : Int),(met[i].length : Int)) ∧ a + met[i].length <= (out ++ b).length ∧ met[i] = ((out ++ b).drop a).take met[i].length := fun i hi => by
  obtain ⟨a,q1,q2,q3⟩ := hs.2 i hi
  exact ⟨a,q1,by simp; omega,by rw [P6 q2]; exact q3⟩
 have hl1 := h.l1
 have hiff : (0 < out.length ∧ sp.length < 255) ↔ (0 < last.length ∧ met.length < 255) := by
  constructor
  ·intro ⟨q1,q2⟩
   exact ⟨h.l3 (fun x => by rw [x] at q1; simp at q1),by omega⟩
  ·intro ⟨q1,q2⟩; exact ⟨by omega,by omega⟩
 unfold KP rO
 by_cases c : 0 < last.length ∧ met.length < 255
 ·rw [if_pos (hiff.2 c),if_pos c]
  refine ⟨by simp; omega,fun i hi => ?_⟩
  rcases Nat.lt_or_ge i met.length with q | q
  ·simp only [List.getElem_append_left q]
   rw [KQ (by omega)]
   exact old i q
  ·have hi' : i = met.length := by simp at hi; omega
   subst hi'
   have e : (met ++ [last ++ [jo b]])[met.length] = last ++ [jo b] := by simp
   simp only [e]
   refine ⟨out.length - last.length,?_,by simp; omega,?_⟩
   ·rw [<- hlen,iW (by simp)]; simp
   ·have hd : (out ++ b).drop (out.length - last.length) = last ++ b := by
     rw [List.drop_append_of_le_length (by omega), <- h.l2]
    rw [hd,List.length_append]
    obtain ⟨x,r,rfl⟩ : ∃ x r,b = x :: r := by
     cases b with
     | nil => simp at h1
     | cons x r => exact ⟨x,r,rfl⟩
    show last ++ [x] = (last ++ x :: r).take (last.length + 1)
    rw [List.take_length_add_append]
    rfl
 ·rw [if_neg (fun x => c (hiff.1 x)),if_neg c]
  exact ⟨hlen,old⟩
theorem aiN (n v : Int) (j : Nat) (hj : j <= 8) (h0 : 0 <= n) (h1 : n < 2 ^ j) (hv : v = 0 ∨ v = 1) : wi (↑(BitVec.ofInt IntKind.i64.bits n ||| BitVec.ofInt IntKind.i64.bits (v * 2 ^ j)).toNat : Int) = n + v * 2 ^ j := by
 have hp := pw j hj
 have hpn : ((2 ^ j : Nat) : Int) = 2 ^ j := by simp
 have e : (BitVec.ofInt IntKind.i64.bits n ||| BitVec.ofInt IntKind.i64.bits (v * 2 ^ j)).toNat = n.toNat + v.toNat * 2 ^ j := by
  rw [BitVec.toNat_or,BitVec.toNat_ofInt,BitVec.toNat_ofInt]
  show (n % 18446744073709551616).toNat ||| (v * 2 ^ j % 18446744073709551616).toNat = _
  have e1 : (n % 18446744073709551616).toNat = n.toNat := by omega
  have e2 : (v * 2 ^ j % 18446744073709551616).toNat = 2 ^ j * v.toNat := by
   rcases hv with rfl | rfl
   ·simp
   ·rw [Int.one_mul,Int.emod_eq_of_lt (by omega) (by omega), <- hpn,Int.toNat_natCast]; simp
  rw [e1,e2,Nat.or_comm, <- Nat.two_pow_add_eq_or_of_lt (by omega),Nat.mul_comm]
  omega
 rw [e]
 have : ((n.toNat + v.toNat * 2 ^ j : Nat) : Int) = n + v * 2 ^ j := by
  rcases hv with rfl | rfl
  ·simp; omega
  ·simp; omega
 rw [this]
 rcases hv with rfl | rfl <;> exact aK (by omega) (by omega)
theorem abT (l : List Int) (hb : gQ l) (hs : l.length <= 1000) (a : Nat) (ha : a + 9 <= 8 * l.length) (x2 x3 : Int) (out : List Int) (sp : List (Int × Int)) (R : List Int × Bool) : ∀ (k j : Nat),j + k = 9 ->
  l146 (Ja (kX l a 9) 9 9 l l ((a + 9 : Nat) : Int) false x2 x3 out sp) = some R -> l146 (Ja (kX l a j) 9 j l l ((a + j : Nat) : Int) false x2 x3 out sp) = some R
 | 0,j,h,hk => by
  have : j = 9 := by omega
  subst this; exact hk
 | k + 1,j,h,hk => by
  have hln := gG l
  have e8 : (((a + j : Nat) : Int)).tdiv 8 = (((a + j) / 8 : Nat) : Int) := by rw [td (by omega)]; omega
  have m8 : (((a + j : Nat) : Int)).tmod 8 = (((a + j) % 8 : Nat) : Int) := by rw [tm (by omega)]; omega
  have w8 : wi (((a + j) / 8 : Nat) : Int) = (((a + j) / 8 : Nat) : Int) := aK (by omega) (by omega)
  have mt : min ((((a + j) % 8 : Nat) : Int)).toNat IntKind.u8.bits = (a + j) % 8 := JF (by show (a + j) % 8 <= 8; omega)
  have mj : min ((j : Int)).toNat IntKind.i64.bits = j := JF (by show j <= 64; omega)
  have hg := gy hb (((a + j) / 8 : Nat) : Int)
  have hp := JE (m := (a + j) % 8) (by omega)
  have hpj := pw j (by omega)
  obtain ⟨n0,n1⟩ := zT l a j (by omega)
  have h01 := Sr l (a + j)
  have hv : wb (↑(BitVec.ofInt IntKind.u8.bits ((gt l (((a + j) / 8 : Nat) : Int) 0).fdiv (2 ^ ((a + j) % 8))) &&& BitVec.ofInt IntKind.u8.bits 1).toNat : Int) = lQ l (a + j) := by
   rw [fd (by omega),afi _ (Int.ediv_nonneg hg.1 (by omega))]; rfl
  have e : kX l a (j + 1) = kX l a j + lQ l (a + j) * 2 ^ j := rfl
  have next := abT l hb hs a ha x2 x3 out sp R k (j + 1) (by omega) hk
  rw [e] at next
  refine eL ((YE dd l146 ..).trans ?_)
  rw [au (by omega),e8,w8,m8,mt,mj,if_pos (by omega),if_pos (by omega),if_pos (by omega),if_pos (by omega),hv]
  have w1 : wi (lQ l (a + j)) = lQ l (a + j) := by rcases h01 with q | q <;> rw [q] <;> exact aK (by omega) (by omega)
  have w2 : wi (lQ l (a + j) * 2 ^ j) = lQ l (a + j) * 2 ^ j := by rcases h01 with q | q <;> rw [q] <;> exact aK (by omega) (by omega)
  rw [w1,w2,aiN _ _ j (by omega) n0 n1 h01,bg (by omega),bg (by omega)]
  exact next
theorem afB (l : List Int) (hb : gQ l) (hs : l.length <= 300) : ∀ (f j : Nat) (last : List Int) (met : List (List Int)) (out : List Int) (sp : List (Int × Int)) (la : Int),f + j = l.length + 1 -> PG last met out -> P7 sp met out -> (out ≠ [] -> la = ((out.length - last.length : Nat) : Int)) ->
  l146 (Nh l l ((9 * j : Nat) : Int) false la (last.length : Int) out sp) = some (y5 l f (9 * j) last met out)
 | 0,j,last,met,out,sp,la,h,_,_,_ => by
  have hln := gG l
  refine eL ((YD dd l146 ..).trans ?_)
  rw [cond_false,aC (by omega),aK (x := 8 * ln l) (by omega) (by omega),aK (by omega) (by omega),au (by omega)]
  rfl
 | f + 1,j,last,met,out,sp,la,h,hp,hsp,hla => by
  have hln := gG l
  refine eL ((YD dd l146 ..).trans ?_)
  rw [cond_false,aC (by omega),aK (x := 8 * ln l) (by omega) (by omega),aK (by omega) (by omega)]
  by_cases c : 9 * j + 9 <= 8 * l.length
  rotate_left
  ·rw [au (by omega)]
   show _ = some (if 9 * j + 9 <= 8 * l.length then _ else _)
   rw [if_neg c]
  rw [aC (by omega)]
  obtain ⟨n0,n1⟩ := zT l (9 * j) 9 (by omega)
  have n1 : kX l (9 * j) 9 < 512 := n1
  have st : y5 l (f + 1) (9 * j) last met out = (if kX l (9 * j) 9 = 256 then (if endOk l (9 * j + 9) then (out,true) else ([],false)) else
    match FN met last (kX l (9 * j) 9) with
    | none => ([],false)
    | some b => if out.length + b.length <= 200 then y5 l f (9 * j + 9) b (rO met last b) (out ++ b) else ([],false)) := by
   show (if 9 * j + 9 <= 8 * l.length then _ else _) = _
   rw [if_pos c]
  refine abT l hb (by omega) (9 * j) c la (last.length : Int) out sp _ 9 0 (by omega) ?_
  rw [st]
  refine eL ((YE dd l146 ..).trans ?_)
  rw [aC (by omega),cond_false]
  by_cases c2 : kX l (9 * j) 9 = 256
  ·rw [bJ c2,if_pos c2,aiK l hb (by omega) _ (by omega),Option.bind_some]
   cases endOk l (9 * j + 9) <;> rfl
  ·rw [aN c2,if_neg c2]
   have hD := aiL hp hsp n0 n1 c2 la hla
   cases hg : FN met last (kX l (9 * j) 9) with
   | none =>
    rw [hg] at hD
    obtain ⟨R,hD⟩ := hD
    rw [hD,Option.bind_some]; rfl
   | some b =>
    rw [hg] at hD
    dsimp only at hD ⊢
    rw [hD,Option.bind_some]
    obtain ⟨b1,b2,b3⟩ := P5 hp n0 n1 c2 hg
    by_cases c3 : out.length + b.length <= 200
    ·rw [if_pos c3,decide_eq_true c3]
     have := afB l hb hs f (j + 1) b (rO met last b) (out ++ b) (KP sp out last) (out.length : Int) (by omega) (hp.step b1 b2 c3) (hsp.step hp b2) (fun _ => by simp)
     rw [show 9 * (j + 1) = 9 * j + 9 by omega] at this
     exact this
    ·rw [if_neg c3,decide_eq_false c3]; rfl
def vW (l : List Int) : List Int × Bool := y5 l (l.length + 1) 0 [] [] []
theorem aiO (l : List Int) (hb : gQ l) (hs : l.length <= 300) : ae3 dd l = some (vW l) := by
 refine dL rfl ((ahW dd l146 ..).trans ?_)
 exact afB l hb hs (l.length + 1) 0 [] [] [] [] 0 (by omega) PG.nil ⟨rfl,fun i h => absurd h (Nat.not_lt_zero _)⟩ (fun h => absurd rfl h)
theorem P8 (l : List Int) : ∀ (f a : Nat) (last : List Int) (met : List (List Int)) (out : List Int),PG last met out -> gQ (y5 l f a last met out).1 ∧ (y5 l f a last met out).1.length <= 200
 | 0,_,_,_,_,_ => ⟨iQ,Nat.zero_le _⟩
 | f + 1,a,last,met,out,hp => by
  have no : gQ (([],false) : List Int × Bool).1 ∧ (([],false) : List Int × Bool).1.length <= 200 := ⟨iQ,Nat.zero_le _⟩
  have st : y5 l (f + 1) a last met out = if a + 9 <= 8 * l.length then
   (if kX l a 9 = 256 then (if endOk l (a + 9) then (out,true) else ([],false)) else
    match FN met last (kX l a 9) with
    | none => ([],false)
    | some b => if out.length + b.length <= 200 then y5 l f (a + 9) b (rO met last b) (out ++ b) else ([],false))
   else ([],false) := rfl
  rw [st]
  obtain ⟨n0,n1⟩ := zT l a 9 (by omega)
  have n1 : kX l a 9 < 512 := n1
  generalize kX l a 9 = c at *
  by_cases c1 : a + 9 <= 8 * l.length
  ·rw [if_pos c1]
   by_cases c2 : c = 256
   ·rw [if_pos c2]
    cases endOk l (a + 9) with
    | true => exact ⟨hp.o2,hp.o1⟩
    | false => exact no
   ·rw [if_neg c2]
    cases hg : FN met last c with
    | none => exact no
    | some b =>
     dsimp only
     by_cases c3 : out.length + b.length <= 200
     ·rw [if_pos c3]
      obtain ⟨b1,b2,b3⟩ := P5 hp n0 n1 c2 hg
      exact P8 l f _ _ _ _ (hp.step b1 b2 c3)
     ·rw [if_neg c3]; exact no
  ·rw [if_neg c1]; exact no
end T
end
section
namespace T
open Go Go.E Go.Proofs
theorem P9 {o : List (List Int)} {i : Nat} (h : i < o.length) : gt o (i : Int) [] = o[i] := iW h
theorem L80 (l : List Int) (hb : gQ l) (hs : l.length <= 300) : ∀ (f j : Nat) (last : List Int) (met : List (List Int)) (out : List Int),f + j = l.length + 1 -> PG last met out -> l80 (vU l last ((9 * j : Nat) : Int) out met) = some (y5 l f (9 * j) last met out)
 | 0,j,last,met,out,h,_ => by
  refine eL ((abm dd l80 ..).trans ?_); show (_ : Option (List Int × Bool)) = some _
  rw [au (by omega),afy l hb (by omega) (9 * j) (by omega),if_neg (by omega),Option.bind_some]
  rfl
 | f + 1,j,last,met,out,h,hp => by
  have hln := gG l
  have hlm := gG met
  have hll := gG last
  have hlo := gG out
  have ho1 := hp.o1
  have hm1 := hp.m1
  have hl1 := hp.l1
  refine eL ((abm dd l80 ..).trans ?_); show (_ : Option (List Int × Bool)) = some _
  rw [au (by omega),afy l hb (by omega) (9 * j) (by omega),Option.bind_some]
  by_cases c : 9 * j + 9 <= 8 * l.length
  rotate_left
  ·rw [if_neg c]
   show _ = some (if 9 * j + 9 <= 8 * l.length then _ else _)
   rw [if_neg c]; rfl
  rw [if_pos c]
  obtain ⟨n0,n1⟩ := zT l (9 * j) 9 (by omega)
  have n1 : kX l (9 * j) 9 < 512 := n1
  have st : y5 l (f + 1) (9 * j) last met out = (if kX l (9 * j) 9 = 256 then (if endOk l (9 * j + 9) then (out,true) else ([],false)) else
    match FN met last (kX l (9 * j) 9) with
    | none => ([],false)
    | some b => if out.length + b.length <= 200 then y5 l f (9 * j + 9) b (rO met last b) (out ++ b) else ([],false)) := if_pos c
  rw [st]
  have next : ∀ b,gQ b -> 1 <= b.length -> out.length + b.length <= 200 -> l80 (vU l b ((9 * j + 9 : Nat) : Int) (out ++ b) (rO met last b)) = some (y5 l f (9 * j + 9) b (rO met last b) (out ++ b)) := fun b b1 b2 b3 => by
   have := L80 l hb hs f (j + 1) b (rO met last b) (out ++ b) (by omega) (hp.step b1 b2 b3)
   rw [show 9 * (j + 1) = 9 * j + 9 by omega] at this
   exact this
  have w9 : wi (((9 * j : Nat) : Int) + 9) = ((9 * j + 9 : Nat) : Int) := by rw [aK (by omega) (by omega)]; omega
  have wm : wi (257 + ln met) = 257 + ln met := aK (by omega) (by omega)
  generalize kX l (9 * j) 9 = k at *
  dsimp only
  rw [Bool.not_true,cond_false,w9,wm]
  by_cases c2 : k = 256
  ·rw [bJ c2,if_pos c2]
   have w7 : (wi (((9 * j + 9 : Nat) : Int) + 7)).tdiv 8 = (((9 * j + 9 + 7) / 8 : Nat) : Int) := by rw [aK (by omega) (by omega),td (by omega)]; omega
   rw [w7,aK (by omega) (by omega)]
   by_cases c3 : (9 * j + 9 + 7) / 8 = l.length
   ·rw [tN (by omega),aiJ l hb (by omega) _ c3 (by omega),Option.bind_some]
    cases endOk l (9 * j + 9) <;> rfl
   ·rw [uN (by omega)]
    have : endOk l (9 * j + 9) = false := decide_eq_false fun x => c3 x.1
    rw [this]; rfl
  rw [aN c2,if_neg c2]
  have w2 : wi (k - 257) = k - 257 := aK (by omega) (by omega)
  have mG : ∀ b : List Int,(0 < last.length -> met.length < 255 -> rO met last b = met ++ [last ++ [jo b]]) ∧ (¬ (0 < last.length ∧ met.length < 255) -> rO met last b = met) := fun b => by
   unfold rO
   exact ⟨fun q1 q2 => if_pos ⟨q1,q2⟩,fun q => if_neg q⟩
  by_cases k1 : k < 256
  ·have hg : FN met last k = some [k] := if_pos k1
   have wb1 : wb k = k := jT n0 k1
   rw [au k1,hg,aK (by omega) (by omega),wb1]
   dsimp only
   by_cases k2 : out.length + 1 <= 200
   rotate_left
   ·rw [au (by omega),if_neg (by rw [List.length_singleton]; omega)]
   have hk2 : out.length + [k].length <= 200 := k2
   rw [aC (by omega),if_pos (by omega),if_pos hk2]
   have nx := next [k] (dI.2 ⟨⟨n0,k1⟩,iQ⟩) (by simp) (by simp; omega)
   by_cases c4 : 0 < last.length
   ·rw [au (by omega)]
    by_cases c5 : met.length < 255
    ·rw [au (by omega),if_pos (by omega),if_pos (by omega),if_pos (by omega)]
     rw [(mG [k]).1 c4 c5] at nx ⊢
     exact nx
    ·rw [aC (by omega)]
     rw [(mG [k]).2 (fun x => c5 x.2)] at nx ⊢
     exact nx
   ·rw [aC (by omega)]
    rw [(mG [k]).2 (fun x => c4 x.1)] at nx ⊢
    exact nx
  rw [aC k1,w2]
  by_cases k2 : k - 257 < met.length
  ·obtain ⟨i,hi⟩ : ∃ i : Nat,k - 257 = i := ⟨(k - 257).toNat,by omega⟩
   have him : i < met.length := by omega
   have hg : FN met last k = some met[i] := by
    unfold FN
    rw [if_neg k1,if_pos k2,hi,P9 him]
   have hm2 := hp.m2 i him
   obtain ⟨h2,a,h3,h4⟩ := hm2
   have hbm := hp.afA him
   have amn := gG met[i]
   rw [au (by omega),hi,if_pos (by omega),if_pos (by omega),hg,P9 him,aN (by omega),aK (by omega) (by omega)]
   simp only [Int.toNat_natCast,List.getElem?_eq_getElem him]
   by_cases k3 : out.length + met[i].length <= 200
   rotate_left
   ·rw [au (by omega),if_neg k3]
   rw [aC (by omega),if_pos (by omega),if_pos k3]
   have nx := next met[i] hbm (by omega) k3
   by_cases c4 : 0 < last.length
   ·rw [au (by omega)]
    by_cases c5 : met.length < 255
    ·rw [au (by omega),if_pos (by omega),if_pos (by omega),if_pos (by omega),if_pos (by omega)]
     rw [(mG met[i]).1 c4 c5] at nx ⊢
     exact nx
    ·rw [aC (by omega)]
     rw [(mG met[i]).2 (fun x => c5 x.2)] at nx ⊢
     exact nx
   ·rw [aC (by omega)]
    rw [(mG met[i]).2 (fun x => c4 x.1)] at nx ⊢
    exact nx
  rw [aC (by omega)]
  by_cases k3 : k - 257 = met.length
  rotate_left
  ·have hg : FN met last k = none := by
    unfold FN
    rw [if_neg k1,if_neg k2,if_neg (fun x => k3 x.1)]
   rw [aN (by omega),hg]
  rw [bJ (by omega)]
  by_cases c4 : 0 < last.length
  rotate_left
  ·have hg : FN met last k = none := by
    unfold FN
    rw [if_neg k1,if_neg k2,if_neg (fun x => c4 x.2.1)]
   rw [aC (by omega),hg]
  have c5 : met.length < 255 := by omega
  have hg : FN met last k = some (last ++ [jo last]) := by
   unfold FN
   rw [if_neg k1,if_neg k2,if_pos ⟨k3,c4,c5⟩]
  have hlen : (last.append [last.getD 0 0]).length = last.length + 1 := by show (last ++ [_]).length = _; simp
  have amo := gG (last.append [last.getD 0 0])
  rw [au (by omega),au (by omega),if_pos (by omega),if_pos (by omega),if_pos (by omega),aN (by omega),aK (by omega) (by omega),hg]
  dsimp only
  have hlen2 : (last ++ [jo last]).length = last.length + 1 := by simp
  by_cases k4 : out.length + (last.length + 1) <= 200
  rotate_left
  ·rw [au (by omega),if_neg (by omega)]
  have nx := next (last ++ [jo last]) (nH.2 ⟨hp.lastB,dI.2 ⟨KO hp.lastB,iQ⟩⟩) (by simp) (by omega)
  rw [aC (by omega),if_pos (by omega),au (by omega),au (by omega),if_pos (by omega),if_pos (by omega),if_pos (by omega),if_pos (by omega),if_pos (by omega)]
  rw [(mG (last ++ [jo last])).1 c4 c5] at nx ⊢
  exact nx
theorem D80 (l : List Int) (hb : gQ l) (hs : l.length <= 300) : r80 dd l = some (vW l) := by
 refine dL rfl ((b80 dd l80 ..).trans ?_)
 exact L80 l hb hs (l.length + 1) 0 [] [] [] (by omega) PG.nil
end T
end
section
namespace T
open Go Go.E Go.Proofs
def y7 (r : jc) : jc := (r.1,r.2.1,fD (r.2.1.toNat * r.1.toNat) (jU r.1.toNat r.2.1.toNat r.2.2))
theorem tX {r : jc} {W H : Nat} (hn : iq r W H) : y7 r = ((W : Int),(H : Int),fD (H * W) (jU W H r.2.2)) := by
 unfold y7
 rw [hn.w,hn.h,Int.toNat_natCast,Int.toNat_natCast]
theorem Dt {r : jc} {W H : Nat} (hn : iq r W H) : iq (y7 r) W H := by rw [tX hn]; exact Sl hn
def jK (k : Int) (r : jc) : List Int := if k = 68 then wU r else if k = 85 then wU (y7 r) else if k = 82 then Ji r else Dp (wU r)
theorem EG (k : Int) {r : jc} {W H : Nat} (hn : iq r W H) : gQ (jK k r) ∧ (jK k r).length <= 230 := by
 unfold jK
 split
 ·have := qG hn; exact ⟨this.1,by omega⟩
 split
 ·have := qG (Dt hn); exact ⟨this.1,by omega⟩
 split
 ·have := Vr hn; exact ⟨this.1,by omega⟩
 ·exact YQ (qG hn).1
def iO (k : Int) (note : List Int) (r : jc) : List Int := k :: (note.length : Int) :: (note ++ jK k r ++ xJ (sumP (jK k r)))
instance (k : Int) : Decidable (kindOk k) := inferInstanceAs (Decidable (k = 68 ∨ k = 85 ∨ k = 82 ∨ k = 80))
def wW (k : Int) (note : List Int) (r : jc) : List Int := if kindOk k ∧ note.length <= 9 ∧ qF r = true then iO k note r else []
theorem Qa {n : Int} (h : 0 <= n ∧ n < 4294967296) : gQ (xJ n) := by
 unfold xJ
 exact dI.2 ⟨by omega,dI.2 ⟨by omega,dI.2 ⟨by omega,dI.2 ⟨by omega,iQ⟩⟩⟩⟩
theorem KR {k : Int} (hk : kindOk k) {note : List Int} (hb : gQ note) (hl : note.length <= 9) {r : jc} {W H : Nat} (hn : iq r W H) : gQ (iO k note r) ∧ (iO k note r).length <= 250 := by
 obtain ⟨b1,b2⟩ := EG k hn
 refine ⟨dI.2 ⟨by rcases hk with q | q | q | q <;> omega,dI.2 ⟨by omega,nH.2 ⟨nH.2 ⟨hb,b1⟩,Qa (Gn b1)⟩⟩⟩,?_⟩
 unfold iO xJ
 simp
 omega
theorem D45 (k : Int) : r45 dd k = some (decide (kindOk k)) := by
 refine dL rfl ((b45 dd l45 ..).trans ?_); show (_ : Option Bool) = some _
 by_cases h1 : k = 68
 ·rw [bJ h1,decide_eq_true (.inl h1)]
 rw [aN h1]
 by_cases h2 : k = 85
 ·rw [bJ h2,decide_eq_true (.inr (.inl h2))]
 rw [aN h2]
 by_cases h3 : k = 82
 ·rw [bJ h3,decide_eq_true (.inr (.inr (.inl h3)))]
 rw [aN h3]
 by_cases h4 : k = 80
 ·rw [decide_eq_true (.inr (.inr (.inr h4))),beq_iff_eq.2 h4]
 ·rw [decide_eq_false (fun h => h.elim h1 fun h => h.elim h2 fun h => h.elim h3 h4),beq_eq_false_iff_ne.2 h4]
theorem D88 (k : Int) {r : jc} {W H : Nat} (hn : iq r W H) : r88 dd (k,r) = some (jK k r) := by
 have h9 := afp hn
 have hf := D78 hn
 have hf9 := afp (Sl hn)
 have hr := aiG hn
 have hp := aiC (wU r) (qG hn).1
 have hfl := tX hn
 obtain ⟨w,h,l⟩ := r
 refine dL rfl ((b88 dd l88 ..).trans ?_); unfold jK
 by_cases h1 : k = 68
 ·rw [bJ h1,if_pos h1,h9]; rfl
 rw [aN h1,if_neg h1]
 by_cases h2 : k = 85
 ·rw [bJ h2,if_pos h2,hf,Option.bind_some,hf9,hfl]; rfl
 rw [aN h2,if_neg h2]
 by_cases h3 : k = 82
 ·rw [bJ h3,if_pos h3,hr]; rfl
 rw [aN h3,if_neg h3,h9,Option.bind_some,hp]; rfl
theorem D51 {k : Int} {note : List Int} (hl : note.length <= 9) {r : jc} {W H : Nat} (hn : iq r W H) : r51 dd (k,note,r) = some (iO k note r) := by
 obtain ⟨b1,b2⟩ := EG k hn
 have hln := gG note
 have h8 := D88 k hn
 obtain ⟨w,h,l⟩ := r
 refine dL rfl ((b51 dd l51 ..).trans ?_)
 rw [h8,Option.bind_some,jT (by omega) (by omega),if_pos (by omega),if_pos (by simp; omega),D47 _ (by show (jK k (w,h,l)).length < _; omega) b1,Option.bind_some,if_pos (by simp [xJ]; omega)]
 unfold iO
 rw [hln]
 rfl
theorem D53 (k : Int) (note : List Int) (hs : note.length <= 100000) (r : jc) (hr : Sh r.2.2) : r53 dd (k,note,r) = some (wW k note r) := by
 have ho := D48 r hr
 have hln := gG note
 have h5 : ∀ W H,iq r W H -> note.length <= 9 -> r51 dd (k,note,r) = some (iO k note r) := fun W H hn hl => D51 hl hn
 have key : r53 dd (k,note,r) = some (wW k note r) := by
  unfold wW
  obtain ⟨w,h,l⟩ := r
  refine dL rfl ((b53 dd l53 ..).trans ?_); show (_ : Option (List Int)) = some _
  rw [D45,Option.bind_some]
  by_cases c1 : kindOk k
  rotate_left
  ·rw [decide_eq_false c1,if_neg (fun x => c1 x.1)]; rfl
  rw [decide_eq_true c1,Bool.not_true,cond_false]
  by_cases c2 : note.length <= 9
  rotate_left
  ·rw [au (by omega),if_neg (fun x => c2 x.2.1)]
  rw [aC (by omega),ho,Option.bind_some]
  cases c3 : qF (w,h,l) with
  | false => rw [if_neg (fun x => by simp at x)]; rfl
  | true =>
   obtain ⟨W,H,hn⟩ := nI.1 c3
   rw [Bool.not_true,cond_false,h5 W H hn c2,if_pos ⟨c1,c2,rfl⟩]; rfl
 exact key
def wX (r : jc) : List Int := if qF r = true then iO 80 [] r else []
theorem D28 (r : jc) (hr : Sh r.2.2) : r28 dd r = some (wX r) := by
 have ho := D48 r hr
 have h5 : ∀ W H,iq r W H -> r51 dd (80,[],r) = some (iO 80 [] r) := fun W H hn => D51 (by simp) hn
 unfold wX
 obtain ⟨w,h,l⟩ := r
 refine dL rfl ((b28 dd l28 ..).trans ?_)
 rw [ho,Option.bind_some]
 cases c3 : qF (w,h,l) with
 | false => rfl
 | true =>
  obtain ⟨W,H,hn⟩ := nI.1 c3
  rw [Bool.not_true,cond_false,h5 W H hn]; rfl
theorem aiP {r : jc} {W H : Nat} (hn : iq r W H) : acI dd ((),r) = some (jK 68 r) := by
 have h1 := ac3 hn
 obtain ⟨w,h,l⟩ := r
 refine dL rfl ((ahD dd ahE ..).trans ?_)
 rw [h1]; rfl
theorem aiQ {r : jc} {W H : Nat} (hn : iq r W H) : acK dd ((),r) = some (jK 85 r) := by
 have h1 := afq hn
 have h2 := ac3 (Sl hn)
 have h3 := tX hn
 obtain ⟨w,h,l⟩ := r
 refine dL rfl ((ahN dd ahO ..).trans ?_)
 rw [h1,Option.bind_some,h2, <- h3]; rfl
theorem afC {r : jc} {W H : Nat} (hn : iq r W H) : aaf dd ((),r) = some (jK 82 r) := aiF hn
theorem aiR {r : jc} {W H : Nat} (hn : iq r W H) : acN dd ((),r) = some (jK 80 r) := by
 have h1 := ac3 hn
 have h2 := aiB (wU r) (qG hn).1
 obtain ⟨w,h,l⟩ := r
 refine dL rfl ((ahU dd ahV ..).trans ?_)
 rw [h1,Option.bind_some,h2]; rfl
theorem Gq {k : Int} {note : List Int} (hl : note.length <= 9) {r : jc} {W H : Nat} (hn : iq r W H) {wr : Option (List Int)} (hw : wr = some (jK k r)) :
  (wr.bind fun (iy : List Int) => (Vz dd iy).bind fun (kQ : Int × Int × Int × Int) => if 0 <= wi (wi (wi (2 + ln note) + ln iy) + 4) then if wi (wi (wi (2 + ln note) + ln iy) + 4) * ((1 : Nat) : Int) <= 140737488355328 then if (2 + note.length) * 1 <= 140737488355328 then if ((k :: wb (ln note) :: note).length + iy.length) * 1 <= 140737488355328 then if ((k :: wb (ln note) :: note.append iy).length + 4) * 1 <= 140737488355328 then some (k :: wb (ln note) :: (note.append iy).append [kQ.fst,kQ.snd.fst,kQ.snd.snd.fst,kQ.snd.snd.snd]) else none else none else none else none else none) = some (iO k note r) := by
 obtain ⟨b1,b2⟩ := EG k hn
 have hln := gG note
 have hlb := gG (jK k r)
 rw [hw,Option.bind_some,D40 _ (by show (jK k r).length < _; omega) b1,Option.bind_some,aK (x := 2 + ln note) (by omega) (by omega),aK (x := 2 + ln note + ln (jK k r)) (by omega) (by omega),aK (by omega) (by omega),if_pos (by omega),if_pos (by omega),if_pos (by omega),if_pos (by simp; omega),if_pos (by simp; omega),jT (by omega) (by omega)]
 unfold iO xJ
 rw [hln]
 rfl
theorem D22 (k : Int) (note : List Int) (hs : note.length <= 100000) (r : jc) (hr : Sh r.2.2) : r22 dd (k,note,r) = some (wW k note r) := by
 have ho := D39 r hr
 have hln := gG note
 have w1 : ∀ W H,iq r W H -> acI dd ((),r) = some (jK 68 r) := fun W H hn => aiP hn
 have w2 : ∀ W H,iq r W H -> acK dd ((),r) = some (jK 85 r) := fun W H hn => aiQ hn
 have w3 : ∀ W H,iq r W H -> aaf dd ((),r) = some (jK 82 r) := fun W H hn => afC hn
 have w4 : ∀ W H,iq r W H -> acN dd ((),r) = some (jK 80 r) := fun W H hn => aiR hn
 unfold wW
 obtain ⟨w,h,l⟩ := r
 refine dL rfl ((b22 dd l22 ..).trans ?_); show (_ : Option (List Int)) = some _
 by_cases h1 : k = 68
 ·subst h1
  rw [bJ rfl]
  by_cases c2 : note.length <= 9
  rotate_left
  ·rw [au (by omega),if_neg (fun x => c2 x.2.1)]
  rw [aC (by omega),ho,Option.bind_some]
  cases c3 : qF (w,h,l) with
  | false => rw [if_neg (fun x => by simp at x)]; rfl
  | true =>
   obtain ⟨W,H,hn⟩ := nI.1 c3
   rw [if_pos ⟨.inl rfl,c2,rfl⟩]
   exact Gq c2 hn (w1 W H hn)
 rw [aN h1]
 by_cases h2 : k = 85
 ·subst h2
  rw [bJ rfl]
  by_cases c2 : note.length <= 9
  rotate_left
  ·rw [au (by omega),if_neg (fun x => c2 x.2.1)]
  rw [aC (by omega),ho,Option.bind_some]
  cases c3 : qF (w,h,l) with
  | false => rw [if_neg (fun x => by simp at x)]; rfl
  | true =>
   obtain ⟨W,H,hn⟩ := nI.1 c3
   rw [if_pos ⟨.inr (.inl rfl),c2,rfl⟩]
   exact Gq c2 hn (w2 W H hn)
 rw [aN h2]
 by_cases h3 : k = 82
 ·subst h3
  rw [bJ rfl]
  by_cases c2 : note.length <= 9
  rotate_left
  ·rw [au (by omega),if_neg (fun x => c2 x.2.1)]
  rw [aC (by omega),ho,Option.bind_some]
  cases c3 : qF (w,h,l) with
  | false => rw [if_neg (fun x => by simp at x)]; rfl
  | true =>
   obtain ⟨W,H,hn⟩ := nI.1 c3
   rw [if_pos ⟨.inr (.inr (.inl rfl)),c2,rfl⟩]
   exact Gq c2 hn (w3 W H hn)
 rw [aN h3]
 by_cases h4 : k = 80
 ·subst h4
  rw [bJ rfl]
  by_cases c2 : note.length <= 9
  rotate_left
  ·rw [au (by omega),if_neg (fun x => c2 x.2.1)]
  rw [aC (by omega),ho,Option.bind_some]
  cases c3 : qF (w,h,l) with
  | false => rw [if_neg (fun x => by simp at x)]; rfl
  | true =>
   obtain ⟨W,H,hn⟩ := nI.1 c3
   rw [if_pos ⟨.inr (.inr (.inr rfl)),c2,rfl⟩]
   exact Gq c2 hn (w4 W H hn)
 rw [aN h4,if_neg (fun x => x.1.elim h1 fun h => h.elim h2 fun h => h.elim h3 h4)]
theorem D24 (r : jc) (hr : Sh r.2.2) : r24 dd r = some (wX r) := by
 have h1 := D22 80 [] (by simp) r hr
 have e : wW 80 [] r = wX r := by
  unfold wW wX
  by_cases c : qF r = true
  ·rw [if_pos ⟨.inr (.inr (.inr rfl)),by simp,c⟩,if_pos c]
  ·rw [if_neg (fun x => c x.2.2),if_neg c]
 obtain ⟨w,h,l⟩ := r
 refine dL rfl ((b24 dd l24 ..).trans ?_)
 rw [h1,e]; rfl
end T
end
section
namespace T
open Go Go.E Go.Proofs
def badR : jc := (0,0,[])
def oW (k : Int) (b : List Int) : jc × Bool :=
 if k = 68 then jG b
 else if k = 85 then (if (jG b).2 = true then (y7 (jG b).1,true) else (badR,false))
 else if k = 82 then o9 b
 else if (vW b).2 = true then jG (vW b).1 else (badR,false)
theorem y8 {a : List Int} (hb : gQ a) (h : (jG a).2 = true) : ∃ W H,iq (jG a).1 W H := by
 refine aaq hb ?_
 unfold jG at h
 cases c : zW a with
 | true => rfl
 | false => rw [c] at h; cases h
theorem EH (l : List Int) : gQ (vW l).1 ∧ (vW l).1.length <= 200 := P8 l _ _ _ _ _ PG.nil
theorem Uo {k : Int} {b : List Int} (hb : gQ b) (h : (oW k b).2 = true) : ∃ W H,iq (oW k b).1 W H := by
 unfold oW at h ⊢
 split
 ·rename_i c; rw [if_pos c] at h; exact y8 hb h
 rename_i c; rw [if_neg c] at h
 split
 ·rename_i c2; rw [if_pos c2] at h
  split
  ·rename_i c3
   obtain ⟨W,H,hn⟩ := y8 hb c3
   exact ⟨W,H,Dt hn⟩
  ·rename_i c3; rw [if_neg c3] at h; cases h
 rename_i c2; rw [if_neg c2] at h
 split
 ·rename_i c3; rw [if_pos c3] at h; exact aas hb h
 rename_i c3; rw [if_neg c3] at h
 split
 ·rename_i c4; rw [if_pos c4] at h; exact y8 (EH b).1 h
 ·rename_i c4; rw [if_neg c4] at h; cases h
theorem D46 (k : Int) (b : List Int) (hb : gQ b) (hs : b.length <= 300) : ∃ out,r46 dd (k,b) = some out ∧ EC out (oW k b) := by
 have h77 := D77 b hb (by omega)
 unfold oW
 by_cases h1 : k = 68
 ·refine ⟨jG b,?_,by rw [if_pos h1]; exact oh _⟩
  refine dL rfl ((b46 dd l46 ..).trans ?_)
  rw [bJ h1,h77]; rfl
 rw [if_neg h1]
 by_cases h2 : k = 85
 ·rw [if_pos h2]
  cases c : (jG b).2 with
  | false =>
   refine ⟨(badR,false),?_,oh _⟩
   refine dL rfl ((b46 dd l46 ..).trans ?_)
   rw [aN h1,bJ h2,h77,Option.bind_some,c]; rfl
  | true =>
   obtain ⟨W,H,hn⟩ := y8 hb c
   refine ⟨(y7 (jG b).1,true),?_,oh _⟩
   have hf := D78 hn
   rw [<- tX hn] at hf
   refine dL rfl ((b46 dd l46 ..).trans ?_)
   rw [aN h1,bJ h2,h77,Option.bind_some,c,Bool.not_true,cond_false,hf]; rfl
 rw [if_neg h2]
 by_cases h3 : k = 82
 ·rw [if_pos h3]
  obtain ⟨out,o1,o2⟩ := D79 b hb (by omega)
  refine ⟨out,?_,o2⟩
  refine dL rfl ((b46 dd l46 ..).trans ?_)
  rw [aN h1,aN h2,bJ h3,o1]; rfl
 rw [if_neg h3]
 have h80 := D80 b hb hs
 cases c : (vW b).2 with
 | false =>
  refine ⟨(badR,false),?_,oh _⟩
  refine dL rfl ((b46 dd l46 ..).trans ?_)
  rw [aN h1,aN h2,aN h3,h80,Option.bind_some,c]; rfl
 | true =>
  have hp := EH b
  refine ⟨jG (vW b).1,?_,oh _⟩
  refine dL rfl ((b46 dd l46 ..).trans ?_)
  rw [aN h1,aN h2,aN h3,h80,Option.bind_some,c,Bool.not_true,cond_false,D77 _ hp.1 (by omega)]; rfl
theorem aiT (b : List Int) (hb : gQ b) (hs : b.length <= 300) : acH dd ((),b) = some (oW 68 b) := by
 refine dL rfl ((ahB dd ahC ..).trans ?_)
 rw [ac4 b hb (by omega)]; rfl
theorem aiU (b : List Int) (hb : gQ b) (hs : b.length <= 300) : acJ dd ((),b) = some (oW 85 b) := by
 refine dL rfl ((ahL dd ahM ..).trans ?_)
 show _ = some (if (jG b).2 = true then (y7 (jG b).1,true) else (badR,false))
 rw [ac4 b hb (by omega),Option.bind_some]
 cases c : (jG b).2 with
 | false => rfl
 | true =>
  obtain ⟨W,H,hn⟩ := y8 hb c
  have hf := afq hn
  rw [<- tX hn] at hf
  rw [Bool.not_true,cond_false,hf]; rfl
theorem afD (b : List Int) (hb : gQ b) (hs : b.length <= 300) : aae dd ((),b) = some (oW 82 b) := aiH b hb (by omega)
theorem aiV (b : List Int) (hb : gQ b) (hs : b.length <= 300) : acM dd ((),b) = some (oW 80 b) := by
 have hp := EH b
 refine dL rfl ((ahS dd ahT ..).trans ?_)
 show _ = some (if (vW b).2 = true then jG (vW b).1 else (badR,false))
 rw [aiO b hb hs,Option.bind_some]
 cases c : (vW b).2 with
 | false => rfl
 | true => rw [Bool.not_true,cond_false,ac4 _ hp.1 (by omega)]; rfl
def pV (a : List Int) : List Int := (a.take (a.length - 4)).drop (2 + (a.getD 1 0).toNat)
def xA (a : List Int) : Bool := decide (2 <= a.length ∧ a.getD 1 0 <= 9 ∧ 6 + (a.getD 1 0).toNat <= a.length) && (decide (xJ (sumP (pV a)) = a.drop (a.length - 4)) && (oW (a.getD 0 0) (pV a)).2)
def lG (a : List Int) : jc × Int := if a = [] then (badR,2) else if ¬ kindOk (a.getD 0 0) then (badR,2) else if xA a = true then ((oW (a.getD 0 0) (pV a)).1,1) else (badR,3)
theorem D26 (a : List Int) (hb : gQ a) (hs : a.length <= 300) : r26 dd a = some (lG a) := by
 have hln := gG a
 have b0 := iI hb 0
 have b1 := iI hb 1
 refine dL rfl ((b26 dd l26 ..).trans ?_); unfold lG
 by_cases c0 : a = []
 ·rw [if_pos c0,bJ (by rw [c0]; rfl)]; rfl
 have hpos := List.length_pos_iff.2 c0
 rw [if_neg c0,aN (by omega),if_pos (by omega),D45,Option.bind_some]
 by_cases c1 : kindOk (a.getD 0 0)
 rotate_left
 ·rw [decide_eq_false c1,if_pos c1]; rfl
 have hk : ¬ ¬ kindOk (a.getD 0 0) := fun h => h c1
 rw [decide_eq_true c1,if_neg hk,Bool.not_true,cond_false]
 have no : ¬ (2 <= a.length ∧ a.getD 1 0 <= 9 ∧ 6 + (a.getD 1 0).toNat <= a.length) -> xA a = false := fun h => by unfold xA; rw [decide_eq_false h]; rfl
 by_cases c2 : 2 <= a.length
 rotate_left
 ·rw [au (by omega),no (fun h => c2 h.1)]; rfl
 rw [aC (by omega),if_pos (by omega),oU b1]
 by_cases c3 : a.getD 1 0 <= 9
 rotate_left
 ·rw [au (by omega),no (fun h => c3 h.2.1)]; rfl
 rw [aC (by omega),if_pos (by omega),aK (x := 6 + a.getD 1 0) (by omega) (by omega)]
 by_cases c4 : 6 + (a.getD 1 0).toNat <= a.length
 rotate_left
 ·rw [au (by omega),no (fun h => c4 h.2.2)]; rfl
 have w1 : wi (2 + a.getD 1 0) = ((2 + (a.getD 1 0).toNat : Nat) : Int) := by rw [aK (by omega) (by omega)]; omega
 have w2 : wi (ln a - 4) = ((a.length - 4 : Nat) : Int) := by rw [aK (by omega) (by omega)]; omega
 rw [aC (by omega),if_pos (by omega),w1,w2,if_pos (by omega),if_pos (by omega),if_pos (by omega),if_pos (by omega),Int.toNat_natCast,Int.toNat_natCast]
 have hmb : gQ (pV a) := ig (kW hb _) _
 have hml : (pV a).length <= 300 := by unfold pV; simp; omega
 obtain ⟨out,o1,o2⟩ := D46 (a.getD 0 0) (pV a) hmb hml
 show (r46 dd (a.getD 0 0,pV a)).bind _ = _
 rw [o1,Option.bind_some,same_eq (fun y hy => by
  simp only [List.mem_cons,List.not_mem_nil,or_false] at hy
  rcases hy with h | h <;> exact h)]
 have hg : xA a = (decide (xJ (sumP (pV a)) = a.drop (a.length - 4)) && (oW (a.getD 0 0) (pV a)).2) := by
  unfold xA; rw [decide_eq_true ⟨c2,c3,c4⟩,Bool.true_and]
 rw [hg]
 cases c5 : (oW (a.getD 0 0) (pV a)).2 with
 | false =>
  rw [o2.1,c5,Bool.and_false]; rfl
 | true =>
  have hout := o2.2 c5
  subst hout
  rw [c5,Bool.not_true,cond_false,if_pos (by omega),if_pos (by omega)]
  show (r47 dd (pV a)).bind _ = _
  rw [D47 _ (by show (pV a).length < _; omega) hmb,Option.bind_some,abG (Qa (Gn hmb)) (ig hb _),Bool.and_true]
  by_cases c6 : xJ (sumP (pV a)) = a.drop (a.length - 4)
  rotate_left
  ·rw [decide_eq_false c6]; rfl
  obtain ⟨W,H,hn⟩ := Uo hmb c5
  have hm := jJ hn.h6 hn.w6
  have hl := hn.len
  rw [decide_eq_true c6,Bool.not_true,cond_false,D48 _ (by show (oW (a.getD 0 0) (pV a)).1.2.2.length < _; omega),Option.bind_some,nI.2 ⟨W,H,hn⟩]; rfl
theorem aat {x : List Int} (h : x.length = 4) {n : Int} : (n / 16777216 == x.getD 0 0 && (n / 65536 % 256 == x.getD 1 0 && (n / 256 % 256 == x.getD 2 0 && (n % 256 == x.getD 3 0 && true)))) = decide (xJ n = x) := by
 match x,h with
 | [a,b,c,d],_ =>
  unfold xJ
  show (n / 16777216 == a && (n / 65536 % 256 == b && (n / 256 % 256 == c && (n % 256 == d && true)))) = _
  by_cases q : [n / 16777216,n / 65536 % 256,n / 256 % 256,n % 256] = [a,b,c,d]
  ·rw [decide_eq_true q]
   simp only [List.cons.injEq,and_true] at q
   obtain ⟨q1,q2,q3,q4⟩ := q
   rw [q1,q2,q3,q4]; simp
  ·rw [decide_eq_false q]
   cases h1 : (n / 16777216 == a && (n / 65536 % 256 == b && (n / 256 % 256 == c && (n % 256 == d && true)))) with
   | false => rfl
   | true =>
    simp only [Bool.and_eq_true,beq_iff_eq] at h1
    obtain ⟨q1,q2,q3,q4,_⟩ := h1
    exact absurd (by rw [q1,q2,q3,q4]) q
theorem Du (a : List Int) (hb : gQ a) (hs : a.length <= 300) (c0 : 0 < a.length) (c1 : kindOk (a.getD 0 0)) (rd : List Int -> Option (jc × Bool)) (hrd : ∀ b,gQ b -> b.length <= 300 -> rd b = some (oW (a.getD 0 0) b)) :
  (bif decide (ln a < 2) then some ((0,0,[]),3) else if 1 < ln a then bif decide (wi (a.getD 1 0) > 9) then some ((0,0,[]),3) else if 1 < ln a then bif decide (wi (ln a - 4) < wi (2 + wi (a.getD 1 0))) then some ((0,0,[]),3) else if 0 <= wi (2 + wi (a.getD 1 0)) then if wi (2 + wi (a.getD 1 0)) <= wi (ln a - 4) then if wi (ln a - 4) <= ln a then if 0 <= wi (ln a - 4) then if wi (ln a - 4) <= ln a then if 4 <= (List.drop (wi (ln a - 4)).toNat a).length then if 4 <= (List.drop (wi (ln a - 4)).toNat a).length then (Vz dd (List.drop (wi (2 + wi (a.getD 1 0))).toNat (List.take (wi (ln a - 4)).toNat a))).bind fun (r : Int × Int × Int × Int) => bif !(r.fst == (List.drop (wi (ln a - 4)).toNat a).getD 0 0 && (r.snd.fst == (List.drop (wi (ln a - 4)).toNat a).getD 1 0 && (r.snd.snd.fst == (List.drop (wi (ln a - 4)).toNat a).getD 2 0 && (r.snd.snd.snd == (List.drop (wi (ln a - 4)).toNat a).getD 3 0 && true)))) then some ((0,0,[]),3) else (rd (List.drop (wi (2 + wi (a.getD 1 0))).toNat (List.take (wi (ln a - 4)).toNat a))).bind fun (r : jc × Bool) => bif !r.snd then some ((0,0,[]),3) else some (r.fst,1) else none else none else none else none else none else none else none else none else none) = some (lG a) := by
 have hln := gG a
 have b1 := iI hb 1
 have ne : a ≠ [] := fun x => by rw [x] at c0; simp at c0
 unfold lG
 have hk : ¬ ¬ kindOk (a.getD 0 0) := fun h => h c1
 rw [if_neg ne,if_neg hk]
 have no : ¬ (2 <= a.length ∧ a.getD 1 0 <= 9 ∧ 6 + (a.getD 1 0).toNat <= a.length) -> xA a = false := fun h => by unfold xA; rw [decide_eq_false h]; rfl
 by_cases c2 : 2 <= a.length
 rotate_left
 ·rw [au (by omega),no (fun h => c2 h.1)]; rfl
 rw [aC (by omega),if_pos (by omega),oU b1]
 by_cases c3 : a.getD 1 0 <= 9
 rotate_left
 ·rw [au (by omega),no (fun h => c3 h.2.1)]; rfl
 have w1 : wi (2 + a.getD 1 0) = ((2 + (a.getD 1 0).toNat : Nat) : Int) := by rw [aK (by omega) (by omega)]; omega
 rw [aC (by omega),if_pos (by omega),w1]
 by_cases c4 : 6 + (a.getD 1 0).toNat <= a.length
 rotate_left
 ·have w2 : wi (ln a - 4) = ln a - 4 := aK (by omega) (by omega)
  rw [w2,au (by omega),no (fun h => c4 h.2.2)]; rfl
 have w2 : wi (ln a - 4) = ((a.length - 4 : Nat) : Int) := by rw [aK (by omega) (by omega)]; omega
 have hdl : (a.drop (a.length - 4)).length = 4 := by simp; omega
 have hmb : gQ (pV a) := ig (kW hb _) _
 have hml : (pV a).length <= 300 := by unfold pV; simp; omega
 rw [w2,aC (by omega),if_pos (by omega),if_pos (by omega),if_pos (by omega),if_pos (by omega),if_pos (by omega),Int.toNat_natCast,Int.toNat_natCast,if_pos (by omega),if_pos (by omega)]
 show (Vz dd (pV a)).bind (fun r => bif !(_ && _) then _ else (rd (pV a)).bind _) = _
 rw [D40 _ (by show (pV a).length < _; omega) hmb,Option.bind_some,hrd _ hmb hml,aat hdl]
 have hg : xA a = (decide (xJ (sumP (pV a)) = a.drop (a.length - 4)) && (oW (a.getD 0 0) (pV a)).2) := by
  unfold xA; rw [decide_eq_true ⟨c2,c3,c4⟩,Bool.true_and]
 rw [hg]
 cases decide (xJ (sumP (pV a)) = a.drop (a.length - 4)) with
 | false => rfl
 | true =>
  rw [Bool.not_true,cond_false,Option.bind_some,Bool.true_and]
  cases (oW (a.getD 0 0) (pV a)).2 <;> rfl
theorem D20 (a : List Int) (hb : gQ a) (hs : a.length <= 300) : r20 dd a = some (lG a) := by
 have hln := gG a
 refine dL rfl ((b20 dd l20 ..).trans ?_)
 by_cases c0 : a = []
 ·rw [bJ (by rw [c0]; rfl)]
  unfold lG; rw [if_pos c0]; rfl
 have hpos := List.length_pos_iff.2 c0
 rw [aN (by omega),if_pos (by omega)]
 by_cases h1 : a.getD 0 0 = 68
 ·rw [bJ h1]
  exact Du a hb hs hpos (.inl h1) (fun b => acH dd ((),b)) fun b q1 q2 => by rw [h1]; exact aiT b q1 q2
 rw [aN h1]
 by_cases h2 : a.getD 0 0 = 85
 ·rw [bJ h2]
  exact Du a hb hs hpos (.inr (.inl h2)) (fun b => acJ dd ((),b)) fun b q1 q2 => by rw [h2]; exact aiU b q1 q2
 rw [aN h2]
 by_cases h3 : a.getD 0 0 = 82
 ·rw [bJ h3]
  exact Du a hb hs hpos (.inr (.inr (.inl h3))) (fun b => aae dd ((),b)) fun b q1 q2 => by rw [h3]; exact afD b q1 q2
 rw [aN h3]
 by_cases h4 : a.getD 0 0 = 80
 ·rw [bJ h4]
  exact Du a hb hs hpos (.inr (.inr (.inr h4))) (fun b => acM dd ((),b)) fun b q1 q2 => by rw [h4]; exact aiV b q1 q2
 rw [aN h4]
 unfold lG
 rw [if_neg c0,if_pos (fun x => x.elim h1 fun h => h.elim h2 fun h => h.elim h3 h4)]; rfl
theorem YZ {a : List Int} (hb : gQ a) (h : (lG a).2 = 1) : ∃ W H,iq (lG a).1 W H := by
 unfold lG at h ⊢
 split
 ·rename_i c; rw [if_pos c] at h; cases h
 rename_i c; rw [if_neg c] at h
 split
 ·rename_i c2; rw [if_pos c2] at h; cases h
 rename_i c2; rw [if_neg c2] at h
 split
 ·rename_i c3
  unfold xA at c3
  rw [Bool.and_eq_true,Bool.and_eq_true] at c3
  exact Uo (ig (kW hb _) _) c3.2.2
 ·rename_i c3; rw [if_neg c3] at h; cases h
theorem Jk (a : List Int) : ((lG a).2 = 1) ∨ (lG a).2 = 2 ∨ (lG a).2 = 3 := by
 unfold lG
 split
 ·exact .inr (.inl rfl)
 split
 ·exact .inr (.inl rfl)
 split
 ·exact .inl rfl
 ·exact .inr (.inr rfl)
end T
end
