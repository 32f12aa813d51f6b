/- Plain laws: files written and read. -/
import Derived.Test.YtmceeioelenigaaGreatGa
section
namespace T
open Go Go.E Go.Proofs
def rdOk (a : List Int) : Bool := decide (2 <= a.length ∧ (1 <= a.getD 0 0 ∧ a.getD 0 0 <= 6) ∧ (1 <= a.getD 1 0 ∧ a.getD 1 0 <= 6) ∧ (a.length : Int) = 2 + 4 * a.getD 0 0 * a.getD 1 0)
def pxA (a : List Int) (i : Nat) : Pix := (gt a ((2 + 4 * i : Nat) : Int) 0,gt a ((2 + 4 * i + 1 : Nat) : Int) 0,gt a ((2 + 4 * i + 2 : Nat) : Int) 0,gt a ((2 + 4 * i + 3 : Nat) : Int) 0)
def rasRd (a : List Int) : Ras × Bool := if rdOk a then ((a.getD 0 0,a.getD 1 0,genL ((a.getD 1 0).toNat * (a.getD 0 0).toNat) (pxA a)),true) else ((0,0,[]),false)
theorem D136 (a : List Int) (hb : Byt a) (hl : 4 <= a.length) : r136 dd a = some (a.getD 0 0,a.getD 1 0,a.getD 2 0,a.getD 3 0) := by
 have hln := lnE a
 refine dL rfl ((b136 dd l136 ..).trans ?_); show (_ : Option I4) = some _
 rw [if_pos (by omega),if_pos (by omega),if_pos (by omega),if_pos (by omega),wi_b (byt_getD hb 0),wi_b (byt_getD hb 1),wi_b (byt_getD hb 2),wi_b (byt_getD hb 3)]
theorem getD_drop {a : List Int} {m k : Nat} : (a.drop m).getD k 0 = gt a ((m + k : Nat) : Int) 0 := by
 unfold gt
 rw [Int.toNat_natCast,List.getD_eq_getElem?_getD,List.getD_eq_getElem?_getD,List.getElem?_drop]
theorem D136a (a : List Int) (hb : Byt a) (i : Nat) (hl : 2 + 4 * i + 4 <= a.length) : r136 dd (a.drop (2 + 4 * i)) = some (pxA a i) := by
 rw [D136 _ (byt_drop hb _) (by simp; omega),getD_drop,getD_drop,getD_drop,getD_drop]; rfl
theorem L133b {a : List Int} (hb : Byt a) {W H : Nat} (hl : a.length = 2 + 4 * (H * W)) (hH : H <= 6) (hW : W <= 6) (y : Nat) (hy : y < H) (b c e f : Int) (out : Ras × Bool) : ∀ (k x : Nat),x + k = W ->
  l133 (q133_0 W H H ((y + 1 : Nat) : Int) a W b c (fillL (H * W) ((y + 1) * W) (pxA a)) e f) = some out ->
  l133 (q133_1 W H y ((y * W : Nat) : Int) (((y + 1) * W : Nat) : Int) H y W x a W b c (fillL (H * W) (y * W + x) (pxA a)) e f) = some out
 | 0,x,h,hk => by
  refine eL ((c133_1 dd l133 ..).trans ?_)
  have : x = W := by omega
  subst this
  rw [cond_no (by omega),wi_nat (by omega), <- succ_mul']
  exact hk
 | k + 1,x,h,hk => by
  have hm := mulb hy hH hW
  have e3 := succ_mul' (y := y) (W := W)
  have hln := lnE a
  have w1 : wi (2 + wi (4 * wi (wi ((y : Int) * W) + x))) = ((2 + 4 * (y * W + x) : Nat) : Int) := by
   rw [(row_wi hy hH hW).1,wi_id (x := ((y * W : Nat) : Int) + x) (by omega) (by omega),wi_id (x := 4 * (((y * W : Nat) : Int) + x)) (by omega) (by omega),wi_id (by omega) (by omega)]; omega
  refine eL ((c133_1 dd l133 ..).trans ?_)
  rw [cond_yes (by omega),w1,if_pos (by omega),if_pos (by omega),Int.toNat_natCast,D136a a hb _ (by omega),Option.bind_some,if_pos (by omega),if_pos (by omega),wi_nat (by omega)]
  have ei : (((y * W : Nat) : Int) + (x : Int)).toNat = y * W + x := by omega
  rw [ei,fill_set (by omega)]
  exact L133b hb hl hH hW y hy b c e f out k (x + 1) (by omega) hk
theorem L133a {a : List Int} (hb : Byt a) {W H : Nat} (hl : a.length = 2 + 4 * (H * W)) (hH : H <= 6) (hW : W <= 6) (b c e f : Int) : ∀ (k y : Nat),y + k = H ->
  l133 (q133_0 W H H y a W b c (fillL (H * W) (y * W) (pxA a)) e f) = some (((W : Int),(H : Int),genL (H * W) (pxA a)),true)
 | 0,y,h => by
  refine eL ((c133_0 dd l133 ..).trans ?_); show (_ : Option (Rs × Bool)) = some _
  have : y = H := by omega
  subst this
  rw [cond_no (by omega),fill_N]
 | k + 1,y,h => by
  have hy : y < H := by omega
  obtain ⟨w1,w2⟩ := row_wi hy hH hW
  have hm := mulb hy hH hW
  have e3 := succ_mul' (y := y) (W := W)
  have hfl := fillL_len (N := H * W) (n := y * W) (g := pxA a) (by omega)
  have hln := lnE (fillL (H * W) (y * W) (pxA a))
  refine eL ((c133_0 dd l133 ..).trans ?_); show (_ : Option (Rs × Bool)) = some _
  rw [cond_yes (by omega),w1,w2,if_pos (by omega),if_pos (by omega),if_pos (by omega),Int.toNat_natCast,Int.toNat_natCast,row_slice]
  have hrl : ln (rowP (fillL (H * W) (y * W) (pxA a)) W y) = W := by
   rw [lnE]; unfold rowP; simp; omega
  rw [hrl]
  exact L133b hb hl hH hW y hy b c e f _ W 0 (by omega) (L133a hb hl hH hW b c e f k (y + 1) (by omega))
theorem rd_nat {a : List Int} (h : rdOk a = true) : ∃ W H : Nat,a.getD 0 0 = W ∧ a.getD 1 0 = H ∧ 1 <= W ∧ W <= 6 ∧ 1 <= H ∧ H <= 6 ∧ a.length = 2 + 4 * (H * W) := by
 obtain ⟨h1,h2,h3,h4⟩ := of_decide_eq_true h
 refine ⟨(a.getD 0 0).toNat,(a.getD 1 0).toNat,by omega,by omega,by omega,by omega,by omega,by omega,?_⟩
 generalize a.getD 0 0 = w at *
 generalize a.getD 1 0 = q at *
 have : ((q.toNat * w.toNat : Nat) : Int) = w * q := by
  rw [Int.natCast_mul,Int.toNat_of_nonneg (by omega),Int.toNat_of_nonneg (by omega),Int.mul_comm]
 rw [Int.mul_assoc] at h4
 omega
theorem D133 (a : List Int) (hb : Byt a) (hs : a.length <= 100000) : r133 dd a = some (rasRd a) := by
 have hln := lnE a
 have b0 := byt_getD hb 0
 have b1 := byt_getD hb 1
 refine dL rfl ((b133 dd l133 ..).trans ?_)
 by_cases c1 : 2 <= a.length
 rotate_left
 ·have : rdOk a = false := decide_eq_false fun h => c1 h.1
  unfold rasRd
  rw [cond_yes (by omega),this]; rfl
 rw [cond_no (by omega),if_pos (by omega),if_pos (by omega),wi_b b0,wi_b b1,D62,Option.bind_some]
 by_cases c2 : 1 <= a.getD 0 0 ∧ a.getD 0 0 <= 6
 rotate_left
 ·have : rdOk a = false := decide_eq_false fun h => c2 h.2.1
  have hr : inR (a.getD 0 0) 1 6 = false := decide_eq_false c2
  unfold rasRd
  rw [hr,this]; rfl
 rw [inR_iff.2 c2,Bool.not_true,cond_false,D62,Option.bind_some]
 by_cases c3 : 1 <= a.getD 1 0 ∧ a.getD 1 0 <= 6
 rotate_left
 ·have : rdOk a = false := decide_eq_false fun h => c3 h.2.2.1
  have hr : inR (a.getD 1 0) 1 6 = false := decide_eq_false c3
  unfold rasRd
  rw [hr,this]; rfl
 rw [inR_iff.2 c3,Bool.not_true,cond_false]
 have hmul : 0 <= a.getD 0 0 * a.getD 1 0 ∧ a.getD 0 0 * a.getD 1 0 <= 36 := by
  refine ⟨Int.mul_nonneg (by omega) (by omega),?_⟩
  have := Int.mul_le_mul c2.2 c3.2 (by omega) (by omega)
  omega
 have w1 : wi (2 + wi (wi (4 * a.getD 0 0) * a.getD 1 0)) = 2 + 4 * a.getD 0 0 * a.getD 1 0 := by
  rw [wi_id (x := 4 * a.getD 0 0) (by omega) (by omega)]
  have : 4 * a.getD 0 0 * a.getD 1 0 = 4 * (a.getD 0 0 * a.getD 1 0) := Int.mul_assoc _ _ _
  rw [wi_id (x := 4 * a.getD 0 0 * a.getD 1 0) (by omega) (by omega),wi_id (by omega) (by omega)]
 rw [w1]
 by_cases c4 : (a.length : Int) = 2 + 4 * a.getD 0 0 * a.getD 1 0
 rotate_left
 ·have : rdOk a = false := decide_eq_false fun h => c4 h.2.2.2
  unfold rasRd
  rw [cne_yes (by rw [hln]; exact c4),this]; rfl
 have hok : rdOk a = true := decide_eq_true ⟨c1,c2,c3,c4⟩
 obtain ⟨W,H,e1,e2,p1,p2,p3,p4,p5⟩ := rd_nat hok
 unfold rasRd
 rw [hok,cne_no (by rw [hln]; exact c4),e1,e2]
 have hm := mul36 p4 p2
 have hw : wi ((W : Int) * H) = ((H * W : Nat) : Int) := by rw [nmul,Nat.mul_comm]; exact wi_id (by omega) (by omega)
 rw [hw,if_pos (by omega),if_pos (by omega),if_pos (by omega),Int.toNat_natCast,if_pos rfl,Int.toNat_natCast,Int.toNat_natCast]
 have := L133a hb p5 p4 p2 0 0 0 0 H 0 (by omega)
 rw [Nat.zero_mul,fill_0] at this
 exact this
theorem L77 {a : List Int} (hb : Byt a) {N : Nat} (hl : a.length = 2 + 4 * N) (hN : N <= 36) (b c w h : Int) : ∀ (k i : Nat),i + k = N -> l77 (q77_0 a ((2 + 4 * i : Nat) : Int) b c w h (genL i (pxA a))) = some ((w,h,genL N (pxA a)),true)
 | 0,i,hi => by
  have hln := lnE a
  have : i = N := by omega
  subst this
  refine eL ((c77_0 dd l77 ..).trans ?_); show (_ : Option (Rs × Bool)) = some _
  rw [cond_no (by omega)]
 | k + 1,i,hi => by
  have hln := lnE a
  have w1 : wi (((2 + 4 * i : Nat) : Int) + 1) = ((2 + 4 * i + 1 : Nat) : Int) := by rw [wi_id (by omega) (by omega)]; omega
  have w2 : wi (((2 + 4 * i : Nat) : Int) + 2) = ((2 + 4 * i + 2 : Nat) : Int) := by rw [wi_id (by omega) (by omega)]; omega
  have w3 : wi (((2 + 4 * i : Nat) : Int) + 3) = ((2 + 4 * i + 3 : Nat) : Int) := by rw [wi_id (by omega) (by omega)]; omega
  have w4 : wi (((2 + 4 * i : Nat) : Int) + 4) = ((2 + 4 * (i + 1) : Nat) : Int) := by rw [wi_id (by omega) (by omega)]; omega
  refine eL ((c77_0 dd l77 ..).trans ?_); show (_ : Option (Rs × Bool)) = some _
  rw [cond_yes (by omega),w1,w2,w3,w4,if_pos (by omega),if_pos (by omega),if_pos (by omega),if_pos (by omega),if_pos (by omega),if_pos (by omega),if_pos (by omega),if_pos (by omega),if_pos (by rw [genL_len]; omega),
   wi_b (byt_gt hb _),wi_b (byt_gt hb _),wi_b (byt_gt hb _),wi_b (byt_gt hb _)]
  have : (genL i (pxA a)).append [(gt a ((2 + 4 * i : Nat) : Int) 0,gt a ((2 + 4 * i + 1 : Nat) : Int) 0,gt a ((2 + 4 * i + 2 : Nat) : Int) 0,gt a ((2 + 4 * i + 3 : Nat) : Int) 0)] = genL (i + 1) (pxA a) := genL_succ.symm
  rw [this]
  exact L77 hb hl hN b c w h k (i + 1) (by omega)
theorem D77 (a : List Int) (hb : Byt a) (hs : a.length <= 100000) : r77 dd a = some (rasRd a) := by
 have hln := lnE a
 have b0 := byt_getD hb 0
 have b1 := byt_getD hb 1
 refine dL rfl ((b77 dd l77 ..).trans ?_)
 have hmul : 0 <= a.getD 0 0 * a.getD 1 0 := Int.mul_nonneg b0.1 b1.1
 have hassoc : 4 * a.getD 0 0 * a.getD 1 0 = 4 * (a.getD 0 0 * a.getD 1 0) := Int.mul_assoc _ _ _
 by_cases c0 : 6 <= a.length
 rotate_left
 ·have : rdOk a = false := decide_eq_false fun h => by
   obtain ⟨h1,h2,h3,h4⟩ := h
   have : 1 <= a.getD 0 0 * a.getD 1 0 := by
    have := Int.mul_le_mul h2.1 h3.1 (by omega) (by omega)
    omega
   omega
  unfold rasRd
  rw [cond_yes (by omega),this]; rfl
 rw [cond_no (by omega),if_pos (by omega),if_pos (by omega),wi_b b0,wi_b b1]
 by_cases c2 : a.getD 0 0 <= 6
 rotate_left
 ·have : rdOk a = false := decide_eq_false fun h => c2 h.2.1.2
  unfold rasRd
  rw [cond_yes (by omega),this]; rfl
 rw [cond_no (by omega)]
 by_cases c3 : a.getD 1 0 <= 6
 rotate_left
 ·have : rdOk a = false := decide_eq_false fun h => c3 h.2.2.1.2
  unfold rasRd
  rw [cond_yes (by omega),this]; rfl
 rw [cond_no (by omega)]
 have hmul2 : a.getD 0 0 * a.getD 1 0 <= 36 := by
  have := Int.mul_le_mul c2 c3 (by omega) (by omega)
  omega
 have w1 : wi (2 + wi (wi (4 * a.getD 0 0) * a.getD 1 0)) = 2 + 4 * a.getD 0 0 * a.getD 1 0 := by
  rw [wi_id (x := 4 * a.getD 0 0) (by omega) (by omega),wi_id (x := 4 * a.getD 0 0 * a.getD 1 0) (by omega) (by omega),wi_id (by omega) (by omega)]
 rw [w1]
 by_cases c4 : (a.length : Int) = 2 + 4 * a.getD 0 0 * a.getD 1 0
 rotate_left
 ·have : rdOk a = false := decide_eq_false fun h => c4 h.2.2.2
  unfold rasRd
  rw [cne_yes (by rw [hln]; exact c4),this]; rfl
 have hpos : 1 <= a.getD 0 0 * a.getD 1 0 := by omega
 have c2' : 1 <= a.getD 0 0 := by
  rcases Int.lt_or_le 0 (a.getD 0 0) with q | q
  ·omega
  ·have : a.getD 0 0 = 0 := by omega
   rw [this,Int.zero_mul] at hpos; omega
 have c3' : 1 <= a.getD 1 0 := by
  rcases Int.lt_or_le 0 (a.getD 1 0) with q | q
  ·omega
  ·have : a.getD 1 0 = 0 := by omega
   rw [this,Int.mul_zero] at hpos; omega
 have hok : rdOk a = true := decide_eq_true ⟨by omega,⟨c2',c2⟩,⟨c3',c3⟩,c4⟩
 obtain ⟨W,H,e1,e2,p1,p2,p3,p4,p5⟩ := rd_nat hok
 unfold rasRd
 rw [hok,cne_no (by rw [hln]; exact c4),e1,e2,if_pos rfl,Int.toNat_natCast,Int.toNat_natCast]
 have := L77 hb p5 (mul36 p4 p2) 0 0 W H (H * W) 0 (by omega)
 exact this
theorem rasRd_N {a : List Int} (hb : Byt a) (h : rdOk a = true) : ∃ W H,RasN (rasRd a).1 W H := by
 obtain ⟨W,H,e1,e2,p1,p2,p3,p4,p5⟩ := rd_nat h
 refine ⟨W,H,?_⟩
 unfold rasRd
 rw [h,if_pos rfl,e1,e2,Int.toNat_natCast,Int.toNat_natCast]
 refine ⟨rfl,rfl,p1,p2,p3,p4,genL_len,List.all_eq_true.2 fun x hx => ?_⟩
 unfold genL at hx
 obtain ⟨i,_,rfl⟩ := List.mem_map.1 hx
 unfold pxA
 have g0 := byt_gt hb ((2 + 4 * i : Nat) : Int)
 have g1 := byt_gt hb ((2 + 4 * i + 1 : Nat) : Int)
 have g2 := byt_gt hb ((2 + 4 * i + 2 : Nat) : Int)
 have g3 := byt_gt hb ((2 + 4 * i + 3 : Nat) : Int)
 exact pixOk_iff.2 ⟨by dsimp only; omega,by dsimp only; omega,by dsimp only; omega,by dsimp only; omega⟩
end T
end
section
namespace T
open Go Go.E Go.Proofs
theorem pix_beq {x y : Pix} : (x.1 == y.1 && (x.2.1 == y.2.1 && (x.2.2.1 == y.2.2.1 && (x.2.2.2 == y.2.2.2 && true)))) = decide (x = y) := by
 obtain ⟨a,b,c,d⟩ := x
 obtain ⟨e,f,g,h⟩ := y
 rw [Bool.and_true]
 by_cases q : ((a,b,c,d) : Pix) = (e,f,g,h)
 ·rw [decide_eq_true q]
  simp only [Prod.mk.injEq] at q
  obtain ⟨rfl,rfl,rfl,rfl⟩ := q
  simp
 ·rw [decide_eq_false q]
  cases h1 : (a == e && (b == f && (c == g && d == h))) with
  | false => rfl
  | true =>
   simp only [Bool.and_eq_true,beq_iff_eq] at h1
   obtain ⟨rfl,rfl,rfl,rfl⟩ := h1
   exact absurd rfl q
def runE (l : List Pix) (s : Nat) : Nat -> Nat -> Nat
 | 0,e => e
 | k + 1,e => if gt l (e : Int) z4 = gt l (s : Int) z4 then runE l s k (e + 1) else e
theorem runE_le (l : List Pix) (s : Nat) : ∀ (k e : Nat),e <= runE l s k e ∧ runE l s k e <= e + k
 | 0,e => ⟨Nat.le_refl _,Nat.le_refl _⟩
 | k + 1,e => by
  unfold runE
  split
  ·have := runE_le l s k (e + 1); omega
  ·omega
def runsGo (l : List Pix) : Nat -> Nat -> List Int
 | 0,_ => []
 | f + 1,s => if s < l.length then ((runE l s (l.length - (s + 1)) (s + 1) : Int) - s) :: (pixB (gt l (s : Int) z4) ++ runsGo l f (runE l s (l.length - (s + 1)) (s + 1))) else []
def runsB (r : Ras) : List Int := r.1 :: r.2.1 :: runsGo r.2.2 r.2.2.length 0
theorem runsGo_len (l : List Pix) : ∀ (f s : Nat),(runsGo l f s).length <= 5 * f
 | 0,s => by simp [runsGo]
 | f + 1,s => by
  unfold runsGo
  split
  ·have := runsGo_len l f (runE l s (l.length - (s + 1)) (s + 1))
   simp [pixB]; omega
  ·simp
theorem runsGo_byt (l : List Pix) (hl : l.length <= 36) (hp : l.all pixOk = true) : ∀ (f s : Nat),Byt (runsGo l f s)
 | 0,s => byt_nil
 | f + 1,s => by
  unfold runsGo
  split
  ·rename_i h
   have := runE_le l s (l.length - (s + 1)) (s + 1)
   refine byt_cons.2 ⟨by omega,byt_app.2 ⟨?_,runsGo_byt l hl hp f _⟩⟩
   obtain ⟨h1,h2,h3,h4⟩ := pixOk_iff.1 (all_get (z := z4) hp h)
   exact byt_cons.2 ⟨by omega,byt_cons.2 ⟨by omega,byt_cons.2 ⟨by omega,byt_cons.2 ⟨by omega,byt_nil⟩⟩⟩⟩
  ·exact byt_nil
section
variable {l : List Pix}
theorem L143b (hl : l.length <= 36) (hp : l.all pixOk = true) (w h : Int) (s : Nat) (o : List Int) (ho : o.length <= 10000) (out : List Int) : ∀ (k e : Nat),e + k = l.length -> s < e ->
  l143 (q143_0 ((runE l s k e : Nat) : Int) w h l (o ++ ((runE l s k e : Int) - s) :: pixB (gt l (s : Int) z4))) = some out -> l143 (q143_1 s e w h l o) = some out
 | 0,e,he,hs,hk => by
  have hln := lnE l
  have w1 : wi ((e : Int) - s) = (e : Int) - s := wi_id (by omega) (by omega)
  have w2 : wb ((e : Int) - s) = (e : Int) - s := wb_id (by omega) (by omega)
  refine eL ((c143_1 dd l143 ..).trans ?_)
  rw [cond_no (by omega),if_pos (by omega),if_pos (by omega),if_pos (by omega),w1,w2,D137 _ _ (by show (o ++ _).length <= _; simp; omega) (all_get hp (show s < l.length by omega)),Option.bind_some]
  show l143 (q143_0 e w h l ((o ++ [(e : Int) - s]) ++ pixB (gt l (s : Int) z4))) = _
  rw [List.append_assoc]
  exact hk
 | k + 1,e,he,hs,hk => by
  have hln := lnE l
  have w1 : wi ((e : Int) - s) = (e : Int) - s := wi_id (by omega) (by omega)
  have w2 : wb ((e : Int) - s) = (e : Int) - s := wb_id (by omega) (by omega)
  unfold runE at hk
  refine eL ((c143_1 dd l143 ..).trans ?_)
  rw [cond_yes (by omega),if_pos (by omega),if_pos (by omega),if_pos (by omega),if_pos (by omega),pix_beq]
  by_cases c : gt l (e : Int) z4 = gt l (s : Int) z4
  ·rw [cond_yes c,wi_nat (by omega)]
   rw [if_pos c] at hk
   exact L143b hl hp w h s o ho out k (e + 1) (by omega) (by omega) hk
  ·rw [cond_no c,if_pos (by omega),if_pos (by omega),if_pos (by omega),w1,w2,D137 _ _ (by show (o ++ _).length <= _; simp; omega) (all_get hp (show s < l.length by omega)),Option.bind_some]
   rw [if_neg c] at hk
   show l143 (q143_0 e w h l ((o ++ [(e : Int) - s]) ++ pixB (gt l (s : Int) z4))) = _
   rw [List.append_assoc]
   exact hk
theorem L143a (hl : l.length <= 36) (hp : l.all pixOk = true) (w h : Int) : ∀ (f s : Nat) (o : List Int),l.length - s <= f -> o.length + 5 * f <= 5000 -> l143 (q143_0 s w h l o) = some (o ++ runsGo l f s)
 | 0,s,o,hf,ho => by
  have hln := lnE l
  refine eL ((c143_0 dd l143 ..).trans ?_); show (_ : Option (List Int)) = some _
  rw [cond_no (by omega)]
  show some o = some (o ++ [])
  rw [List.append_nil]
 | f + 1,s,o,hf,ho => by
  have hln := lnE l
  refine eL ((c143_0 dd l143 ..).trans ?_); show (_ : Option (List Int)) = some _
  by_cases c : s < l.length
  ·rw [cond_yes (by omega),wi_nat (by omega)]
   refine L143b hl hp w h s o (by omega) _ (l.length - (s + 1)) (s + 1) (by omega) (by omega) ?_
   have := runE_le l s (l.length - (s + 1)) (s + 1)
   have e : runsGo l (f + 1) s = ((runE l s (l.length - (s + 1)) (s + 1) : Int) - s) :: (pixB (gt l (s : Int) z4) ++ runsGo l f (runE l s (l.length - (s + 1)) (s + 1))) := by
    show (if s < l.length then _ else _) = _
    rw [if_pos c]
   rw [L143a hl hp w h f _ _ (by omega) (by simp [pixB]; omega),e]
   simp
  ·rw [cond_no (by omega)]
   have e : runsGo l (f + 1) s = [] := by
    show (if s < l.length then _ else _) = _
    rw [if_neg c]
   rw [e,List.append_nil]
theorem L110b (hl : l.length <= 36) (hp : l.all pixOk = true) (w h : Int) (s : Nat) (o : List Int) (ho : o.length <= 10000) (out : List Int) : ∀ (k n : Nat),s + n + k = l.length -> 0 < n ->
  l110 (q110_0 ((runE l s k (s + n) : Nat) : Int) w h l (o ++ ((runE l s k (s + n) : Int) - s) :: pixB (gt l (s : Int) z4))) = some out -> l110 (q110_1 s n w h l o) = some out
 | 0,n,he,hs,hk => by
  have hln := lnE l
  have w1 : wi ((s : Int) + n) = ((s + n : Nat) : Int) := by rw [wi_id (by omega) (by omega)]; omega
  have w2 : wb (n : Int) = ((s + n : Nat) : Int) - s := by rw [wb_id (by omega) (by omega)]; omega
  refine eL ((c110_1 dd l110 ..).trans ?_)
  rw [w1,cond_no (by omega),if_pos (by omega),if_pos (by omega),if_pos (by omega),w2,pix5 (all_get hp (show s < l.length by omega))]
  exact hk
 | k + 1,n,he,hs,hk => by
  have hln := lnE l
  have w1 : wi ((s : Int) + n) = ((s + n : Nat) : Int) := by rw [wi_id (by omega) (by omega)]; omega
  have w2 : wb (n : Int) = ((s + n : Nat) : Int) - s := by rw [wb_id (by omega) (by omega)]; omega
  unfold runE at hk
  refine eL ((c110_1 dd l110 ..).trans ?_)
  rw [w1,cond_yes (by omega),if_pos (by omega),if_pos (by omega),if_pos (by omega),if_pos (by omega),pix_beq]
  by_cases c : gt l ((s + n : Nat) : Int) z4 = gt l (s : Int) z4
  ·rw [cond_yes c,wi_nat (by omega)]
   rw [if_pos c] at hk
   exact L110b hl hp w h s o ho out k (n + 1) (by omega) (by omega) hk
  ·rw [cond_no c,if_pos (by omega),if_pos (by omega),if_pos (by omega),w2,pix5 (all_get hp (show s < l.length by omega))]
   rw [if_neg c] at hk
   exact hk
 where
 pix5 {p : Pix} {x : Int} (h : pixOk p = true) : [x,wb p.1,wb p.2.1,wb p.2.2.1,wb p.2.2.2] = x :: pixB p := by rw [pix_wb h]
theorem L110a (hl : l.length <= 36) (hp : l.all pixOk = true) (w h : Int) : ∀ (f s : Nat) (o : List Int),l.length - s <= f -> o.length + 5 * f <= 5000 -> l110 (q110_0 s w h l o) = some (o ++ runsGo l f s)
 | 0,s,o,hf,ho => by
  have hln := lnE l
  refine eL ((c110_0 dd l110 ..).trans ?_); show (_ : Option (List Int)) = some _
  rw [cond_no (by omega)]
  show some o = some (o ++ [])
  rw [List.append_nil]
 | f + 1,s,o,hf,ho => by
  have hln := lnE l
  refine eL ((c110_0 dd l110 ..).trans ?_); show (_ : Option (List Int)) = some _
  by_cases c : s < l.length
  ·rw [cond_yes (by omega)]
   refine L110b hl hp w h s o (by omega) _ (l.length - (s + 1)) 1 (by omega) (by omega) ?_
   have := runE_le l s (l.length - (s + 1)) (s + 1)
   have e : runsGo l (f + 1) s = ((runE l s (l.length - (s + 1)) (s + 1) : Int) - s) :: (pixB (gt l (s : Int) z4) ++ runsGo l f (runE l s (l.length - (s + 1)) (s + 1))) := by
    show (if s < l.length then _ else _) = _
    rw [if_pos c]
   rw [L110a hl hp w h f _ _ (by omega) (by simp [pixB]; omega),e]
   simp
  ·rw [cond_no (by omega)]
   have e : runsGo l (f + 1) s = [] := by
    show (if s < l.length then _ else _) = _
    rw [if_neg c]
   rw [e,List.append_nil]
end
theorem D143 {r : Ras} {W H : Nat} (hn : RasN r W H) : r143 dd ((),r) = some (runsB r) := by
 obtain ⟨w,h,l⟩ := r
 have e1 : w = W := hn.w; have e2 : h = H := hn.h
 have := hn.w1; have := hn.w6; have := hn.h1; have := hn.h6
 have hm := mul36 hn.h6 hn.w6
 have hl : l.length = H * W := hn.len
 refine dL rfl ((b143 dd l143 ..).trans ?_)
 rw [wb_id (by omega) (by omega),wb_id (by omega) (by omega)]
 exact L143a (l := l) (by omega) hn.pix w h l.length 0 [w,h] (by omega) (by simp; omega)
theorem D110 {r : Ras} {W H : Nat} (hn : RasN r W H) : r110 dd r = some (runsB r) := by
 obtain ⟨w,h,l⟩ := r
 have e1 : w = W := hn.w; have e2 : h = H := hn.h
 have := hn.w1; have := hn.w6; have := hn.h1; have := hn.h6
 have hm := mul36 hn.h6 hn.w6
 have hl : l.length = H * W := hn.len
 refine dL rfl ((b110 dd l110 ..).trans ?_)
 rw [wb_id (by omega) (by omega),wb_id (by omega) (by omega)]
 exact L110a (l := l) (by omega) hn.pix w h l.length 0 [w,h] (by omega) (by simp; omega)
theorem runsB_byt {r : Ras} {W H : Nat} (hn : RasN r W H) : Byt (runsB r) ∧ (runsB r).length <= 182 := by
 have := hn.w1; have := hn.w6; have := hn.h1; have := hn.h6; have e1 := hn.w; have e2 := hn.h
 have hm := mul36 hn.h6 hn.w6
 have hl := hn.len
 refine ⟨byt_cons.2 ⟨by omega,byt_cons.2 ⟨by omega,runsGo_byt _ (by omega) hn.pix _ _⟩⟩,?_⟩
 have := runsGo_len r.2.2 r.2.2.length 0
 show (runsGo r.2.2 r.2.2.length 0).length + 1 + 1 <= 182
 omega
end T
end
section
namespace T
open Go Go.E Go.Proofs
def px1 (m : List Int) : Pix := (gt m 1 0,gt m 2 0,gt m 3 0,gt m 4 0)
def rrGo (N : Nat) : Nat -> List Int -> List Pix -> Option (List Pix)
 | 0,_,acc => if acc.length = N then some acc else none
 | f + 1,m,acc => if m = [] then (if acc.length = N then some acc else none) else
  if m.getD 0 0 < 1 ∨ m.getD 0 0 > (N : Int) - acc.length then none else rrGo N f (m.drop 5) (acc ++ List.replicate (m.getD 0 0).toNat (px1 m))
def runOk (a : List Int) : Bool := decide (2 <= a.length ∧ (1 <= a.getD 0 0 ∧ a.getD 0 0 <= 6) ∧ (1 <= a.getD 1 0 ∧ a.getD 1 0 <= 6) ∧ (a.length - 2) % 5 = 0)
def runRd (a : List Int) : Ras × Bool := if runOk a then match rrGo ((a.getD 1 0).toNat * (a.getD 0 0).toNat) a.length (a.drop 2) [] with
  | some l => ((a.getD 0 0,a.getD 1 0,l),true)
  | none => ((0,0,[]),false)
 else ((0,0,[]),false)
def outP (w h : Int) : Option (List Pix) -> Ras × Bool
 | some l => ((w,h,l),true)
 | none => ((0,0,[]),false)
theorem px1_ok {m : List Int} (h : Byt m) : pixOk (px1 m) = true := by
 unfold px1
 have g0 := byt_gt h 1
 have g1 := byt_gt h 2
 have g2 := byt_gt h 3
 have g3 := byt_gt h 4
 exact pixOk_iff.2 ⟨by dsimp only; omega,by dsimp only; omega,by dsimp only; omega,by dsimp only; omega⟩
theorem rep_app {α : Type} {acc : List α} {j : Nat} {x : α} : acc ++ List.replicate j x ++ [x] = acc ++ List.replicate (j + 1) x := by
 rw [List.append_assoc,List.replicate_succ']
theorem rrGo_ok {N : Nat} : ∀ (f : Nat) (m : List Int) (acc l : List Pix),Byt m -> acc.all pixOk = true -> rrGo N f m acc = some l -> l.length = N ∧ l.all pixOk = true
 | 0,m,acc,l,hb,ha,h => by
  unfold rrGo at h
  split at h
  ·cases h; exact ⟨by assumption,ha⟩
  ·cases h
 | f + 1,m,acc,l,hb,ha,h => by
  unfold rrGo at h
  split at h
  ·split at h
   ·cases h; exact ⟨by assumption,ha⟩
   ·cases h
  ·split at h
   ·cases h
   ·refine rrGo_ok f _ _ l (byt_drop hb 5) ?_ h
    rw [List.all_append,ha,Bool.true_and]
    refine List.all_eq_true.2 fun x hx => ?_
    rw [(List.mem_replicate.1 hx).2]
    exact px1_ok hb
theorem L142b {W H : Nat} (m : List Int) (hm : 5 <= m.length) (acc : List Pix) (ha : acc.length <= 1000) (p : Pix) (n : Nat) (hn : n <= 300) (b c : Int) (out : Ras × Bool) : ∀ (k j : Nat),j + k = n ->
  l142 (q142_0 W H (m.drop 5) b c (acc ++ List.replicate n p)) = some out -> l142 (q142_1 W H m n j b c (acc ++ List.replicate j p) p.1 p.2.1 p.2.2.1 p.2.2.2) = some out
 | 0,j,h,hk => by
  have hln := lnE m
  have : j = n := by omega
  subst this
  refine eL ((c142_1 dd l142 ..).trans ?_)
  rw [cond_no (by omega),if_pos (by omega)]
  exact hk
 | k + 1,j,h,hk => by
  refine eL ((c142_1 dd l142 ..).trans ?_)
  rw [cond_yes (by omega),if_pos (by simp; omega),wi_nat (by omega)]
  have := L142b m hm acc ha p n hn b c out k (j + 1) (by omega) hk
  rw [<- rep_app] at this
  exact this
theorem L142a {W H : Nat} (hW : W <= 6) (hH : H <= 6) (b c : Int) : ∀ (f : Nat) (m : List Int) (acc : List Pix),m.length <= 5 * f -> m.length % 5 = 0 -> Byt m -> acc.length <= H * W ->
  l142 (q142_0 W H m b c acc) = some (outP W H (rrGo (H * W) f m acc)) := by
 intro f
 have hmu := mul36 hH hW
 have w1 : wi ((W : Int) * H) = ((H * W : Nat) : Int) := by rw [nmul,Nat.mul_comm]; exact wi_id (by omega) (by omega)
 have fin : ∀ (acc : List Pix),l142 (q142_0 W H [] b c acc) = some (outP W H (if acc.length = H * W then some acc else none)) := by
  intro acc
  have hla := lnE acc
  refine eL ((c142_0 dd l142 ..).trans ?_)
  rw [cond_no (by show ¬ ((([] : List Int).length : Int) > 0); simp),w1]
  by_cases e : acc.length = H * W
  ·rw [cne_no (by omega),if_pos e]; rfl
  ·rw [cne_yes (by omega),if_neg e]; rfl
 induction f with
 | zero =>
  intro m acc h1 h2 hb ha
  have : m = [] := List.eq_nil_of_length_eq_zero (by omega)
  subst this
  exact fin acc
 | succ f ih =>
  intro m acc h1 h2 hb ha
  by_cases e : m = []
  ·subst e
   have : rrGo (H * W) (f + 1) [] acc = if acc.length = H * W then some acc else none := by
    show (if ([] : List Int) = [] then _ else _) = _
    rw [if_pos rfl]
   rw [this]
   exact fin acc
  have hpos := List.length_pos_iff.2 e
  have hln := lnE m
  have hla := lnE acc
  have b0 := byt_getD hb 0
  have step : rrGo (H * W) (f + 1) m acc = if m.getD 0 0 < 1 ∨ m.getD 0 0 > ((H * W : Nat) : Int) - acc.length then none else rrGo (H * W) f (m.drop 5) (acc ++ List.replicate (m.getD 0 0).toNat (px1 m)) := by
   show (if m = [] then _ else _) = _
   rw [if_neg e]
  have w2 : wi (((H * W : Nat) : Int) - ln acc) = ((H * W : Nat) : Int) - acc.length := wi_id (by omega) (by omega)
  refine eL ((c142_0 dd l142 ..).trans ?_)
  rw [cond_yes (by omega),if_pos (by omega),wi_b b0,w1,w2]
  by_cases c1 : m.getD 0 0 < 1
  ·rw [cond_yes c1,step,if_pos (.inl c1)]; rfl
  rw [cond_no c1]
  by_cases c2 : m.getD 0 0 > ((H * W : Nat) : Int) - acc.length
  ·rw [cond_yes c2,step,if_pos (.inr c2)]; rfl
  have hpx : r136 dd (m.drop 1) = some (px1 m) := by
   rw [D136 _ (byt_drop hb 1) (by simp; omega),getD_drop,getD_drop,getD_drop,getD_drop]; rfl
  rw [cond_no c2,if_pos (by omega),hpx,Option.bind_some,step,if_neg (fun h => h.elim c1 c2)]
  have := L142b (W := W) (H := H) m (by omega) acc (by omega) (px1 m) (m.getD 0 0).toNat (by omega) b c (outP W H (rrGo (H * W) f (m.drop 5) (acc ++ List.replicate (m.getD 0 0).toNat (px1 m)))) (m.getD 0 0).toNat 0 (by omega) (ih _ _ (by rw [List.length_drop]; omega) (by rw [List.length_drop]; omega) (byt_drop hb 5) (by rw [List.length_append,List.length_replicate]; omega))
  rw [Int.toNat_of_nonneg b0.1,List.replicate_zero,List.append_nil] at this
  exact this
theorem D142 (a : List Int) (hb : Byt a) (hs : a.length <= 100000) : r142 dd ((),a) = some (runRd a) := by
 have hln := lnE a
 have b0 := byt_getD hb 0
 have b1 := byt_getD hb 1
 have no : runOk a = false -> runRd a = ((0,0,[]),false) := fun h => by unfold runRd; rw [h]; rfl
 refine dL rfl ((b142 dd l142 ..).trans ?_); show (_ : Option (Rs × Bool)) = some _
 by_cases c1 : 2 <= a.length
 rotate_left
 ·rw [cond_yes (by omega),no (decide_eq_false fun h => c1 h.1)]
 have w0 : (wi (ln a - 2)).tmod 5 = (((a.length - 2) % 5 : Nat) : Int) := by
  rw [wi_id (by omega) (by omega),tm (by omega)]; omega
 rw [cond_no (by omega),w0]
 by_cases c5 : (a.length - 2) % 5 = 0
 rotate_left
 ·rw [cne_yes (by omega),no (decide_eq_false fun h => c5 h.2.2.2)]
 rw [cne_no (by omega),if_pos (by omega),if_pos (by omega),wi_b b0,wi_b b1,D62,Option.bind_some]
 by_cases c2 : 1 <= a.getD 0 0 ∧ a.getD 0 0 <= 6
 rotate_left
 ·have hr : inR (a.getD 0 0) 1 6 = false := decide_eq_false c2
  rw [hr,no (decide_eq_false fun h => c2 h.2.1)]; rfl
 rw [inR_iff.2 c2,Bool.not_true,cond_false,D62,Option.bind_some]
 by_cases c3 : 1 <= a.getD 1 0 ∧ a.getD 1 0 <= 6
 rotate_left
 ·have hr : inR (a.getD 1 0) 1 6 = false := decide_eq_false c3
  rw [hr,no (decide_eq_false fun h => c3 h.2.2.1)]; rfl
 rw [inR_iff.2 c3,Bool.not_true,cond_false]
 have hok : runOk a = true := decide_eq_true ⟨c1,c2,c3,c5⟩
 unfold runRd
 rw [hok,if_pos rfl]
 obtain ⟨W,e1⟩ : ∃ W : Nat,a.getD 0 0 = W := ⟨(a.getD 0 0).toNat,by omega⟩
 obtain ⟨H,e2⟩ : ∃ H : Nat,a.getD 1 0 = H := ⟨(a.getD 1 0).toNat,by omega⟩
 rw [e1,e2]
 have hm := mul36 (show H <= 6 by omega) (show W <= 6 by omega)
 have hw : wi ((W : Int) * H) = ((H * W : Nat) : Int) := by rw [nmul,Nat.mul_comm]; exact wi_id (by omega) (by omega)
 rw [hw,if_pos (by omega),if_pos (by omega),if_pos (by omega),Int.toNat_natCast,Int.toNat_natCast]
 have := L142a (show W <= 6 by omega) (show H <= 6 by omega) 0 0 a.length (a.drop 2) [] (by simp; omega) (by simp; omega) (byt_drop hb 2) (by simp)
 show l142 (q142_0 W H (a.drop 2) 0 0 []) = _
 rw [this]
 cases rrGo (H * W) a.length (a.drop 2) [] <;> rfl
theorem L79b {W H : Nat} (a : List Int) (hb : Byt a) (i : Nat) (hi : i + 5 <= a.length) (hs : a.length <= 100000) (hN : H * W <= 36) (b c : Int) (out : Ras × Bool) : ∀ (n : Nat) (acc : List Pix),n <= 300 -> acc.length + n <= 1000 ->
  ((if gt a (i : Int) 0 = 0 ∨ acc.length + n > H * W then some ((0,0,[]),false) else l79 (q79_0 a ((i + 5 : Nat) : Int) b c W H (acc ++ List.replicate n (px1 (a.drop i))))) = some out) -> l79 (q79_1 a i n b c W H acc) = some out
 | 0,acc,hn,ha,hk => by
  have hln := lnE a
  have hla := lnE acc
  have w1 : wi ((W : Int) * H) = ((H * W : Nat) : Int) := by rw [nmul,Nat.mul_comm]; exact wi_id (by omega) (by omega)
  have w5 : wi ((i : Int) + 5) = ((i + 5 : Nat) : Int) := by rw [wi_id (by omega) (by omega)]; omega
  refine eL ((c79_1 dd l79 ..).trans ?_)
  rw [cond_no (by omega),if_pos (by omega),if_pos (by omega),w1,w5]
  by_cases c1 : gt a (i : Int) 0 = 0
  ·rw [if_pos (.inl c1)] at hk
   rw [ceq_yes c1]; exact hk
  ·rw [ceq_no c1]
   by_cases c2 : acc.length > H * W
   ·rw [if_pos (.inr (by omega))] at hk
    rw [cond_yes (by omega)]; exact hk
   ·rw [if_neg (fun h => h.elim c1 fun q => c2 (by omega))] at hk
    rw [cond_no (by omega)]
    rw [List.replicate_zero,List.append_nil] at hk
    exact hk
 | n + 1,acc,hn,ha,hk => by
  have hln := lnE a
  have w1 : wi ((i : Int) + 1) = ((i + 1 : Nat) : Int) := wi_nat (by omega)
  have w2 : wi ((i : Int) + 2) = ((i + 2 : Nat) : Int) := by rw [wi_id (by omega) (by omega)]; omega
  have w3 : wi ((i : Int) + 3) = ((i + 3 : Nat) : Int) := by rw [wi_id (by omega) (by omega)]; omega
  have w4 : wi ((i : Int) + 4) = ((i + 4 : Nat) : Int) := by rw [wi_id (by omega) (by omega)]; omega
  have gd : ∀ k : Nat,gt a ((i + k : Nat) : Int) 0 = gt (a.drop i) (k : Int) 0 := fun k => by
   rw [<- getD_drop]; unfold gt; rw [Int.toNat_natCast]
  refine eL ((c79_1 dd l79 ..).trans ?_)
  rw [cond_yes (by omega),w1,w2,w3,w4,if_pos (by omega),if_pos (by omega),if_pos (by omega),if_pos (by omega),if_pos (by omega),if_pos (by omega),if_pos (by omega),if_pos (by omega),if_pos (by omega),
   wi_b (byt_gt hb _),wi_b (byt_gt hb _),wi_b (byt_gt hb _),wi_b (byt_gt hb _),gd 1,gd 2,gd 3,gd 4,wi_id (by omega) (by omega),show ((n + 1 : Nat) : Int) - 1 = (n : Int) by omega]
  refine L79b a hb i hi hs hN b c out n (acc ++ [px1 (a.drop i)]) (by omega) (by simp; omega) ?_
  have e1 : (acc ++ [px1 (a.drop i)]).length + n = acc.length + (n + 1) := by simp; omega
  rw [e1,List.append_assoc,List.singleton_append, <- List.replicate_succ]
  exact hk
def Alike2 (x y : Ras × Bool) : Prop := x.2 = y.2 ∧ (y.2 = true -> x = y)
theorem L79a {W H : Nat} (hN : H * W <= 36) (a : List Int) (hb : Byt a) (hs : a.length <= 100000) (b c : Int) : ∀ (f i : Nat) (acc : List Pix),a.length - i <= 5 * f -> (a.length - i) % 5 = 0 -> i <= a.length -> acc.length <= H * W ->
  ∃ out,l79 (q79_0 a i b c W H acc) = some out ∧ Alike2 out (outP W H (rrGo (H * W) f (a.drop i) acc)) := by
 intro f
 have hln := lnE a
 have w1 : wi ((W : Int) * H) = ((H * W : Nat) : Int) := by rw [nmul,Nat.mul_comm]; exact wi_id (by omega) (by omega)
 have fin : ∀ (acc : List Pix),∃ out,l79 (q79_0 a (a.length : Nat) b c W H acc) = some out ∧ Alike2 out (outP W H (if acc.length = H * W then some acc else none)) := by
  intro acc
  have hla := lnE acc
  refine ⟨(((W : Int),(H : Int),acc),ln acc == ((H * W : Nat) : Int)),?_,?_⟩
  ·refine eL ((c79_0 dd l79 ..).trans ?_); show (_ : Option (Rs × Bool)) = some _
   rw [cond_no (by omega),w1]
  ·by_cases e : acc.length = H * W
   ·rw [if_pos e]
    have : (ln acc == ((H * W : Nat) : Int)) = true := beq_iff_eq.2 (by omega)
    rw [this]; exact ⟨rfl,fun _ => rfl⟩
   ·rw [if_neg e]
    have : (ln acc == ((H * W : Nat) : Int)) = false := beq_eq_false_iff_ne.2 (by omega)
    rw [this]; exact ⟨rfl,fun h => by cases h⟩
 induction f with
 | zero =>
  intro i acc h1 h2 hi ha
  have : i = a.length := by omega
  subst this
  exact fin acc
 | succ f ih =>
  intro i acc h1 h2 hi ha
  by_cases e : i = a.length
  ·subst e
   have : rrGo (H * W) (f + 1) (a.drop a.length) acc = if acc.length = H * W then some acc else none := by
    show (if a.drop a.length = [] then _ else _) = _
    rw [if_pos (List.drop_eq_nil_of_le (Nat.le_refl _))]
   rw [this]
   exact fin acc
  have hlt : i < a.length := by omega
  have hne : a.drop i ≠ [] := fun x => by
   have := congrArg List.length x
   simp at this; omega
  have b0 := byt_gt hb (i : Int)
  have g0 : (a.drop i).getD 0 0 = gt a (i : Int) 0 := getD_drop
  have step : rrGo (H * W) (f + 1) (a.drop i) acc = if gt a (i : Int) 0 < 1 ∨ gt a (i : Int) 0 > ((H * W : Nat) : Int) - acc.length then none else rrGo (H * W) f (a.drop (i + 5)) (acc ++ List.replicate (gt a (i : Int) 0).toNat (px1 (a.drop i))) := by
   show (if a.drop i = [] then _ else _) = _
   rw [if_neg hne,g0,List.drop_drop]
  obtain ⟨n,hn⟩ : ∃ n : Nat,gt a (i : Int) 0 = n := ⟨(gt a (i : Int) 0).toNat,by omega⟩
  have hq : ∀ out,((if gt a (i : Int) 0 = 0 ∨ acc.length + n > H * W then some ((0,0,[]),false) else l79 (q79_0 a ((i + 5 : Nat) : Int) b c W H (acc ++ List.replicate n (px1 (a.drop i))))) = some out) -> l79 (q79_0 a i b c W H acc) = some out := by
   intro out hk
   refine eL ((c79_0 dd l79 ..).trans ?_); show (_ : Option (Rs × Bool)) = some _
   rw [cond_yes (by omega),if_pos (by omega),if_pos (by omega),wi_b b0,hn]
   exact L79b a hb i (by omega) hs hN b c out n acc (by omega) (by omega) hk
  by_cases cc : gt a (i : Int) 0 < 1 ∨ gt a (i : Int) 0 > ((H * W : Nat) : Int) - acc.length
  ·refine ⟨((0,0,[]),false),hq _ ?_,?_⟩
   ·rw [if_pos]
    rcases cc with c1 | c1
    ·exact .inl (by omega)
    ·exact .inr (by omega)
   ·rw [step,if_pos cc]; exact ⟨rfl,fun h => by cases h⟩
  ·obtain ⟨out,o1,o2⟩ := ih (i + 5) (acc ++ List.replicate n (px1 (a.drop i))) (by omega) (by omega) (by omega) (by simp; omega)
   refine ⟨out,hq _ ?_,?_⟩
   ·rw [if_neg (fun h => cc (h.elim (fun q => .inl (by omega)) fun q => .inr (by omega)))]
    exact o1
   ·rw [step,if_neg cc,hn,Int.toNat_natCast]
    exact o2
theorem alike2_refl (x : Ras × Bool) : Alike2 x x := ⟨rfl,fun _ => rfl⟩
theorem D79 (a : List Int) (hb : Byt a) (hs : a.length <= 100000) : ∃ out,r79 dd a = some out ∧ Alike2 out (runRd a) := by
 have hln := lnE a
 have b0 := byt_getD hb 0
 have b1 := byt_getD hb 1
 have bad : runRd a = ((0,0,[]),false) -> t79 dd l79 a = some ((0,0,[]),false) -> ∃ out,r79 dd a = some out ∧ Alike2 out (runRd a) := fun h k => ⟨_,d79 _ k,by rw [h]; exact alike2_refl _⟩
 have no : runOk a = false -> runRd a = ((0,0,[]),false) := fun h => by unfold runRd; rw [h]; rfl
 by_cases c5 : 2 <= a.length ∧ (a.length - 2) % 5 = 0
 rotate_left
 ·refine bad (no (decide_eq_false fun h => c5 ⟨h.1,h.2.2.2⟩)) ?_
  unfold t79
  by_cases c7 : a.length < 7
  ·rw [cond_yes (by omega)]
  ·rw [cond_no (by omega),wi_id (by omega) (by omega),tm (by omega),cne_yes (by omega)]
 obtain ⟨c1,c5⟩ := c5
 by_cases c7 : a.length < 7
 ·
  refine bad ?_ ?_
  ·unfold runRd
   cases hok : runOk a with
   | false => rfl
   | true =>
    obtain ⟨_,h2,h3,_⟩ := of_decide_eq_true hok
    have hl2 : a.length = 2 := by omega
    have hd : a.drop 2 = [] := List.drop_eq_nil_of_le (by omega)
    have : rrGo ((a.getD 1 0).toNat * (a.getD 0 0).toNat) a.length (a.drop 2) [] = none := by
     rw [hd,hl2]
     show (if ([] : List Int) = [] then (if ([] : List Pix).length = _ then _ else _) else _) = _
     rw [if_pos rfl,if_neg]
     have := Nat.mul_le_mul (show 1 <= (a.getD 1 0).toNat by omega) (show 1 <= (a.getD 0 0).toNat by omega)
     show ¬ 0 = _
     omega
    rw [this]; rfl
  ·unfold t79
   rw [cond_yes (by omega)]
 have w0 : (wi (ln a - 2)).tmod 5 = 0 := by rw [wi_id (by omega) (by omega),tm (by omega)]; omega
 by_cases c2 : a.getD 0 0 <= 6
 rotate_left
 ·refine bad (no (decide_eq_false fun h => c2 h.2.1.2)) ?_
  unfold t79
  rw [cond_no (by omega),w0,cne_no rfl,if_pos (by omega),wi_b b0,cond_yes (by omega)]
 by_cases c3 : a.getD 1 0 <= 6
 rotate_left
 ·refine bad (no (decide_eq_false fun h => c3 h.2.2.1.2)) ?_
  unfold t79
  rw [cond_no (by omega),w0,cne_no rfl,if_pos (by omega),wi_b b0,cond_no (by omega),if_pos (by omega),wi_b b1,cond_yes (by omega)]
 obtain ⟨W,e1⟩ : ∃ W : Nat,a.getD 0 0 = W := ⟨(a.getD 0 0).toNat,by omega⟩
 obtain ⟨H,e2⟩ : ∃ H : Nat,a.getD 1 0 = H := ⟨(a.getD 1 0).toNat,by omega⟩
 have hm := mul36 (show H <= 6 by omega) (show W <= 6 by omega)
 obtain ⟨out,o1,o2⟩ := L79a (W := W) (H := H) hm a hb hs 0 0 a.length 2 [] (by omega) (by omega) (by omega) (by simp)
 refine ⟨out,?_,?_⟩
 ·apply d79; unfold t79
  rw [cond_no (by omega),w0,cne_no rfl,if_pos (by omega),wi_b b0,cond_no (by omega),if_pos (by omega),wi_b b1,cond_no (by omega),if_pos (by omega),if_pos (by omega),e1,e2]
  exact o1
 ·have hrr : outP W H (rrGo (H * W) a.length (a.drop 2) []) = runRd a := by
   unfold runRd
   by_cases hz : 1 <= W ∧ 1 <= H
   ·have hok : runOk a = true := decide_eq_true ⟨c1,by omega,by omega,c5⟩
    rw [hok,if_pos rfl,e1,e2,Int.toNat_natCast,Int.toNat_natCast]
    cases rrGo (H * W) a.length (a.drop 2) [] <;> rfl
   ·have hok : runOk a = false := decide_eq_false fun h => hz ⟨by have := h.2.1; omega,by have := h.2.2.1; omega⟩
    rw [hok]
    have h0 : H * W = 0 := by
     rcases Nat.lt_or_ge 0 W with q | q
     ·have : H = 0 := by omega
      rw [this,Nat.zero_mul]
     ·have : W = 0 := by omega
      rw [this,Nat.mul_zero]
    have hne : a.drop 2 ≠ [] := fun x => by
     have := congrArg List.length x
     simp at this; omega
    obtain ⟨q,hq⟩ : ∃ q,a.length = q + 1 := ⟨a.length - 1,by omega⟩
    have : rrGo (H * W) a.length (a.drop 2) [] = none := by
     rw [hq,h0]
     show (if a.drop 2 = [] then _ else if (a.drop 2).getD 0 0 < 1 ∨ (a.drop 2).getD 0 0 > ((0 : Nat) : Int) - ([] : List Pix).length then none else _) = _
     rw [if_neg hne,if_pos]
     simp only [List.length_nil]
     omega
    rw [this]; rfl
  rw [<- hrr]; exact o2
theorem runRd_N {a : List Int} (hb : Byt a) (h : (runRd a).2 = true) : ∃ W H,RasN (runRd a).1 W H := by
 unfold runRd at h ⊢
 cases hok : runOk a with
 | false => rw [hok] at h; cases h
 | true =>
  rw [hok,if_pos rfl] at h
  rw [if_pos rfl]
  obtain ⟨_,h2,h3,_⟩ := of_decide_eq_true hok
  cases hr : rrGo ((a.getD 1 0).toNat * (a.getD 0 0).toNat) a.length (a.drop 2) [] with
  | none => rw [hr] at h; cases h
  | some l =>
   obtain ⟨q1,q2⟩ := rrGo_ok _ _ _ _ (byt_drop hb 2) rfl hr
   exact ⟨(a.getD 0 0).toNat,(a.getD 1 0).toNat,⟨by show a.getD 0 0 = _; omega,by show a.getD 1 0 = _; omega,by omega,by omega,by omega,by omega,q1,q2⟩⟩
end T
end
section
namespace T
open Go Go.E Go.Proofs
def bitA (l : List Int) (k : Nat) : Int := gt l ((k / 8 : Nat) : Int) 0 / 2 ^ (k % 8) % 2
def numB (l : List Int) (a : Nat) : Nat -> Int
 | 0 => 0
 | j + 1 => numB l a j + bitA l (a + j) * 2 ^ j
theorem bitA01 (l : List Int) (k : Nat) : bitA l k = 0 ∨ bitA l k = 1 := by unfold bitA; omega
theorem numB_le (l : List Int) (a : Nat) : ∀ j,j <= 9 -> 0 <= numB l a j ∧ numB l a j < 2 ^ j
 | 0,_ => by unfold numB; omega
 | j + 1,h => by
  obtain ⟨h1,h2⟩ := numB_le l a j (by omega)
  have hp := pw j (by omega)
  have := bitA01 l (a + j)
  unfold numB
  rw [Int.pow_succ]
  rcases this with q | q <;> rw [q] <;> omega
theorem L103 (l : List Int) (hb : Byt l) (hs : l.length <= 1000) (a : Nat) (ha : a + 9 <= 8 * l.length) : ∀ (k j : Nat),j + k = 9 -> l103 (q103_0 l a 9 (numB l a j) j) = some (numB l a 9,true)
 | 0,j,h => by
  refine eL ((c103_0 dd l103 ..).trans ?_); show (_ : Option (Int × Bool)) = some _
  have : j = 9 := by omega
  subst this
  rw [cond_no (by omega)]
 | k + 1,j,h => by
  have hln := lnE l
  have w1 : wi ((a : Int) + j) = ((a + j : Nat) : Int) := by rw [wi_id (by omega) (by omega)]; omega
  have e8 : (((a + j : Nat) : Int)).tdiv 8 = (((a + j) / 8 : Nat) : Int) := by rw [td (by omega)]; omega
  have m8 : (((a + j : Nat) : Int)).tmod 8 = (((a + j) % 8 : Nat) : Int) := by rw [tm (by omega)]; omega
  have w8 : wi (((a + j) / 8 : Nat) : Int) = (((a + j) / 8 : Nat) : Int) := wi_id (by omega) (by omega)
  have mt : min ((((a + j) % 8 : Nat) : Int)).toNat IntKind.i64.bits = (a + j) % 8 := minj (by show (a + j) % 8 <= 64; omega)
  have mj : min ((j : Int)).toNat IntKind.i64.bits = j := minj (by show j <= 64; omega)
  have hg := byt_gt hb (((a + j) / 8 : Nat) : Int)
  have hp := pow8 (m := (a + j) % 8) (by omega)
  have hpj := pw j (by omega)
  have hnb := numB_le l a j (by omega)
  have hv : (((gt l (((a + j) / 8 : Nat) : Int) 0)).fdiv (2 ^ ((a + j) % 8))).tmod 2 = bitA l (a + j) := by
   rw [fd (by omega),tm (Int.ediv_nonneg hg.1 (by omega))]; rfl
  have h01 := bitA01 l (a + j)
  have next := L103 l hb hs a ha k (j + 1) (by omega)
  have e : numB l a (j + 1) = numB l a j + bitA l (a + j) * 2 ^ j := rfl
  rw [e] at next
  refine eL ((c103_0 dd l103 ..).trans ?_); show (_ : Option (Int × Bool)) = some _
  rw [cond_yes (by omega),w1,e8,w8,m8,mt,mj,if_pos (by omega),if_pos (by omega),if_pos (by omega),if_pos (by omega),wi_b hg,hv,wi_nat (by omega)]
  have w2 : wi (bitA l (a + j) * 2 ^ j) = bitA l (a + j) * 2 ^ j := by rcases h01 with q | q <;> rw [q] <;> exact wi_id (by omega) (by omega)
  have w3 : wi (numB l a j + bitA l (a + j) * 2 ^ j) = numB l a j + bitA l (a + j) * 2 ^ j := by rcases h01 with q | q <;> rw [q] <;> exact wi_id (by omega) (by omega)
  rw [w2,w3]
  exact next
theorem D103 (l : List Int) (hb : Byt l) (hs : l.length <= 1000) (a : Nat) (ha : a <= 100000) : r103 dd (l,(a : Int),9) = some (if a + 9 <= 8 * l.length then (numB l a 9,true) else (0,false)) := by
 have hln := lnE l
 refine dL rfl ((b103 dd l103 ..).trans ?_); show (_ : Option (Int × Bool)) = some _
 rw [cond_no (by omega),D36,Option.bind_some,inR_iff.2 (by omega),Bool.not_true,cond_false,wi_id (x := 8 * ln l) (by omega) (by omega),wi_id (by omega) (by omega)]
 by_cases h : a + 9 <= 8 * l.length
 ·rw [cond_no (by omega),if_pos h]
  exact L103 l hb hs a h 9 0 (by omega)
 ·rw [cond_yes (by omega),if_neg h]
def endOk (l : List Int) (a : Nat) : Bool := decide ((a + 7) / 8 = l.length ∧ (a % 8 = 0 ∨ gt l ((a / 8 : Nat) : Int) 0 / 2 ^ (a % 8) = 0))
theorem div_step (b : Int) (m : Nat) (h0 : 0 <= b) : b / 2 ^ m = 0 ↔ b / 2 ^ m % 2 = 0 ∧ b / 2 ^ (m + 1) = 0 := by
 have e : b / 2 ^ (m + 1) = b / 2 ^ m / 2 := by
  rw [Int.pow_succ,Int.ediv_ediv_of_nonneg]
  exact Int.le_of_lt (Int.pow_pos (by decide))
 rw [e]
 omega
theorem L104 (l : List Int) (hb : Byt l) (q : Nat) (hq : q + 1 = l.length) (hs : l.length <= 1000) : ∀ (k m : Nat),m + k = 8 -> l104 (q104_0 l ((8 * q + m : Nat) : Int)) = some (decide (gt l (q : Int) 0 / 2 ^ m = 0))
 | 0,m,h => by
  have hln := lnE l
  have : m = 8 := by omega
  subst this
  have hg := byt_gt hb (q : Int)
  have e : gt l (q : Int) 0 / 2 ^ 8 = 0 := by omega
  refine eL ((c104_0 dd l104 ..).trans ?_); show (_ : Option Bool) = some _
  rw [wi_id (by omega) (by omega),cond_no (by omega),decide_eq_true e]
 | k + 1,m,h => by
  have hln := lnE l
  have hg := byt_gt hb (q : Int)
  have e8 : (((8 * q + m : Nat) : Int)).tdiv 8 = (q : Int) := by rw [td (by omega)]; omega
  have m8 : (((8 * q + m : Nat) : Int)).tmod 8 = (m : Int) := by rw [tm (by omega)]; omega
  have w8 : wi (q : Int) = q := wi_id (by omega) (by omega)
  have mt : min ((m : Int)).toNat IntKind.u8.bits = m := minj (by show m <= 8; omega)
  have hp := pow8 (m := m) (by omega)
  have hnn : 0 <= gt l (q : Int) 0 / 2 ^ m := Int.ediv_nonneg hg.1 (by omega)
  have hds := div_step (gt l (q : Int) 0) m hg.1
  refine eL ((c104_0 dd l104 ..).trans ?_); show (_ : Option Bool) = some _
  rw [wi_id (x := 8 * ln l) (by omega) (by omega),cond_yes (by omega),e8,w8,m8,mt,if_pos (by omega),if_pos (by omega),if_pos (by omega),fd (by omega),tm hnn]
  by_cases c : gt l (q : Int) 0 / 2 ^ m % 2 = 1
  ·rw [ceq_yes c,decide_eq_false (by omega)]
  ·rw [ceq_no c,wi_nat (by omega)]
   have := L104 l hb q hq hs k (m + 1) (by omega)
   rw [show 8 * q + m + 1 = 8 * q + (m + 1) by omega,this]
   have : decide (gt l (q : Int) 0 / 2 ^ m = 0) = decide (gt l (q : Int) 0 / 2 ^ (m + 1) = 0) := by
    by_cases z : gt l (q : Int) 0 / 2 ^ (m + 1) = 0
    ·rw [decide_eq_true z,decide_eq_true (hds.2 ⟨by omega,z⟩)]
    ·rw [decide_eq_false z,decide_eq_false (fun x => z (hds.1 x).2)]
   rw [this]
theorem D104 (l : List Int) (hb : Byt l) (hs : l.length <= 1000) (a : Nat) (ha : (a + 7) / 8 = l.length) (h1 : 1 <= a) : r104 dd (l,(a : Int)) = some (endOk l a) := by
 have hln := lnE l
 refine dL rfl ((b104 dd l104 ..).trans ?_); show (_ : Option Bool) = some _
 by_cases c : a % 8 = 0
 ·have : endOk l a = true := decide_eq_true ⟨ha,.inl c⟩
  rw [this]
  refine eL ((c104_0 dd l104 ..).trans ?_); show (_ : Option Bool) = some _
  rw [wi_id (by omega) (by omega),cond_no (by omega)]
 ·have := L104 l hb (a / 8) (by omega) hs (8 - a % 8) (a % 8) (by omega)
  rw [show 8 * (a / 8) + a % 8 = a by omega] at this
  rw [this]
  unfold endOk
  congr 1
  exact decide_eq_decide.2 ⟨fun h => ⟨ha,.inr h⟩,fun h => h.2.resolve_left c⟩
theorem D150 (l : List Int) (hb : Byt l) (hs : l.length <= 1000) (a : Nat) (ha : a <= 100000) : r150 dd (l,(a : Int)) = some (endOk l a) := by
 have hln := lnE l
 refine dL rfl ((b150 dd l150 ..).trans ?_); show (_ : Option Bool) = some _
 have w7 : wi ((a : Int) + 7) = ((a + 7 : Nat) : Int) := by rw [wi_id (by omega) (by omega)]; omega
 have e7 : (((a + 7 : Nat) : Int)).tdiv 8 = (((a + 7) / 8 : Nat) : Int) := by rw [td (by omega)]; omega
 have w8 : wi (((a + 7) / 8 : Nat) : Int) = (((a + 7) / 8 : Nat) : Int) := wi_id (by omega) (by omega)
 have m8 : ((a : Int)).tmod 8 = ((a % 8 : Nat) : Int) := by rw [tm (by omega)]; omega
 have e8 : ((a : Int)).tdiv 8 = ((a / 8 : Nat) : Int) := by rw [td (by omega)]; omega
 have wa : wi ((a / 8 : Nat) : Int) = ((a / 8 : Nat) : Int) := wi_id (by omega) (by omega)
 rw [w7,e7,w8,m8,e8,wa]
 by_cases c1 : (a + 7) / 8 = l.length
 rotate_left
 ·rw [cne_yes (by omega)]
  have : endOk l a = false := decide_eq_false fun h => c1 h.1
  rw [this]
 rw [cne_no (by omega)]
 by_cases c : a % 8 = 0
 ·have : endOk l a = true := decide_eq_true ⟨c1,.inl c⟩
  rw [ceq_yes (by omega),this]
 ·have mt : min (((a % 8 : Nat) : Int)).toNat IntKind.u8.bits = a % 8 := minj (by show a % 8 <= 8; omega)
  have hp := pow8 (m := a % 8) (by omega)
  rw [ceq_no (by omega),if_pos (by omega),if_pos (by omega),if_pos (by omega),mt,fd (by omega)]
  unfold endOk
  congr 1
  by_cases z : gt l ((a / 8 : Nat) : Int) 0 / 2 ^ (a % 8) = 0
  ·rw [decide_eq_true ⟨c1,.inr z⟩]; exact beq_iff_eq.2 z
  ·rw [decide_eq_false fun h => z (h.2.resolve_left c)]; exact beq_eq_false_iff_ne.2 z
end T
end
section
namespace T
open Go Go.E Go.Proofs
def headP (b : List Int) : Int := b.getD 0 0
def pgB (met : List (List Int)) (last : List Int) (c : Int) : Option (List Int) :=
 if c < 256 then some [c]
 else if c - 257 < met.length then some (gt met (c - 257) [])
 else if c - 257 = met.length ∧ 0 < last.length ∧ met.length < 255 then some (last ++ [headP last]) else none
def metG (met : List (List Int)) (last b : List Int) : List (List Int) := if 0 < last.length ∧ met.length < 255 then met ++ [last ++ [headP b]] else met
def pgGo (l : List Int) : Nat -> Nat -> List Int -> List (List Int) -> List Int -> List Int × Bool
 | 0,_,_,_,_ => ([],false)
 | f + 1,a,last,met,out => if a + 9 <= 8 * l.length then
   (if numB l a 9 = 256 then (if endOk l (a + 9) then (out,true) else ([],false)) else
    match pgB met last (numB l a 9) with
    | none => ([],false)
    | some b => if out.length + b.length <= 200 then pgGo l f (a + 9) b (metG met last b) (out ++ b) else ([],false))
  else ([],false)
structure PG (last : List Int) (met : List (List Int)) (out : List Int) : Prop where
 o1 : out.length <= 200
 o2 : Byt out
 l1 : last.length <= out.length
 l2 : last = out.drop (out.length - last.length)
 l3 : out ≠ [] -> 0 < last.length
 m1 : met.length <= 255
 m2 : ∀ (i : Nat) (h : i < met.length),2 <= met[i].length ∧ ∃ a,a + met[i].length <= out.length ∧ met[i] = (out.drop a).take met[i].length
theorem PG.nil : PG [] [] [] := ⟨by simp,byt_nil,by simp,rfl,fun h => absurd rfl h,by simp,fun i h => absurd h (Nat.not_lt_zero _)⟩
theorem PG.metB {last : List Int} {met : List (List Int)} {out : List Int} (h : PG last met out) {i : Nat} (hi : i < met.length) : Byt met[i] := by
 obtain ⟨_,a,_,e⟩ := h.m2 i hi
 rw [e]; exact byt_take (byt_drop h.o2 a) _
theorem PG.lastB {last : List Int} {met : List (List Int)} {out : List Int} (h : PG last met out) : Byt last := by rw [h.l2]; exact byt_drop h.o2 _
theorem headP_byt {b : List Int} (h : Byt b) : 0 <= headP b ∧ headP b < 256 := byt_getD h 0
theorem pgB_some {last : List Int} {met : List (List Int)} {out : List Int} (h : PG last met out) {c : Int} (h0 : 0 <= c) (h1 : c < 512) (hne : c ≠ 256) {b : List Int} (hb : pgB met last c = some b) : Byt b ∧ 1 <= b.length ∧ b.length <= 201 := by
 unfold pgB at hb
 split at hb
 ·cases hb; exact ⟨byt_cons.2 ⟨by omega,byt_nil⟩,by simp,by simp⟩
 ·split at hb
  ·cases hb
   obtain ⟨i,hi⟩ : ∃ i : Nat,c - 257 = i := ⟨(c - 257).toNat,by omega⟩
   rw [hi,gt_get (by omega)]
   have hm := h.m2 i (by omega)
   have := h.o1
   obtain ⟨h2,a,h3,_⟩ := hm
   exact ⟨h.metB _,by omega,by omega⟩
  ·split at hb
   ·cases hb
    have := h.l1; have := h.o1
    exact ⟨byt_app.2 ⟨h.lastB,byt_cons.2 ⟨headP_byt h.lastB,byt_nil⟩⟩,by simp,by simp; omega⟩
   ·cases hb
theorem take_app {α : Type} {l m : List α} {a n : Nat} (h : a + n <= l.length) : ((l ++ m).drop a).take n = (l.drop a).take n := by
 rw [List.drop_append_of_le_length (by omega),List.take_append_of_le_length (by simp; omega)]
theorem PG.step {last : List Int} {met : List (List Int)} {out : List Int} (h : PG last met out) {b : List Int} (hb : Byt b) (h1 : 1 <= b.length) (hl : out.length + b.length <= 200) : PG b (metG met last b) (out ++ b) := by
 refine ⟨by simp; omega,byt_app.2 ⟨h.o2,hb⟩,by simp,?_,fun _ => h1,?_,?_⟩
 ·rw [List.length_append,Nat.add_sub_cancel]
  rw [List.drop_append_of_le_length (Nat.le_refl _),List.drop_eq_nil_of_le (Nat.le_refl _),List.nil_append]
 ·have := h.m1
  unfold metG; split
  ·simp; omega
  ·exact this
 ·have old : ∀ (i : Nat) (hi : i < met.length),2 <= met[i].length ∧ ∃ a,a + met[i].length <= (out ++ b).length ∧ met[i] = ((out ++ b).drop a).take met[i].length := fun i hi => by
   obtain ⟨q1,a,q2,q3⟩ := h.m2 i hi
   exact ⟨q1,a,by simp; omega,by rw [take_app q2]; exact q3⟩
  intro i hi
  unfold metG at hi ⊢
  split
  ·rename_i hc
   rw [if_pos hc] at hi
   rcases Nat.lt_or_ge i met.length with q | q
   ·simp only [List.getElem_append_left q]
    exact old i q
   ·have hi' : i = met.length := by simp at hi; omega
    subst hi'
    have e : (met ++ [last ++ [headP b]])[met.length] = last ++ [headP b] := by simp
    simp only [e]
    have hlast := h.l1
    refine ⟨by simp; omega,out.length - last.length,by simp; omega,?_⟩
    have hd : (out ++ b).drop (out.length - last.length) = last ++ b := by
     rw [List.drop_append_of_le_length (by omega), <- h.l2]
    rw [hd,List.length_append]
    obtain ⟨x,r,rfl⟩ : ∃ x r,b = x :: r := by
     cases b with
     | nil => simp at h1
     | cons x r => exact ⟨x,r,rfl⟩
    show last ++ [x] = (last ++ x :: r).take (last.length + 1)
    rw [List.take_length_add_append]
    rfl
  ·rename_i hc
   rw [if_neg hc] at hi
   exact old i hi
def Spots (sp : List (Int × Int)) (met : List (List Int)) (out : List Int) : Prop := sp.length = met.length ∧ ∀ (i : Nat) (h : i < met.length),∃ a : Nat,gt sp (i : Int) (0,0) = ((a : Int),(met[i].length : Int)) ∧ a + met[i].length <= out.length ∧ met[i] = (out.drop a).take met[i].length
def copyP (out : List Int) (a : Nat) : Nat -> List Int
 | 0 => out
 | n + 1 => copyP out a n ++ [gt (copyP out a n) ((a + n : Nat) : Int) 0]
theorem copyP_len (out : List Int) (a : Nat) : ∀ n,(copyP out a n).length = out.length + n
 | 0 => rfl
 | n + 1 => by
  show (copyP out a n ++ [_]).length = _
  rw [List.length_append,copyP_len out a n]; rfl
theorem copyP_old {out : List Int} {a : Nat} : ∀ (n : Nat),a + n <= out.length -> copyP out a n = out ++ (out.drop a).take n
 | 0,_ => by simp [copyP]
 | n + 1,h => by
  show copyP out a n ++ [_] = _
  rw [copyP_old n (by omega),gt_get (by simp; omega)]
  rw [List.getElem_append_left (by omega),List.append_assoc]
  congr 1
  have : (out.drop a).take (n + 1) = (out.drop a).take n ++ [(out.drop a)[n]'(by simp; omega)] := by
   rw [List.take_succ_eq_append_getElem]
  rw [this,List.getElem_drop]
theorem copyP_new {out last : List Int} (h1 : last = out.drop (out.length - last.length)) (h2 : 0 < last.length) (h3 : last.length <= out.length) : copyP out (out.length - last.length) (last.length + 1) = out ++ (last ++ [headP last]) := by
 show copyP out (out.length - last.length) last.length ++ [_] = _
 rw [copyP_old _ (by omega), <- h1,List.take_length]
 have e : out.length - last.length + last.length = out.length := by omega
 rw [e,gt_get (by simp; omega),List.getElem_append_right (Nat.le_refl _),List.append_assoc]
 congr 2
 have : headP last = last[0] := by
  unfold headP
  rw [List.getD_eq_getElem?_getD,List.getElem?_eq_getElem h2]; rfl
 rw [this]
 simp
theorem L149c (st la ls : Int) (sp : List (Int × Int)) (a n : Nat) (out : List Int) (ho : out.length + n <= 1000) (ha : a < out.length) (hst : st = (out.length : Int)) (R : Bool × List Int × List (Int × Int) × Int × Int) : ∀ (k j : Nat),j + k = n ->
  some (decide ((copyP out a n).length <= 200),copyP out a n,sp,st,(n : Int)) = some R -> l149 (q149_2 st n j la ls (copyP out a j) sp a n) = some R
 | 0,j,h,hk => by
  have : j = n := by omega
  subst this
  have hlc := copyP_len out a j
  have hln := lnE (copyP out a j)
  refine eL ((c149_2 dd l149 ..).trans ?_); show (_ : Option (Bool × List Int × List (Int × Int) × Int × Int)) = some _
  rw [cond_no (by omega)]
  refine eL ((c149_1 dd l149 ..).trans ?_); show (_ : Option (Bool × List Int × List (Int × Int) × Int × Int)) = some _
  rw [wi_id (by omega) (by omega), <- hk]
  have e1 : decide (ln (copyP out a j) <= 200) = decide ((copyP out a j).length <= 200) := decide_eq_decide.2 (by omega)
  have e2 : ln (copyP out a j) - st = j := by omega
  rw [e1,e2]
 | k + 1,j,h,hk => by
  have hlc := copyP_len out a j
  have hln := lnE (copyP out a j)
  have w1 : wi ((a : Int) + j) = ((a + j : Nat) : Int) := by rw [wi_id (by omega) (by omega)]; omega
  refine eL ((c149_2 dd l149 ..).trans ?_); show (_ : Option (Bool × List Int × List (Int × Int) × Int × Int)) = some _
  rw [cond_yes (by omega),w1,if_pos (by omega),if_pos (by omega),if_pos (by omega),wi_nat (by omega)]
  exact L149c st la ls sp a n out ho ha hst R k (j + 1) (by omega) hk
def spG (sp : List (Int × Int)) (out last : List Int) : List (Int × Int) := if 0 < out.length ∧ sp.length < 255 then sp ++ [(((out.length - last.length : Nat) : Int),(last.length : Int) + 1)] else sp
theorem spots_get {sp : List (Int × Int)} {q : Int × Int} {i : Nat} (h : i < sp.length) : gt (sp ++ [q]) (i : Int) (0,0) = gt sp (i : Int) (0,0) := by
 rw [gt_get (by simp; omega),gt_get h,List.getElem_append_left h]
theorem D149 {last : List Int} {met : List (List Int)} {out : List Int} (h : PG last met out) {sp : List (Int × Int)} (hs : Spots sp met out) {c : Int} (h0 : 0 <= c) (h1 : c < 512) (hne : c ≠ 256) (la : Int) (hla : out ≠ [] -> la = ((out.length - last.length : Nat) : Int)) :
  match pgB met last c with
  | none => ∃ R,r149 dd ((out,sp,la,(last.length : Int)),c) = some (false,R)
  | some b => r149 dd ((out,sp,la,(last.length : Int)),c) = some (decide (out.length + b.length <= 200),out ++ b,spG sp out last,(out.length : Int),(b.length : Int)) := by
 have hln := lnE out
 have hls := lnE sp
 have hlen := hs.1
 have ho1 := h.o1
 have hm1 := h.m1
 have hl1 := h.l1
 have start : ∀ R,l149 (q149_0 c (ln out) la (last.length : Int) out (spG sp out last)) = some R -> r149 dd ((out,sp,la,(last.length : Int)),c) = some R := by
  intro R hk
  refine dL rfl ((b149 dd l149 ..).trans ?_); show (_ : Option (Bool × List Int × List (Int × Int) × Int × Int)) = some _
  unfold spG at hk
  by_cases c1 : 0 < out.length
  ·have hlae := hla (fun x => by rw [x] at c1; simp at c1)
   rw [cond_yes (by omega),wi_id (by omega) (by omega)]
   by_cases c2 : sp.length < 255
   ·rw [if_pos ⟨c1,c2⟩] at hk
    rw [cond_yes (by omega),if_pos (by omega),wi_id (by omega) (by omega)]
    rw [hlae] at hk ⊢
    exact hk
   ·rw [if_neg (fun x => c2 x.2)] at hk
    rw [cond_no (by omega)]
    exact hk
  ·rw [if_neg (fun x => c1 x.1)] at hk
   rw [cond_no (by omega)]
   exact hk
 have hlsg := lnE (spG sp out last)
 unfold pgB
 by_cases c1 : c < 256
 ·rw [if_pos c1]
  refine start _ ?_
  refine eL ((c149_0 dd l149 ..).trans ?_); show (_ : Option (Bool × List Int × List (Int × Int) × Int × Int)) = some _
  rw [cond_yes c1,if_pos (by omega),wb_id h0 c1]
  refine eL ((c149_1 dd l149 ..).trans ?_); show (_ : Option (Bool × List Int × List (Int × Int) × Int × Int)) = some _
  have hl2 := lnE (out.append [c])
  have hl3 : (out.append [c]).length = out.length + 1 := by show (out ++ [c]).length = _; simp
  rw [wi_id (by omega) (by omega)]
  have e1 : decide (ln (out.append [c]) <= 200) = decide (out.length + [c].length <= 200) := decide_eq_decide.2 (by rw [List.length_singleton]; omega)
  rw [e1,show ln (out.append [c]) - ln out = (([c] : List Int).length : Int) by rw [List.length_singleton]; omega,hln]
  rfl
 rw [if_neg c1]
 have w1 : wi (c - 257) = c - 257 := wi_id (by omega) (by omega)
 by_cases c2 : c - 257 < met.length
 ·rw [if_pos c2]
  refine start _ ?_
  obtain ⟨i,hi⟩ : ∃ i : Nat,c - 257 = i := ⟨(c - 257).toNat,by omega⟩
  have him : i < met.length := by omega
  obtain ⟨a,g1,g2,g3⟩ := hs.2 i him
  have hm2 := (h.m2 i him).1
  have hsl : i < (spG sp out last).length := by unfold spG; split <;> (try simp) <;> omega
  have hg : gt (spG sp out last) (i : Int) (0,0) = ((a : Int),(met[i].length : Int)) := by
   unfold spG; split
   ·rw [spots_get (by omega)]; exact g1
   ·exact g1
  have hgm : gt met (c - 257) [] = met[i] := by rw [hi,gt_get him]
  refine eL ((c149_0 dd l149 ..).trans ?_); show (_ : Option (Bool × List Int × List (Int × Int) × Int × Int)) = some _
  rw [cond_no c1,cond_yes (by omega),w1,hi,cond_yes (by omega),if_pos (by omega),if_pos (by omega),hg]
  refine L149c _ la _ _ a met[i].length out (by omega) (by omega) hln _ met[i].length 0 (by omega) ?_
  rw [copyP_old _ g2, <- g3, <- hi,hgm,hln]
  simp
 rw [if_neg c2]
 by_cases c3 : c - 257 = met.length ∧ 0 < last.length ∧ met.length < 255
 ·rw [if_pos c3]
  refine start _ ?_
  obtain ⟨c3,c4,c5⟩ := c3
  have hpos : 0 < out.length := by omega
  have hsg : spG sp out last = sp ++ [(((out.length - last.length : Nat) : Int),(last.length : Int) + 1)] := by
   unfold spG; rw [if_pos ⟨hpos,by omega⟩]
  have hg : gt (spG sp out last) (met.length : Int) (0,0) = (((out.length - last.length : Nat) : Int),(last.length : Int) + 1) := by
   rw [hsg, <- hlen,gt_get (by simp)]; simp
  have hsl : (spG sp out last).length = met.length + 1 := by rw [hsg]; simp; omega
  refine eL ((c149_0 dd l149 ..).trans ?_); show (_ : Option (Bool × List Int × List (Int × Int) × Int × Int)) = some _
  rw [cond_no c1,cond_yes (by omega),w1,c3,cond_yes (by omega),if_pos (by omega),if_pos (by omega),hg]
  have := L149c (ln out) la (last.length : Int) (spG sp out last) (out.length - last.length) (last.length + 1) out (by omega) (by omega) hln _ (last.length + 1) 0 (by omega) rfl
  rw [copyP_new h.l2 c4 hl1] at this
  rw [hln] at this ⊢
  have e : (out ++ (last ++ [headP last])).length = out.length + (last ++ [headP last]).length := by simp
  rw [e] at this
  have e2 : (((last ++ [headP last]).length : Nat) : Int) = ((last.length + 1 : Nat) : Int) := by simp
  rw [e2]
  exact this
 ·rw [if_neg c3]
  refine ⟨(out,spG sp out last,la,(last.length : Int)),start _ ?_⟩
  refine eL ((c149_0 dd l149 ..).trans ?_); show (_ : Option (Bool × List Int × List (Int × Int) × Int × Int)) = some _
  rw [cond_no c1]
  by_cases c4 : c ≥ 257
  ·have hsg : (spG sp out last).length = met.length ∨ ((spG sp out last).length = met.length + 1 ∧ 0 < out.length ∧ met.length < 255) := by
    unfold spG; split
    ·right; simp; omega
    ·left; exact hlen
   rw [cond_yes c4,w1,cond_no ?_]
   rcases hsg with q | ⟨q,q2,q3⟩
   ·omega
   ·have := h.l3 (fun x => by rw [x] at q2; simp at q2)
    omega
  ·rw [cond_no c4]
theorem Spots.step {last : List Int} {met : List (List Int)} {out : List Int} (h : PG last met out) {sp : List (Int × Int)} (hs : Spots sp met out) {b : List Int} (h1 : 1 <= b.length) : Spots (spG sp out last) (metG met last b) (out ++ b) := by
 have hlen := hs.1
 have old : ∀ (i : Nat) (h : i < met.length),∃ a : Nat,gt sp (i : Int) (0,0) = ((a : Int),(met[i].length : Int)) ∧ a + met[i].length <= (out ++ b).length ∧ met[i] = ((out ++ b).drop a).take met[i].length := fun i hi => by
  obtain ⟨a,q1,q2,q3⟩ := hs.2 i hi
  exact ⟨a,q1,by simp; omega,by rw [take_app q2]; exact q3⟩
 have hl1 := h.l1
 have hiff : (0 < out.length ∧ sp.length < 255) ↔ (0 < last.length ∧ met.length < 255) := by
  constructor
  ·intro ⟨q1,q2⟩
   exact ⟨h.l3 (fun x => by rw [x] at q1; simp at q1),by omega⟩
  ·intro ⟨q1,q2⟩; exact ⟨by omega,by omega⟩
 unfold spG metG
 by_cases c : 0 < last.length ∧ met.length < 255
 ·rw [if_pos (hiff.2 c),if_pos c]
  refine ⟨by simp; omega,fun i hi => ?_⟩
  rcases Nat.lt_or_ge i met.length with q | q
  ·simp only [List.getElem_append_left q]
   rw [spots_get (by omega)]
   exact old i q
  ·have hi' : i = met.length := by simp at hi; omega
   subst hi'
   have e : (met ++ [last ++ [headP b]])[met.length] = last ++ [headP b] := by simp
   simp only [e]
   refine ⟨out.length - last.length,?_,by simp; omega,?_⟩
   ·rw [<- hlen,gt_get (by simp)]; simp
   ·have hd : (out ++ b).drop (out.length - last.length) = last ++ b := by
     rw [List.drop_append_of_le_length (by omega), <- h.l2]
    rw [hd,List.length_append]
    obtain ⟨x,r,rfl⟩ : ∃ x r,b = x :: r := by
     cases b with
     | nil => simp at h1
     | cons x r => exact ⟨x,r,rfl⟩
    show last ++ [x] = (last ++ x :: r).take (last.length + 1)
    rw [List.take_length_add_append]
    rfl
 ·rw [if_neg (fun x => c (hiff.1 x)),if_neg c]
  exact ⟨hlen,old⟩
theorem or64 (n v : Int) (j : Nat) (hj : j <= 8) (h0 : 0 <= n) (h1 : n < 2 ^ j) (hv : v = 0 ∨ v = 1) : wi (↑(BitVec.ofInt IntKind.i64.bits n ||| BitVec.ofInt IntKind.i64.bits (v * 2 ^ j)).toNat : Int) = n + v * 2 ^ j := by
 have hp := pw j hj
 have hpn : ((2 ^ j : Nat) : Int) = 2 ^ j := by simp
 have e : (BitVec.ofInt IntKind.i64.bits n ||| BitVec.ofInt IntKind.i64.bits (v * 2 ^ j)).toNat = n.toNat + v.toNat * 2 ^ j := by
  rw [BitVec.toNat_or,BitVec.toNat_ofInt,BitVec.toNat_ofInt]
  show (n % 18446744073709551616).toNat ||| (v * 2 ^ j % 18446744073709551616).toNat = _
  have e1 : (n % 18446744073709551616).toNat = n.toNat := by omega
  have e2 : (v * 2 ^ j % 18446744073709551616).toNat = 2 ^ j * v.toNat := by
   rcases hv with rfl | rfl
   ·simp
   ·rw [Int.one_mul,Int.emod_eq_of_lt (by omega) (by omega), <- hpn,Int.toNat_natCast]; simp
  rw [e1,e2,Nat.or_comm, <- Nat.two_pow_add_eq_or_of_lt (by omega),Nat.mul_comm]
  omega
 rw [e]
 have : ((n.toNat + v.toNat * 2 ^ j : Nat) : Int) = n + v * 2 ^ j := by
  rcases hv with rfl | rfl
  ·simp; omega
  ·simp; omega
 rw [this]
 rcases hv with rfl | rfl <;> exact wi_id (by omega) (by omega)
theorem L146b (l : List Int) (hb : Byt l) (hs : l.length <= 1000) (a : Nat) (ha : a + 9 <= 8 * l.length) (x2 x3 : Int) (out : List Int) (sp : List (Int × Int)) (R : List Int × Bool) : ∀ (k j : Nat),j + k = 9 ->
  l146 (q146_1 (numB l a 9) 9 9 l l ((a + 9 : Nat) : Int) false x2 x3 out sp) = some R -> l146 (q146_1 (numB l a j) 9 j l l ((a + j : Nat) : Int) false x2 x3 out sp) = some R
 | 0,j,h,hk => by
  have : j = 9 := by omega
  subst this; exact hk
 | k + 1,j,h,hk => by
  have hln := lnE l
  have e8 : (((a + j : Nat) : Int)).tdiv 8 = (((a + j) / 8 : Nat) : Int) := by rw [td (by omega)]; omega
  have m8 : (((a + j : Nat) : Int)).tmod 8 = (((a + j) % 8 : Nat) : Int) := by rw [tm (by omega)]; omega
  have w8 : wi (((a + j) / 8 : Nat) : Int) = (((a + j) / 8 : Nat) : Int) := wi_id (by omega) (by omega)
  have mt : min ((((a + j) % 8 : Nat) : Int)).toNat IntKind.u8.bits = (a + j) % 8 := minj (by show (a + j) % 8 <= 8; omega)
  have mj : min ((j : Int)).toNat IntKind.i64.bits = j := minj (by show j <= 64; omega)
  have hg := byt_gt hb (((a + j) / 8 : Nat) : Int)
  have hp := pow8 (m := (a + j) % 8) (by omega)
  have hpj := pw j (by omega)
  obtain ⟨n0,n1⟩ := numB_le l a j (by omega)
  have h01 := bitA01 l (a + j)
  have hv : wb (↑(BitVec.ofInt IntKind.u8.bits ((gt l (((a + j) / 8 : Nat) : Int) 0).fdiv (2 ^ ((a + j) % 8))) &&& BitVec.ofInt IntKind.u8.bits 1).toNat : Int) = bitA l (a + j) := by
   rw [fd (by omega),and1b _ (Int.ediv_nonneg hg.1 (by omega))]; rfl
  have e : numB l a (j + 1) = numB l a j + bitA l (a + j) * 2 ^ j := rfl
  have next := L146b l hb hs a ha x2 x3 out sp R k (j + 1) (by omega) hk
  rw [e] at next
  refine eL ((c146_1 dd l146 ..).trans ?_)
  rw [cond_yes (by omega),e8,w8,m8,mt,mj,if_pos (by omega),if_pos (by omega),if_pos (by omega),if_pos (by omega),hv]
  have w1 : wi (bitA l (a + j)) = bitA l (a + j) := by rcases h01 with q | q <;> rw [q] <;> exact wi_id (by omega) (by omega)
  have w2 : wi (bitA l (a + j) * 2 ^ j) = bitA l (a + j) * 2 ^ j := by rcases h01 with q | q <;> rw [q] <;> exact wi_id (by omega) (by omega)
  rw [w1,w2,or64 _ _ j (by omega) n0 n1 h01,wi_nat (by omega),wi_nat (by omega)]
  exact next
theorem L146 (l : List Int) (hb : Byt l) (hs : l.length <= 300) : ∀ (f j : Nat) (last : List Int) (met : List (List Int)) (out : List Int) (sp : List (Int × Int)) (la : Int),f + j = l.length + 1 -> PG last met out -> Spots sp met out -> (out ≠ [] -> la = ((out.length - last.length : Nat) : Int)) ->
  l146 (q146_0 l l ((9 * j : Nat) : Int) false la (last.length : Int) out sp) = some (pgGo l f (9 * j) last met out)
 | 0,j,last,met,out,sp,la,h,_,_,_ => by
  have hln := lnE l
  refine eL ((c146_0 dd l146 ..).trans ?_)
  rw [cond_false,cond_no (by omega),wi_id (x := 8 * ln l) (by omega) (by omega),wi_id (by omega) (by omega),cond_yes (by omega)]
  rfl
 | f + 1,j,last,met,out,sp,la,h,hp,hsp,hla => by
  have hln := lnE l
  refine eL ((c146_0 dd l146 ..).trans ?_)
  rw [cond_false,cond_no (by omega),wi_id (x := 8 * ln l) (by omega) (by omega),wi_id (by omega) (by omega)]
  by_cases c : 9 * j + 9 <= 8 * l.length
  rotate_left
  ·rw [cond_yes (by omega)]
   show _ = some (if 9 * j + 9 <= 8 * l.length then _ else _)
   rw [if_neg c]
  rw [cond_no (by omega)]
  obtain ⟨n0,n1⟩ := numB_le l (9 * j) 9 (by omega)
  have n1 : numB l (9 * j) 9 < 512 := n1
  have st : pgGo l (f + 1) (9 * j) last met out = (if numB l (9 * j) 9 = 256 then (if endOk l (9 * j + 9) then (out,true) else ([],false)) else
    match pgB met last (numB l (9 * j) 9) with
    | none => ([],false)
    | some b => if out.length + b.length <= 200 then pgGo l f (9 * j + 9) b (metG met last b) (out ++ b) else ([],false)) := by
   show (if 9 * j + 9 <= 8 * l.length then _ else _) = _
   rw [if_pos c]
  refine L146b l hb (by omega) (9 * j) c la (last.length : Int) out sp _ 9 0 (by omega) ?_
  rw [st]
  refine eL ((c146_1 dd l146 ..).trans ?_)
  rw [cond_no (by omega),cond_false]
  by_cases c2 : numB l (9 * j) 9 = 256
  ·rw [ceq_yes c2,if_pos c2,D150 l hb (by omega) _ (by omega),Option.bind_some]
   cases endOk l (9 * j + 9) <;> rfl
  ·rw [ceq_no c2,if_neg c2]
   have hD := D149 hp hsp n0 n1 c2 la hla
   cases hg : pgB met last (numB l (9 * j) 9) with
   | none =>
    rw [hg] at hD
    obtain ⟨R,hD⟩ := hD
    rw [hD,Option.bind_some]; rfl
   | some b =>
    rw [hg] at hD
    dsimp only at hD ⊢
    rw [hD,Option.bind_some]
    obtain ⟨b1,b2,b3⟩ := pgB_some hp n0 n1 c2 hg
    by_cases c3 : out.length + b.length <= 200
    ·rw [if_pos c3,decide_eq_true c3]
     have := L146 l hb hs f (j + 1) b (metG met last b) (out ++ b) (spG sp out last) (out.length : Int) (by omega) (hp.step b1 b2 c3) (hsp.step hp b2) (fun _ => by simp)
     rw [show 9 * (j + 1) = 9 * j + 9 by omega] at this
     exact this
    ·rw [if_neg c3,decide_eq_false c3]; rfl
def pakGP (l : List Int) : List Int × Bool := pgGo l (l.length + 1) 0 [] [] []
theorem D146 (l : List Int) (hb : Byt l) (hs : l.length <= 300) : r146 dd l = some (pakGP l) := by
 refine dL rfl ((b146 dd l146 ..).trans ?_)
 exact L146 l hb hs (l.length + 1) 0 [] [] [] [] 0 (by omega) PG.nil ⟨rfl,fun i h => absurd h (Nat.not_lt_zero _)⟩ (fun h => absurd rfl h)
theorem pgGo_byt (l : List Int) : ∀ (f a : Nat) (last : List Int) (met : List (List Int)) (out : List Int),PG last met out -> Byt (pgGo l f a last met out).1 ∧ (pgGo l f a last met out).1.length <= 200
 | 0,_,_,_,_,_ => ⟨byt_nil,Nat.zero_le _⟩
 | f + 1,a,last,met,out,hp => by
  have no : Byt (([],false) : List Int × Bool).1 ∧ (([],false) : List Int × Bool).1.length <= 200 := ⟨byt_nil,Nat.zero_le _⟩
  have st : pgGo l (f + 1) a last met out = if a + 9 <= 8 * l.length then
   (if numB l a 9 = 256 then (if endOk l (a + 9) then (out,true) else ([],false)) else
    match pgB met last (numB l a 9) with
    | none => ([],false)
    | some b => if out.length + b.length <= 200 then pgGo l f (a + 9) b (metG met last b) (out ++ b) else ([],false))
   else ([],false) := rfl
  rw [st]
  obtain ⟨n0,n1⟩ := numB_le l a 9 (by omega)
  have n1 : numB l a 9 < 512 := n1
  generalize numB l a 9 = c at *
  by_cases c1 : a + 9 <= 8 * l.length
  ·rw [if_pos c1]
   by_cases c2 : c = 256
   ·rw [if_pos c2]
    cases endOk l (a + 9) with
    | true => exact ⟨hp.o2,hp.o1⟩
    | false => exact no
   ·rw [if_neg c2]
    cases hg : pgB met last c with
    | none => exact no
    | some b =>
     dsimp only
     by_cases c3 : out.length + b.length <= 200
     ·rw [if_pos c3]
      obtain ⟨b1,b2,b3⟩ := pgB_some hp n0 n1 c2 hg
      exact pgGo_byt l f _ _ _ _ (hp.step b1 b2 c3)
     ·rw [if_neg c3]; exact no
  ·rw [if_neg c1]; exact no
end T
end
section
namespace T
open Go Go.E Go.Proofs
theorem gt_match {o : List (List Int)} {i : Nat} (h : i < o.length) : gt o (i : Int) [] = o[i] := gt_get h
theorem L80 (l : List Int) (hb : Byt l) (hs : l.length <= 300) : ∀ (f j : Nat) (last : List Int) (met : List (List Int)) (out : List Int),f + j = l.length + 1 -> PG last met out -> l80 (q80_0 l last ((9 * j : Nat) : Int) out met) = some (pgGo l f (9 * j) last met out)
 | 0,j,last,met,out,h,_ => by
  refine eL ((c80_0 dd l80 ..).trans ?_); show (_ : Option (List Int × Bool)) = some _
  rw [cond_yes (by omega),D103 l hb (by omega) (9 * j) (by omega),if_neg (by omega),Option.bind_some]
  rfl
 | f + 1,j,last,met,out,h,hp => by
  have hln := lnE l
  have hlm := lnE met
  have hll := lnE last
  have hlo := lnE out
  have ho1 := hp.o1
  have hm1 := hp.m1
  have hl1 := hp.l1
  refine eL ((c80_0 dd l80 ..).trans ?_); show (_ : Option (List Int × Bool)) = some _
  rw [cond_yes (by omega),D103 l hb (by omega) (9 * j) (by omega),Option.bind_some]
  by_cases c : 9 * j + 9 <= 8 * l.length
  rotate_left
  ·rw [if_neg c]
   show _ = some (if 9 * j + 9 <= 8 * l.length then _ else _)
   rw [if_neg c]; rfl
  rw [if_pos c]
  obtain ⟨n0,n1⟩ := numB_le l (9 * j) 9 (by omega)
  have n1 : numB l (9 * j) 9 < 512 := n1
  have st : pgGo l (f + 1) (9 * j) last met out = (if numB l (9 * j) 9 = 256 then (if endOk l (9 * j + 9) then (out,true) else ([],false)) else
    match pgB met last (numB l (9 * j) 9) with
    | none => ([],false)
    | some b => if out.length + b.length <= 200 then pgGo l f (9 * j + 9) b (metG met last b) (out ++ b) else ([],false)) := if_pos c
  rw [st]
  have next : ∀ b,Byt b -> 1 <= b.length -> out.length + b.length <= 200 -> l80 (q80_0 l b ((9 * j + 9 : Nat) : Int) (out ++ b) (metG met last b)) = some (pgGo l f (9 * j + 9) b (metG met last b) (out ++ b)) := fun b b1 b2 b3 => by
   have := L80 l hb hs f (j + 1) b (metG met last b) (out ++ b) (by omega) (hp.step b1 b2 b3)
   rw [show 9 * (j + 1) = 9 * j + 9 by omega] at this
   exact this
  have w9 : wi (((9 * j : Nat) : Int) + 9) = ((9 * j + 9 : Nat) : Int) := by rw [wi_id (by omega) (by omega)]; omega
  have wm : wi (257 + ln met) = 257 + ln met := wi_id (by omega) (by omega)
  generalize numB l (9 * j) 9 = k at *
  dsimp only
  rw [Bool.not_true,cond_false,w9,wm]
  by_cases c2 : k = 256
  ·rw [ceq_yes c2,if_pos c2]
   have w7 : (wi (((9 * j + 9 : Nat) : Int) + 7)).tdiv 8 = (((9 * j + 9 + 7) / 8 : Nat) : Int) := by rw [wi_id (by omega) (by omega),td (by omega)]; omega
   rw [w7,wi_id (by omega) (by omega)]
   by_cases c3 : (9 * j + 9 + 7) / 8 = l.length
   ·rw [cne_no (by omega),D104 l hb (by omega) _ c3 (by omega),Option.bind_some]
    cases endOk l (9 * j + 9) <;> rfl
   ·rw [cne_yes (by omega)]
    have : endOk l (9 * j + 9) = false := decide_eq_false fun x => c3 x.1
    rw [this]; rfl
  rw [ceq_no c2,if_neg c2]
  have w2 : wi (k - 257) = k - 257 := wi_id (by omega) (by omega)
  have mG : ∀ b : List Int,(0 < last.length -> met.length < 255 -> metG met last b = met ++ [last ++ [headP b]]) ∧ (¬ (0 < last.length ∧ met.length < 255) -> metG met last b = met) := fun b => by
   unfold metG
   exact ⟨fun q1 q2 => if_pos ⟨q1,q2⟩,fun q => if_neg q⟩
  by_cases k1 : k < 256
  ·have hg : pgB met last k = some [k] := if_pos k1
   have wb1 : wb k = k := wb_id n0 k1
   rw [cond_yes k1,hg,wi_id (by omega) (by omega),wb1]
   dsimp only
   by_cases k2 : out.length + 1 <= 200
   rotate_left
   ·rw [cond_yes (by omega),if_neg (by rw [List.length_singleton]; omega)]
   have hk2 : out.length + [k].length <= 200 := k2
   rw [cond_no (by omega),if_pos (by omega),if_pos hk2]
   have nx := next [k] (byt_cons.2 ⟨⟨n0,k1⟩,byt_nil⟩) (by simp) (by simp; omega)
   by_cases c4 : 0 < last.length
   ·rw [cond_yes (by omega)]
    by_cases c5 : met.length < 255
    ·rw [cond_yes (by omega),if_pos (by omega),if_pos (by omega),if_pos (by omega)]
     rw [(mG [k]).1 c4 c5] at nx ⊢
     exact nx
    ·rw [cond_no (by omega)]
     rw [(mG [k]).2 (fun x => c5 x.2)] at nx ⊢
     exact nx
   ·rw [cond_no (by omega)]
    rw [(mG [k]).2 (fun x => c4 x.1)] at nx ⊢
    exact nx
  rw [cond_no k1,w2]
  by_cases k2 : k - 257 < met.length
  ·obtain ⟨i,hi⟩ : ∃ i : Nat,k - 257 = i := ⟨(k - 257).toNat,by omega⟩
   have him : i < met.length := by omega
   have hg : pgB met last k = some met[i] := by
    unfold pgB
    rw [if_neg k1,if_pos k2,hi,gt_match him]
   have hm2 := hp.m2 i him
   obtain ⟨h2,a,h3,h4⟩ := hm2
   have hbm := hp.metB him
   have hlmi := lnE met[i]
   rw [cond_yes (by omega),hi,if_pos (by omega),if_pos (by omega),hg,gt_match him,ceq_no (by omega),wi_id (by omega) (by omega)]
   simp only [Int.toNat_natCast,List.getElem?_eq_getElem him]
   by_cases k3 : out.length + met[i].length <= 200
   rotate_left
   ·rw [cond_yes (by omega),if_neg k3]
   rw [cond_no (by omega),if_pos (by omega),if_pos k3]
   have nx := next met[i] hbm (by omega) k3
   by_cases c4 : 0 < last.length
   ·rw [cond_yes (by omega)]
    by_cases c5 : met.length < 255
    ·rw [cond_yes (by omega),if_pos (by omega),if_pos (by omega),if_pos (by omega),if_pos (by omega)]
     rw [(mG met[i]).1 c4 c5] at nx ⊢
     exact nx
    ·rw [cond_no (by omega)]
     rw [(mG met[i]).2 (fun x => c5 x.2)] at nx ⊢
     exact nx
   ·rw [cond_no (by omega)]
    rw [(mG met[i]).2 (fun x => c4 x.1)] at nx ⊢
    exact nx
  rw [cond_no (by omega)]
  by_cases k3 : k - 257 = met.length
  rotate_left
  ·have hg : pgB met last k = none := by
    unfold pgB
    rw [if_neg k1,if_neg k2,if_neg (fun x => k3 x.1)]
   rw [ceq_no (by omega),hg]
  rw [ceq_yes (by omega)]
  by_cases c4 : 0 < last.length
  rotate_left
  ·have hg : pgB met last k = none := by
    unfold pgB
    rw [if_neg k1,if_neg k2,if_neg (fun x => c4 x.2.1)]
   rw [cond_no (by omega),hg]
  have c5 : met.length < 255 := by omega
  have hg : pgB met last k = some (last ++ [headP last]) := by
   unfold pgB
   rw [if_neg k1,if_neg k2,if_pos ⟨k3,c4,c5⟩]
  have hlen : (last.append [last.getD 0 0]).length = last.length + 1 := by show (last ++ [_]).length = _; simp
  have hlnn := lnE (last.append [last.getD 0 0])
  rw [cond_yes (by omega),cond_yes (by omega),if_pos (by omega),if_pos (by omega),if_pos (by omega),ceq_no (by omega),wi_id (by omega) (by omega),hg]
  dsimp only
  have hlen2 : (last ++ [headP last]).length = last.length + 1 := by simp
  by_cases k4 : out.length + (last.length + 1) <= 200
  rotate_left
  ·rw [cond_yes (by omega),if_neg (by omega)]
  have nx := next (last ++ [headP last]) (byt_app.2 ⟨hp.lastB,byt_cons.2 ⟨headP_byt hp.lastB,byt_nil⟩⟩) (by simp) (by omega)
  rw [cond_no (by omega),if_pos (by omega),cond_yes (by omega),cond_yes (by omega),if_pos (by omega),if_pos (by omega),if_pos (by omega),if_pos (by omega),if_pos (by omega)]
  rw [(mG (last ++ [headP last])).1 c4 c5] at nx ⊢
  exact nx
theorem D80 (l : List Int) (hb : Byt l) (hs : l.length <= 300) : r80 dd l = some (pakGP l) := by
 refine dL rfl ((b80 dd l80 ..).trans ?_)
 exact L80 l hb hs (l.length + 1) 0 [] [] [] (by omega) PG.nil
end T
end
section
namespace T
open Go Go.E Go.Proofs
def flipR (r : Ras) : Ras := (r.1,r.2.1,genL (r.2.1.toNat * r.1.toNat) (flipG r.1.toNat r.2.1.toNat r.2.2))
theorem flipR_eq {r : Ras} {W H : Nat} (hn : RasN r W H) : flipR r = ((W : Int),(H : Int),genL (H * W) (flipG W H r.2.2)) := by
 unfold flipR
 rw [hn.w,hn.h,Int.toNat_natCast,Int.toNat_natCast]
theorem flipR_N {r : Ras} {W H : Nat} (hn : RasN r W H) : RasN (flipR r) W H := by rw [flipR_eq hn]; exact flip_N hn
def bodyP (k : Int) (r : Ras) : List Int := if k = 68 then rasB r else if k = 85 then rasB (flipR r) else if k = 82 then runsB r else pakP (rasB r)
theorem bodyP_byt (k : Int) {r : Ras} {W H : Nat} (hn : RasN r W H) : Byt (bodyP k r) ∧ (bodyP k r).length <= 230 := by
 unfold bodyP
 split
 ·have := rasB_byt hn; exact ⟨this.1,by omega⟩
 split
 ·have := rasB_byt (flipR_N hn); exact ⟨this.1,by omega⟩
 split
 ·have := runsB_byt hn; exact ⟨this.1,by omega⟩
 ·exact pakP_byt (rasB_byt hn).1
def fileP (k : Int) (note : List Int) (r : Ras) : List Int := k :: (note.length : Int) :: (note ++ bodyP k r ++ sum4 (sumP (bodyP k r)))
instance (k : Int) : Decidable (kindOk k) := inferInstanceAs (Decidable (k = 68 ∨ k = 85 ∨ k = 82 ∨ k = 80))
def writeP (k : Int) (note : List Int) (r : Ras) : List Int := if kindOk k ∧ note.length <= 9 ∧ rasOk r = true then fileP k note r else []
theorem sum4_byt {n : Int} (h : 0 <= n ∧ n < 4294967296) : Byt (sum4 n) := by
 unfold sum4
 exact byt_cons.2 ⟨by omega,byt_cons.2 ⟨by omega,byt_cons.2 ⟨by omega,byt_cons.2 ⟨by omega,byt_nil⟩⟩⟩⟩
theorem fileP_byt {k : Int} (hk : kindOk k) {note : List Int} (hb : Byt note) (hl : note.length <= 9) {r : Ras} {W H : Nat} (hn : RasN r W H) : Byt (fileP k note r) ∧ (fileP k note r).length <= 250 := by
 obtain ⟨b1,b2⟩ := bodyP_byt k hn
 refine ⟨byt_cons.2 ⟨by rcases hk with q | q | q | q <;> omega,byt_cons.2 ⟨by omega,byt_app.2 ⟨byt_app.2 ⟨hb,b1⟩,sum4_byt (sumP_le b1)⟩⟩⟩,?_⟩
 unfold fileP sum4
 simp
 omega
theorem D45 (k : Int) : r45 dd k = some (decide (kindOk k)) := by
 refine dL rfl ((b45 dd l45 ..).trans ?_); show (_ : Option Bool) = some _
 by_cases h1 : k = 68
 ·rw [ceq_yes h1,decide_eq_true (.inl h1)]
 rw [ceq_no h1]
 by_cases h2 : k = 85
 ·rw [ceq_yes h2,decide_eq_true (.inr (.inl h2))]
 rw [ceq_no h2]
 by_cases h3 : k = 82
 ·rw [ceq_yes h3,decide_eq_true (.inr (.inr (.inl h3)))]
 rw [ceq_no h3]
 by_cases h4 : k = 80
 ·rw [decide_eq_true (.inr (.inr (.inr h4))),beq_iff_eq.2 h4]
 ·rw [decide_eq_false (fun h => h.elim h1 fun h => h.elim h2 fun h => h.elim h3 h4),beq_eq_false_iff_ne.2 h4]
theorem D88 (k : Int) {r : Ras} {W H : Nat} (hn : RasN r W H) : r88 dd (k,r) = some (bodyP k r) := by
 have h9 := D109 hn
 have hf := D78 hn
 have hf9 := D109 (flip_N hn)
 have hr := D110 hn
 have hp := D111 (rasB r) (rasB_byt hn).1
 have hfl := flipR_eq hn
 obtain ⟨w,h,l⟩ := r
 refine dL rfl ((b88 dd l88 ..).trans ?_); unfold bodyP
 by_cases h1 : k = 68
 ·rw [ceq_yes h1,if_pos h1,h9]; rfl
 rw [ceq_no h1,if_neg h1]
 by_cases h2 : k = 85
 ·rw [ceq_yes h2,if_pos h2,hf,Option.bind_some,hf9,hfl]; rfl
 rw [ceq_no h2,if_neg h2]
 by_cases h3 : k = 82
 ·rw [ceq_yes h3,if_pos h3,hr]; rfl
 rw [ceq_no h3,if_neg h3,h9,Option.bind_some,hp]; rfl
theorem D51 {k : Int} {note : List Int} (hl : note.length <= 9) {r : Ras} {W H : Nat} (hn : RasN r W H) : r51 dd (k,note,r) = some (fileP k note r) := by
 obtain ⟨b1,b2⟩ := bodyP_byt k hn
 have hln := lnE note
 have h8 := D88 k hn
 obtain ⟨w,h,l⟩ := r
 refine dL rfl ((b51 dd l51 ..).trans ?_)
 rw [h8,Option.bind_some,wb_id (by omega) (by omega),if_pos (by omega),if_pos (by simp; omega),D47 _ (by show (bodyP k (w,h,l)).length < _; omega) b1,Option.bind_some,if_pos (by simp [sum4]; omega)]
 unfold fileP
 rw [hln]
 rfl
def putP (r : Ras) : List Int := if rasOk r = true then fileP 80 [] r else []
theorem D28 (r : Ras) (hr : Sh r.2.2) : r28 dd r = some (putP r) := by
 have ho := D48 r hr
 have h5 : ∀ W H,RasN r W H -> r51 dd (80,[],r) = some (fileP 80 [] r) := fun W H hn => D51 (by simp) hn
 unfold putP
 obtain ⟨w,h,l⟩ := r
 refine dL rfl ((b28 dd l28 ..).trans ?_)
 rw [ho,Option.bind_some]
 cases c3 : rasOk (w,h,l) with
 | false => rfl
 | true =>
  obtain ⟨W,H,hn⟩ := ras_iff.1 c3
  rw [Bool.not_true,cond_false,h5 W H hn]; rfl
theorem D132 {r : Ras} {W H : Nat} (hn : RasN r W H) : r132 dd ((),r) = some (bodyP 68 r) := by
 have h1 := D134 hn
 obtain ⟨w,h,l⟩ := r
 refine dL rfl ((b132 dd l132 ..).trans ?_)
 rw [h1]; rfl
theorem D139 {r : Ras} {W H : Nat} (hn : RasN r W H) : r139 dd ((),r) = some (bodyP 85 r) := by
 have h1 := D140 hn
 have h2 := D134 (flip_N hn)
 have h3 := flipR_eq hn
 obtain ⟨w,h,l⟩ := r
 refine dL rfl ((b139 dd l139 ..).trans ?_)
 rw [h1,Option.bind_some,h2, <- h3]; rfl
theorem D143' {r : Ras} {W H : Nat} (hn : RasN r W H) : r143 dd ((),r) = some (bodyP 82 r) := D143 hn
theorem D145 {r : Ras} {W H : Nat} (hn : RasN r W H) : r145 dd ((),r) = some (bodyP 80 r) := by
 have h1 := D134 hn
 have h2 := D147 (rasB r) (rasB_byt hn).1
 obtain ⟨w,h,l⟩ := r
 refine dL rfl ((b145 dd l145 ..).trans ?_)
 rw [h1,Option.bind_some,h2]; rfl
theorem wr_rest {k : Int} {note : List Int} (hl : note.length <= 9) {r : Ras} {W H : Nat} (hn : RasN r W H) {wr : Option (List Int)} (hw : wr = some (bodyP k r)) :
  (wr.bind fun (r_1 : List Int) => (r40 dd r_1).bind fun (r_2 : Int × Int × Int × Int) => if 0 <= wi (wi (wi (2 + ln note) + ln r_1) + 4) then if wi (wi (wi (2 + ln note) + ln r_1) + 4) * ((1 : Nat) : Int) <= 140737488355328 then if (2 + note.length) * 1 <= 140737488355328 then if ((k :: wb (ln note) :: note).length + r_1.length) * 1 <= 140737488355328 then if ((k :: wb (ln note) :: note.append r_1).length + 4) * 1 <= 140737488355328 then some (k :: wb (ln note) :: (note.append r_1).append [r_2.fst,r_2.snd.fst,r_2.snd.snd.fst,r_2.snd.snd.snd]) else none else none else none else none else none) = some (fileP k note r) := by
 obtain ⟨b1,b2⟩ := bodyP_byt k hn
 have hln := lnE note
 have hlb := lnE (bodyP k r)
 rw [hw,Option.bind_some,D40 _ (by show (bodyP k r).length < _; omega) b1,Option.bind_some,wi_id (x := 2 + ln note) (by omega) (by omega),wi_id (x := 2 + ln note + ln (bodyP k r)) (by omega) (by omega),wi_id (by omega) (by omega),if_pos (by omega),if_pos (by omega),if_pos (by omega),if_pos (by simp; omega),if_pos (by simp; omega),wb_id (by omega) (by omega)]
 unfold fileP sum4
 rw [hln]
 rfl
theorem D22 (k : Int) (note : List Int) (hs : note.length <= 100000) (r : Ras) (hr : Sh r.2.2) : r22 dd (k,note,r) = some (writeP k note r) := by
 have ho := D39 r hr
 have hln := lnE note
 have w1 : ∀ W H,RasN r W H -> r132 dd ((),r) = some (bodyP 68 r) := fun W H hn => D132 hn
 have w2 : ∀ W H,RasN r W H -> r139 dd ((),r) = some (bodyP 85 r) := fun W H hn => D139 hn
 have w3 : ∀ W H,RasN r W H -> r143 dd ((),r) = some (bodyP 82 r) := fun W H hn => D143' hn
 have w4 : ∀ W H,RasN r W H -> r145 dd ((),r) = some (bodyP 80 r) := fun W H hn => D145 hn
 unfold writeP
 obtain ⟨w,h,l⟩ := r
 refine dL rfl ((b22 dd l22 ..).trans ?_); show (_ : Option (List Int)) = some _
 by_cases h1 : k = 68
 ·subst h1
  rw [ceq_yes rfl]
  by_cases c2 : note.length <= 9
  rotate_left
  ·rw [cond_yes (by omega),if_neg (fun x => c2 x.2.1)]
  rw [cond_no (by omega),ho,Option.bind_some]
  cases c3 : rasOk (w,h,l) with
  | false => rw [if_neg (fun x => by simp at x)]; rfl
  | true =>
   obtain ⟨W,H,hn⟩ := ras_iff.1 c3
   rw [if_pos ⟨.inl rfl,c2,rfl⟩]
   exact wr_rest c2 hn (w1 W H hn)
 rw [ceq_no h1]
 by_cases h2 : k = 85
 ·subst h2
  rw [ceq_yes rfl]
  by_cases c2 : note.length <= 9
  rotate_left
  ·rw [cond_yes (by omega),if_neg (fun x => c2 x.2.1)]
  rw [cond_no (by omega),ho,Option.bind_some]
  cases c3 : rasOk (w,h,l) with
  | false => rw [if_neg (fun x => by simp at x)]; rfl
  | true =>
   obtain ⟨W,H,hn⟩ := ras_iff.1 c3
   rw [if_pos ⟨.inr (.inl rfl),c2,rfl⟩]
   exact wr_rest c2 hn (w2 W H hn)
 rw [ceq_no h2]
 by_cases h3 : k = 82
 ·subst h3
  rw [ceq_yes rfl]
  by_cases c2 : note.length <= 9
  rotate_left
  ·rw [cond_yes (by omega),if_neg (fun x => c2 x.2.1)]
  rw [cond_no (by omega),ho,Option.bind_some]
  cases c3 : rasOk (w,h,l) with
  | false => rw [if_neg (fun x => by simp at x)]; rfl
  | true =>
   obtain ⟨W,H,hn⟩ := ras_iff.1 c3
   rw [if_pos ⟨.inr (.inr (.inl rfl)),c2,rfl⟩]
   exact wr_rest c2 hn (w3 W H hn)
 rw [ceq_no h3]
 by_cases h4 : k = 80
 ·subst h4
  rw [ceq_yes rfl]
  by_cases c2 : note.length <= 9
  rotate_left
  ·rw [cond_yes (by omega),if_neg (fun x => c2 x.2.1)]
  rw [cond_no (by omega),ho,Option.bind_some]
  cases c3 : rasOk (w,h,l) with
  | false => rw [if_neg (fun x => by simp at x)]; rfl
  | true =>
   obtain ⟨W,H,hn⟩ := ras_iff.1 c3
   rw [if_pos ⟨.inr (.inr (.inr rfl)),c2,rfl⟩]
   exact wr_rest c2 hn (w4 W H hn)
 rw [ceq_no h4,if_neg (fun x => x.1.elim h1 fun h => h.elim h2 fun h => h.elim h3 h4)]
theorem D24 (r : Ras) (hr : Sh r.2.2) : r24 dd r = some (putP r) := by
 have h1 := D22 80 [] (by simp) r hr
 have e : writeP 80 [] r = putP r := by
  unfold writeP putP
  by_cases c : rasOk r = true
  ·rw [if_pos ⟨.inr (.inr (.inr rfl)),by simp,c⟩,if_pos c]
  ·rw [if_neg (fun x => c x.2.2),if_neg c]
 obtain ⟨w,h,l⟩ := r
 refine dL rfl ((b24 dd l24 ..).trans ?_)
 rw [h1,e]; rfl
end T
end
section
namespace T
open Go Go.E Go.Proofs
def badR : Ras := (0,0,[])
def readP (k : Int) (b : List Int) : Ras × Bool :=
 if k = 68 then rasRd b
 else if k = 85 then (if (rasRd b).2 = true then (flipR (rasRd b).1,true) else (badR,false))
 else if k = 82 then runRd b
 else if (pakGP b).2 = true then rasRd (pakGP b).1 else (badR,false)
theorem rasRd_N' {a : List Int} (hb : Byt a) (h : (rasRd a).2 = true) : ∃ W H,RasN (rasRd a).1 W H := by
 refine rasRd_N hb ?_
 unfold rasRd at h
 cases c : rdOk a with
 | true => rfl
 | false => rw [c] at h; cases h
theorem pakGP_byt (l : List Int) : Byt (pakGP l).1 ∧ (pakGP l).1.length <= 200 := pgGo_byt l _ _ _ _ _ PG.nil
theorem readP_N {k : Int} {b : List Int} (hb : Byt b) (h : (readP k b).2 = true) : ∃ W H,RasN (readP k b).1 W H := by
 unfold readP at h ⊢
 split
 ·rename_i c; rw [if_pos c] at h; exact rasRd_N' hb h
 rename_i c; rw [if_neg c] at h
 split
 ·rename_i c2; rw [if_pos c2] at h
  split
  ·rename_i c3
   obtain ⟨W,H,hn⟩ := rasRd_N' hb c3
   exact ⟨W,H,flipR_N hn⟩
  ·rename_i c3; rw [if_neg c3] at h; cases h
 rename_i c2; rw [if_neg c2] at h
 split
 ·rename_i c3; rw [if_pos c3] at h; exact runRd_N hb h
 rename_i c3; rw [if_neg c3] at h
 split
 ·rename_i c4; rw [if_pos c4] at h; exact rasRd_N' (pakGP_byt b).1 h
 ·rename_i c4; rw [if_neg c4] at h; cases h
theorem D46 (k : Int) (b : List Int) (hb : Byt b) (hs : b.length <= 300) : ∃ out,r46 dd (k,b) = some out ∧ Alike2 out (readP k b) := by
 have h77 := D77 b hb (by omega)
 unfold readP
 by_cases h1 : k = 68
 ·refine ⟨rasRd b,?_,by rw [if_pos h1]; exact alike2_refl _⟩
  refine dL rfl ((b46 dd l46 ..).trans ?_)
  rw [ceq_yes h1,h77]; rfl
 rw [if_neg h1]
 by_cases h2 : k = 85
 ·rw [if_pos h2]
  cases c : (rasRd b).2 with
  | false =>
   refine ⟨(badR,false),?_,alike2_refl _⟩
   refine dL rfl ((b46 dd l46 ..).trans ?_)
   rw [ceq_no h1,ceq_yes h2,h77,Option.bind_some,c]; rfl
  | true =>
   obtain ⟨W,H,hn⟩ := rasRd_N' hb c
   refine ⟨(flipR (rasRd b).1,true),?_,alike2_refl _⟩
   have hf := D78 hn
   rw [<- flipR_eq hn] at hf
   refine dL rfl ((b46 dd l46 ..).trans ?_)
   rw [ceq_no h1,ceq_yes h2,h77,Option.bind_some,c,Bool.not_true,cond_false,hf]; rfl
 rw [if_neg h2]
 by_cases h3 : k = 82
 ·rw [if_pos h3]
  obtain ⟨out,o1,o2⟩ := D79 b hb (by omega)
  refine ⟨out,?_,o2⟩
  refine dL rfl ((b46 dd l46 ..).trans ?_)
  rw [ceq_no h1,ceq_no h2,ceq_yes h3,o1]; rfl
 rw [if_neg h3]
 have h80 := D80 b hb hs
 cases c : (pakGP b).2 with
 | false =>
  refine ⟨(badR,false),?_,alike2_refl _⟩
  refine dL rfl ((b46 dd l46 ..).trans ?_)
  rw [ceq_no h1,ceq_no h2,ceq_no h3,h80,Option.bind_some,c]; rfl
 | true =>
  have hp := pakGP_byt b
  refine ⟨rasRd (pakGP b).1,?_,alike2_refl _⟩
  refine dL rfl ((b46 dd l46 ..).trans ?_)
  rw [ceq_no h1,ceq_no h2,ceq_no h3,h80,Option.bind_some,c,Bool.not_true,cond_false,D77 _ hp.1 (by omega)]; rfl
theorem D131 (b : List Int) (hb : Byt b) (hs : b.length <= 300) : r131 dd ((),b) = some (readP 68 b) := by
 refine dL rfl ((b131 dd l131 ..).trans ?_)
 rw [D133 b hb (by omega)]; rfl
theorem D138 (b : List Int) (hb : Byt b) (hs : b.length <= 300) : r138 dd ((),b) = some (readP 85 b) := by
 refine dL rfl ((b138 dd l138 ..).trans ?_)
 show _ = some (if (rasRd b).2 = true then (flipR (rasRd b).1,true) else (badR,false))
 rw [D133 b hb (by omega),Option.bind_some]
 cases c : (rasRd b).2 with
 | false => rfl
 | true =>
  obtain ⟨W,H,hn⟩ := rasRd_N' hb c
  have hf := D140 hn
  rw [<- flipR_eq hn] at hf
  rw [Bool.not_true,cond_false,hf]; rfl
theorem D142' (b : List Int) (hb : Byt b) (hs : b.length <= 300) : r142 dd ((),b) = some (readP 82 b) := D142 b hb (by omega)
theorem D144 (b : List Int) (hb : Byt b) (hs : b.length <= 300) : r144 dd ((),b) = some (readP 80 b) := by
 have hp := pakGP_byt b
 refine dL rfl ((b144 dd l144 ..).trans ?_)
 show _ = some (if (pakGP b).2 = true then rasRd (pakGP b).1 else (badR,false))
 rw [D146 b hb hs,Option.bind_some]
 cases c : (pakGP b).2 with
 | false => rfl
 | true => rw [Bool.not_true,cond_false,D133 _ hp.1 (by omega)]; rfl
def midP (a : List Int) : List Int := (a.take (a.length - 4)).drop (2 + (a.getD 1 0).toNat)
def getOk (a : List Int) : Bool := decide (2 <= a.length ∧ a.getD 1 0 <= 9 ∧ 6 + (a.getD 1 0).toNat <= a.length) && (decide (sum4 (sumP (midP a)) = a.drop (a.length - 4)) && (readP (a.getD 0 0) (midP a)).2)
def getP (a : List Int) : Ras × Int := if a = [] then (badR,2) else if ¬ kindOk (a.getD 0 0) then (badR,2) else if getOk a = true then ((readP (a.getD 0 0) (midP a)).1,1) else (badR,3)
theorem D26 (a : List Int) (hb : Byt a) (hs : a.length <= 300) : r26 dd a = some (getP a) := by
 have hln := lnE a
 have b0 := byt_getD hb 0
 have b1 := byt_getD hb 1
 refine dL rfl ((b26 dd l26 ..).trans ?_); unfold getP
 by_cases c0 : a = []
 ·rw [if_pos c0,ceq_yes (by rw [c0]; rfl)]; rfl
 have hpos := List.length_pos_iff.2 c0
 rw [if_neg c0,ceq_no (by omega),if_pos (by omega),D45,Option.bind_some]
 by_cases c1 : kindOk (a.getD 0 0)
 rotate_left
 ·rw [decide_eq_false c1,if_pos c1]; rfl
 have hk : ¬ ¬ kindOk (a.getD 0 0) := fun h => h c1
 rw [decide_eq_true c1,if_neg hk,Bool.not_true,cond_false]
 have no : ¬ (2 <= a.length ∧ a.getD 1 0 <= 9 ∧ 6 + (a.getD 1 0).toNat <= a.length) -> getOk a = false := fun h => by unfold getOk; rw [decide_eq_false h]; rfl
 by_cases c2 : 2 <= a.length
 rotate_left
 ·rw [cond_yes (by omega),no (fun h => c2 h.1)]; rfl
 rw [cond_no (by omega),if_pos (by omega),wi_b b1]
 by_cases c3 : a.getD 1 0 <= 9
 rotate_left
 ·rw [cond_yes (by omega),no (fun h => c3 h.2.1)]; rfl
 rw [cond_no (by omega),if_pos (by omega),wi_id (x := 6 + a.getD 1 0) (by omega) (by omega)]
 by_cases c4 : 6 + (a.getD 1 0).toNat <= a.length
 rotate_left
 ·rw [cond_yes (by omega),no (fun h => c4 h.2.2)]; rfl
 have w1 : wi (2 + a.getD 1 0) = ((2 + (a.getD 1 0).toNat : Nat) : Int) := by rw [wi_id (by omega) (by omega)]; omega
 have w2 : wi (ln a - 4) = ((a.length - 4 : Nat) : Int) := by rw [wi_id (by omega) (by omega)]; omega
 rw [cond_no (by omega),if_pos (by omega),w1,w2,if_pos (by omega),if_pos (by omega),if_pos (by omega),if_pos (by omega),Int.toNat_natCast,Int.toNat_natCast]
 have hmb : Byt (midP a) := byt_drop (byt_take hb _) _
 have hml : (midP a).length <= 300 := by unfold midP; simp; omega
 obtain ⟨out,o1,o2⟩ := D46 (a.getD 0 0) (midP a) hmb hml
 show (r46 dd (a.getD 0 0,midP a)).bind _ = _
 rw [o1,Option.bind_some,same_eq (fun y hy => by
  simp only [List.mem_cons,List.not_mem_nil,or_false] at hy
  rcases hy with h | h <;> exact h)]
 have hg : getOk a = (decide (sum4 (sumP (midP a)) = a.drop (a.length - 4)) && (readP (a.getD 0 0) (midP a)).2) := by
  unfold getOk; rw [decide_eq_true ⟨c2,c3,c4⟩,Bool.true_and]
 rw [hg]
 cases c5 : (readP (a.getD 0 0) (midP a)).2 with
 | false =>
  rw [o2.1,c5,Bool.and_false]; rfl
 | true =>
  have hout := o2.2 c5
  subst hout
  rw [c5,Bool.not_true,cond_false,if_pos (by omega),if_pos (by omega)]
  show (r47 dd (midP a)).bind _ = _
  rw [D47 _ (by show (midP a).length < _; omega) hmb,Option.bind_some,ns_eq (sum4_byt (sumP_le hmb)) (byt_drop hb _),Bool.and_true]
  by_cases c6 : sum4 (sumP (midP a)) = a.drop (a.length - 4)
  rotate_left
  ·rw [decide_eq_false c6]; rfl
  obtain ⟨W,H,hn⟩ := readP_N hmb c5
  have hm := mul36 hn.h6 hn.w6
  have hl := hn.len
  rw [decide_eq_true c6,Bool.not_true,cond_false,D48 _ (by show (readP (a.getD 0 0) (midP a)).1.2.2.length < _; omega),Option.bind_some,ras_iff.2 ⟨W,H,hn⟩]; rfl
theorem four_eq {x : List Int} (h : x.length = 4) {n : Int} : (n / 16777216 == x.getD 0 0 && (n / 65536 % 256 == x.getD 1 0 && (n / 256 % 256 == x.getD 2 0 && (n % 256 == x.getD 3 0 && true)))) = decide (sum4 n = x) := by
 match x,h with
 | [a,b,c,d],_ =>
  unfold sum4
  show (n / 16777216 == a && (n / 65536 % 256 == b && (n / 256 % 256 == c && (n % 256 == d && true)))) = _
  by_cases q : [n / 16777216,n / 65536 % 256,n / 256 % 256,n % 256] = [a,b,c,d]
  ·rw [decide_eq_true q]
   simp only [List.cons.injEq,and_true] at q
   obtain ⟨q1,q2,q3,q4⟩ := q
   rw [q1,q2,q3,q4]; simp
  ·rw [decide_eq_false q]
   cases h1 : (n / 16777216 == a && (n / 65536 % 256 == b && (n / 256 % 256 == c && (n % 256 == d && true)))) with
   | false => rfl
   | true =>
    simp only [Bool.and_eq_true,beq_iff_eq] at h1
    obtain ⟨q1,q2,q3,q4,_⟩ := h1
    exact absurd (by rw [q1,q2,q3,q4]) q
theorem get_rest (a : List Int) (hb : Byt a) (hs : a.length <= 300) (c0 : 0 < a.length) (c1 : kindOk (a.getD 0 0)) (rd : List Int -> Option (Ras × Bool)) (hrd : ∀ b,Byt b -> b.length <= 300 -> rd b = some (readP (a.getD 0 0) b)) :
  (bif decide (ln a < 2) then some ((0,0,[]),3) else if 1 < ln a then bif decide (wi (a.getD 1 0) > 9) then some ((0,0,[]),3) else if 1 < ln a then bif decide (wi (ln a - 4) < wi (2 + wi (a.getD 1 0))) then some ((0,0,[]),3) else if 0 <= wi (2 + wi (a.getD 1 0)) then if wi (2 + wi (a.getD 1 0)) <= wi (ln a - 4) then if wi (ln a - 4) <= ln a then if 0 <= wi (ln a - 4) then if wi (ln a - 4) <= ln a then if 4 <= (List.drop (wi (ln a - 4)).toNat a).length then if 4 <= (List.drop (wi (ln a - 4)).toNat a).length then (r40 dd (List.drop (wi (2 + wi (a.getD 1 0))).toNat (List.take (wi (ln a - 4)).toNat a))).bind fun (r : Int × Int × Int × Int) => bif !(r.fst == (List.drop (wi (ln a - 4)).toNat a).getD 0 0 && (r.snd.fst == (List.drop (wi (ln a - 4)).toNat a).getD 1 0 && (r.snd.snd.fst == (List.drop (wi (ln a - 4)).toNat a).getD 2 0 && (r.snd.snd.snd == (List.drop (wi (ln a - 4)).toNat a).getD 3 0 && true)))) then some ((0,0,[]),3) else (rd (List.drop (wi (2 + wi (a.getD 1 0))).toNat (List.take (wi (ln a - 4)).toNat a))).bind fun (r : Ras × Bool) => bif !r.snd then some ((0,0,[]),3) else some (r.fst,1) else none else none else none else none else none else none else none else none else none) = some (getP a) := by
 have hln := lnE a
 have b1 := byt_getD hb 1
 have ne : a ≠ [] := fun x => by rw [x] at c0; simp at c0
 unfold getP
 have hk : ¬ ¬ kindOk (a.getD 0 0) := fun h => h c1
 rw [if_neg ne,if_neg hk]
 have no : ¬ (2 <= a.length ∧ a.getD 1 0 <= 9 ∧ 6 + (a.getD 1 0).toNat <= a.length) -> getOk a = false := fun h => by unfold getOk; rw [decide_eq_false h]; rfl
 by_cases c2 : 2 <= a.length
 rotate_left
 ·rw [cond_yes (by omega),no (fun h => c2 h.1)]; rfl
 rw [cond_no (by omega),if_pos (by omega),wi_b b1]
 by_cases c3 : a.getD 1 0 <= 9
 rotate_left
 ·rw [cond_yes (by omega),no (fun h => c3 h.2.1)]; rfl
 have w1 : wi (2 + a.getD 1 0) = ((2 + (a.getD 1 0).toNat : Nat) : Int) := by rw [wi_id (by omega) (by omega)]; omega
 rw [cond_no (by omega),if_pos (by omega),w1]
 by_cases c4 : 6 + (a.getD 1 0).toNat <= a.length
 rotate_left
 ·have w2 : wi (ln a - 4) = ln a - 4 := wi_id (by omega) (by omega)
  rw [w2,cond_yes (by omega),no (fun h => c4 h.2.2)]; rfl
 have w2 : wi (ln a - 4) = ((a.length - 4 : Nat) : Int) := by rw [wi_id (by omega) (by omega)]; omega
 have hdl : (a.drop (a.length - 4)).length = 4 := by simp; omega
 have hmb : Byt (midP a) := byt_drop (byt_take hb _) _
 have hml : (midP a).length <= 300 := by unfold midP; simp; omega
 rw [w2,cond_no (by omega),if_pos (by omega),if_pos (by omega),if_pos (by omega),if_pos (by omega),if_pos (by omega),Int.toNat_natCast,Int.toNat_natCast,if_pos (by omega),if_pos (by omega)]
 show (r40 dd (midP a)).bind (fun r => bif !(_ && _) then _ else (rd (midP a)).bind _) = _
 rw [D40 _ (by show (midP a).length < _; omega) hmb,Option.bind_some,hrd _ hmb hml,four_eq hdl]
 have hg : getOk a = (decide (sum4 (sumP (midP a)) = a.drop (a.length - 4)) && (readP (a.getD 0 0) (midP a)).2) := by
  unfold getOk; rw [decide_eq_true ⟨c2,c3,c4⟩,Bool.true_and]
 rw [hg]
 cases decide (sum4 (sumP (midP a)) = a.drop (a.length - 4)) with
 | false => rfl
 | true =>
  rw [Bool.not_true,cond_false,Option.bind_some,Bool.true_and]
  cases (readP (a.getD 0 0) (midP a)).2 <;> rfl
theorem D20 (a : List Int) (hb : Byt a) (hs : a.length <= 300) : r20 dd a = some (getP a) := by
 have hln := lnE a
 refine dL rfl ((b20 dd l20 ..).trans ?_)
 by_cases c0 : a = []
 ·rw [ceq_yes (by rw [c0]; rfl)]
  unfold getP; rw [if_pos c0]; rfl
 have hpos := List.length_pos_iff.2 c0
 rw [ceq_no (by omega),if_pos (by omega)]
 by_cases h1 : a.getD 0 0 = 68
 ·rw [ceq_yes h1]
  exact get_rest a hb hs hpos (.inl h1) (fun b => r131 dd ((),b)) fun b q1 q2 => by rw [h1]; exact D131 b q1 q2
 rw [ceq_no h1]
 by_cases h2 : a.getD 0 0 = 85
 ·rw [ceq_yes h2]
  exact get_rest a hb hs hpos (.inr (.inl h2)) (fun b => r138 dd ((),b)) fun b q1 q2 => by rw [h2]; exact D138 b q1 q2
 rw [ceq_no h2]
 by_cases h3 : a.getD 0 0 = 82
 ·rw [ceq_yes h3]
  exact get_rest a hb hs hpos (.inr (.inr (.inl h3))) (fun b => r142 dd ((),b)) fun b q1 q2 => by rw [h3]; exact D142' b q1 q2
 rw [ceq_no h3]
 by_cases h4 : a.getD 0 0 = 80
 ·rw [ceq_yes h4]
  exact get_rest a hb hs hpos (.inr (.inr (.inr h4))) (fun b => r144 dd ((),b)) fun b q1 q2 => by rw [h4]; exact D144 b q1 q2
 rw [ceq_no h4]
 unfold getP
 rw [if_neg c0,if_pos (fun x => x.elim h1 fun h => h.elim h2 fun h => h.elim h3 h4)]; rfl
theorem getP_N {a : List Int} (hb : Byt a) (h : (getP a).2 = 1) : ∃ W H,RasN (getP a).1 W H := by
 unfold getP at h ⊢
 split
 ·rename_i c; rw [if_pos c] at h; cases h
 rename_i c; rw [if_neg c] at h
 split
 ·rename_i c2; rw [if_pos c2] at h; cases h
 rename_i c2; rw [if_neg c2] at h
 split
 ·rename_i c3
  unfold getOk at c3
  rw [Bool.and_eq_true,Bool.and_eq_true] at c3
  exact readP_N (byt_drop (byt_take hb _) _) c3.2.2
 ·rename_i c3; rw [if_neg c3] at h; cases h
theorem getP_cases (a : List Int) : ((getP a).2 = 1) ∨ (getP a).2 = 2 ∨ (getP a).2 = 3 := by
 unfold getP
 split
 ·exact .inr (.inl rfl)
 split
 ·exact .inr (.inl rfl)
 split
 ·exact .inl rfl
 ·exact .inr (.inr rfl)
end T
end
