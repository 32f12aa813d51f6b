/- Plain laws: pictures turned; the laws. -/
import Derived.Test.YtmceeioelenigaaGreatGb
section
namespace T
open Go Go.E Go.Proofs
abbrev at' (l : List Pix) (W x y : Nat) : Pix := gt l ((y * W + x : Nat) : Int) z4
def mk (W : Nat) (f : Nat -> Nat -> Pix) (i : Nat) : Pix := f (i % W) (i / W)
theorem mk_at {W x y : Nat} {f : Nat -> Nat -> Pix} (hx : x < W) : mk W f (y * W + x) = f x y := by
 obtain ⟨d1,d2⟩ := divmod (y := y) hx
 unfold mk; rw [d1,d2]
theorem fill_all {W H : Nat} (g : Nat -> Pix) (A : Nat -> List Pix -> Prop) (B : Nat -> Nat -> List Pix -> Prop)
  (hA : ∀ y l,y < H -> l.length = H * W -> B y 0 l -> A y l)
  (hB : ∀ y x l,y < H -> x < W -> l.length = H * W -> B y (x + 1) (l.set (y * W + x) (g (y * W + x))) -> B y x l)
  (hE : ∀ y l,y < H -> A (y + 1) l -> B y W l)
  (h : A H (genL (H * W) g)) : A 0 (List.replicate (H * W) z4) := by
 have row : ∀ y,y < H -> A (y + 1) (fillL (H * W) ((y + 1) * W) g) -> ∀ k x,x + k = W -> B y x (fillL (H * W) (y * W + x) g) := by
  intro y hy ha k
  have hm : y * W + W <= H * W := by rw [<- succ_mul']; exact Nat.mul_le_mul_right W hy
  induction k with
  | zero =>
   intro x hx; have : x = W := by omega
   subst this; exact hE y _ hy (by rw [<- succ_mul']; exact ha)
  | succ k ih => intro x hx; exact hB y x _ hy (by omega) (fillL_len (by omega)) (by rw [fill_set (by omega)]; exact ih (x + 1) (by omega))
 have all : ∀ k y,y + k = H -> A y (fillL (H * W) (y * W) g) := by
  intro k
  induction k with
  | zero =>
   intro y hy; have : y = H := by omega
   subst this; rw [fill_N]; exact h
  | succ k ih =>
   intro y hy
   have hm : y * W + W <= H * W := by rw [<- succ_mul']; exact Nat.mul_le_mul_right W (by omega)
   exact hA y _ (by omega) (fillL_len (by omega)) (row y (by omega) (ih (y + 1) (by omega)) W 0 (by omega))
 have := all H 0 (by omega)
 rwa [Nat.zero_mul,fill_0] at this
theorem app_all {W H : Nat} (g : Nat -> Pix) (A : Nat -> List Pix -> Prop) (B : Nat -> Nat -> List Pix -> Prop)
  (hA : ∀ y l,y < H -> l.length = y * W -> B y 0 l -> A y l)
  (hB : ∀ y x l,y < H -> x < W -> l.length = y * W + x -> B y (x + 1) (l ++ [g (y * W + x)]) -> B y x l)
  (hE : ∀ y l,y < H -> A (y + 1) l -> B y W l)
  (h : A H (genL (H * W) g)) : A 0 [] := by
 have row : ∀ y,y < H -> A (y + 1) (genL ((y + 1) * W) g) -> ∀ k x,x + k = W -> B y x (genL (y * W + x) g) := by
  intro y hy ha k
  induction k with
  | zero =>
   intro x hx; have : x = W := by omega
   subst this; exact hE y _ hy (by rw [<- succ_mul']; exact ha)
  | succ k ih => intro x hx; exact hB y x _ hy (by omega) genL_len (by rw [<- genL_succ]; exact ih (x + 1) (by omega))
 have all : ∀ k y,y + k = H -> A y (genL (y * W) g) := by
  intro k
  induction k with
  | zero =>
   intro y hy; have : y = H := by omega
   subst this; exact h
  | succ k ih =>
   intro y hy
   exact hA y _ (by omega) genL_len (row y (by omega) (ih (y + 1) (by omega)) W 0 (by omega))
 have := all H 0 (by omega)
 rwa [Nat.zero_mul] at this
theorem row_ln {l : List Pix} {W H y : Nat} (hy : y < H) (hl : l.length = H * W) : ln (List.drop (y * W) (List.take ((y + 1) * W) l)) = W := by
 have hm : y * W + W <= H * W := by rw [<- succ_mul']; exact Nat.mul_le_mul_right W hy
 rw [row_slice,lnE]; unfold rowP; simp; omega
theorem copy_all {l : List Pix} {W H : Nat} (hW : 1 <= W) (hl : l.length = H * W) : genL (H * W) (mk W (at' l W)) = l := by
 apply List.ext_getElem
 ·rw [genL_len,hl]
 ·intro i h1 h2
  have e : (genL (H * W) (mk W (at' l W)))[i] = mk W (at' l W) i := by simp only [genL,List.getElem_map,List.getElem_range]
  rw [e]
  show gt l ((i / W * W + i % W : Nat) : Int) z4 = _
  have : i / W * W + i % W = i := by rw [Nat.mul_comm]; exact Nat.div_add_mod i W
  rw [this,gt_get h2]
def grayV (p : Pix) : Int := wi ((wi (wi (wi (77 * p.1) + wi (150 * p.2.1)) + wi (29 * p.2.2.1))).tdiv 256)
def grayP (p : Pix) : Pix := (grayV p,grayV p,grayV p,p.2.2.2)
theorem D73 (p : Pix) : r73 dd p = some (grayP p) := by
 obtain ⟨a,b,c,e⟩ := p
 refine dL rfl ((b73 dd l73 ..).trans ?_); rfl
theorem D106 (p : Pix) : r106 dd p = some (grayP p) := by
 obtain ⟨a,b,c,e⟩ := p
 refine dL rfl ((b106 dd l106 ..).trans ?_); rfl
def flatV (a b e : Int) : Int := wi ((wi (wi (a * e) + wi (b * wi (255 - e)))).tdiv 255)
def flatP (o : Op) (p : Pix) : Pix := (flatV p.1 o.2.1 p.2.2.2,flatV p.2.1 o.2.2.1 p.2.2.2,flatV p.2.2.1 o.2.2.2.1 p.2.2.2,255)
theorem D108 (p : Pix) (o : Op) : r108 dd (p,o) = some (flatP o p) := by
 obtain ⟨a,b,c,e⟩ := p
 obtain ⟨k,x,y,z,w⟩ := o
 refine dL rfl ((b108 dd l108 ..).trans ?_); rfl
theorem D102 (a b : Int) (p : Pix) : r102 dd (a,b,p) = some (flatV a b p.2.2.2,p) := by
 obtain ⟨x,y,z,e⟩ := p
 refine dL rfl ((b102 dd l102 ..).trans ?_); rfl
theorem D101 (p : Pix) (o : Op) : r101 dd (p,o) = some (flatP o p,o) := by
 obtain ⟨a,b,c,e⟩ := p
 obtain ⟨k,x,y,z,w⟩ := o
 refine dL rfl ((b101 dd l101 ..).trans ?_)
 simp only [D102,Option.bind_some,if_true]
 rfl
theorem D67 (w h : Int) (l : List Pix) : r67 dd (w,h,l) = some (w,h) := by refine dL rfl ((b67 dd l67 ..).trans ?_); rfl
theorem D70 (w h : Int) (l : List Pix) : r70 dd (w,h,l) = some (h,w) := by refine dL rfl ((b70 dd l70 ..).trans ?_); rfl
theorem gray_ok {p : Pix} (h : pixOk p = true) : pixOk (grayP p) = true := by
 obtain ⟨a,b,c,e⟩ := p
 obtain ⟨h1,h2,h3,h4⟩ := pixOk_iff.1 h
 dsimp only at h1 h2 h3 h4
 have : grayV (a,b,c,e) = (77 * a + 150 * b + 29 * c) / 256 := by
  unfold grayV
  show wi ((wi (wi (wi (77 * a) + wi (150 * b)) + wi (29 * c))).tdiv 256) = _
  rw [wi_id (x := 77 * a) (by omega) (by omega),wi_id (x := 150 * b) (by omega) (by omega),wi_id (x := 29 * c) (by omega) (by omega),wi_id (x := 77 * a + 150 * b) (by omega) (by omega),wi_id (x := 77 * a + 150 * b + 29 * c) (by omega) (by omega),td (by omega),wi_id (by omega) (by omega)]
 refine pixOk_iff.2 ?_
 show (0 <= grayV _ ∧ grayV _ <= 255) ∧ (0 <= grayV _ ∧ grayV _ <= 255) ∧ (0 <= grayV _ ∧ grayV _ <= 255) ∧ 0 <= e ∧ e <= 255
 rw [this]
 omega
theorem mul_b {a e : Int} (h1 : 0 <= a) (h2 : a <= 255) (h3 : 0 <= e) : 0 <= a * e ∧ a * e <= 255 * e :=
 ⟨Int.mul_nonneg h1 h3,Int.mul_le_mul_of_nonneg_right h2 h3⟩
theorem flatV_ok {a b e : Int} (ha : 0 <= a ∧ a <= 255) (hb : 0 <= b ∧ b <= 255) (he : 0 <= e ∧ e <= 255) : 0 <= flatV a b e ∧ flatV a b e <= 255 := by
 unfold flatV
 obtain ⟨x1,x2⟩ := mul_b ha.1 ha.2 he.1
 have he' : 0 <= 255 - e := by omega
 obtain ⟨y1,y2⟩ := mul_b hb.1 hb.2 he'
 rw [wi_id (x := 255 - e) (by omega) (by omega)]
 generalize a * e = A at *
 generalize b * (255 - e) = B at *
 rw [wi_id (x := A) (by omega) (by omega),wi_id (x := B) (by omega) (by omega),wi_id (x := A + B) (by omega) (by omega),td (by omega),wi_id (by omega) (by omega)]
 omega
theorem flat_ok {o : Op} {p : Pix} (h : pixOk p = true) (ho : (0 <= o.2.1 ∧ o.2.1 <= 255) ∧ (0 <= o.2.2.1 ∧ o.2.2.1 <= 255) ∧ (0 <= o.2.2.2.1 ∧ o.2.2.2.1 <= 255)) : pixOk (flatP o p) = true := by
 obtain ⟨h1,h2,h3,h4⟩ := pixOk_iff.1 h
 exact pixOk_iff.2 ⟨flatV_ok h1 ho.1 h4,flatV_ok h2 ho.2.1 h4,flatV_ok h3 ho.2.2 h4,(by decide : (0 : Int) <= 255 ∧ (255 : Int) <= 255)⟩
end T
end
section
namespace T
open Go Go.E Go.Proofs
theorem D68 (w h : Int) (l : List Pix) (x y : Int) : r68 dd ((w,h,l),x,y) = some (wi (wi (w - 1) - x),y) := by refine dL rfl ((b68 dd l68 ..).trans ?_); rfl
theorem D69 (w h : Int) (l : List Pix) (x y : Int) : r69 dd ((w,h,l),x,y) = some (x,wi (wi (h - 1) - y)) := by refine dL rfl ((b69 dd l69 ..).trans ?_); rfl
theorem D71 (w h : Int) (l : List Pix) (x y : Int) : r71 dd ((w,h,l),x,y) = some (y,wi (wi (h - 1) - x)) := by refine dL rfl ((b71 dd l71 ..).trans ?_); rfl
theorem size_wi {x W V : Nat} (hx : x < W) (hW : W <= 6) (hV1 : 1 <= V) (hV : V <= 6) : wi (2 * (W : Int)) = ((2 * W : Nat) : Int) ∧ ¬ (((2 * W : Nat) : Int) = 0) ∧ wi ((wi (wi (wi (2 * (x : Int)) + 1) * V)).tdiv ((2 * W : Nat) : Int)) = (((2 * x + 1) * V / (2 * W) : Nat) : Int) ∧ (2 * x + 1) * V / (2 * W) < V := by
 have h1 : (2 * x + 1) * V <= 11 * 6 := Nat.mul_le_mul (by omega) hV
 have h2 : (2 * x + 1) * V / (2 * W) < V := Nat.div_lt_of_lt_mul (Nat.mul_lt_mul_of_pos_right (by omega) (by omega))
 refine ⟨by rw [wi_id (by omega) (by omega)]; omega,by omega,?_,h2⟩
 rw [wi_id (x := 2 * (x : Int)) (by omega) (by omega),wi_id (x := 2 * (x : Int) + 1) (by omega) (by omega),show 2 * (x : Int) + 1 = ((2 * x + 1 : Nat) : Int) by omega,nmul]
 generalize (2 * x + 1) * V = A at *
 rw [wi_id (x := (A : Int)) (by omega) (by omega),td (by omega), <- Int.natCast_ediv]
 generalize A / (2 * W) = B at *
 exact wi_id (by omega) (by omega)
theorem sameAll_of {α : Type} {x : Option α} {l : List (Option α)} {r : α} (h : x = some r) (hl : ∀ y ∈ l,y = some r) : sameAll x l = some r := by
 have all : ∀ l : List (Option α),(∀ y ∈ l,y = some r) -> allSame x l := by
  intro l
  induction l with
  | nil => intro _; trivial
  | cons z l ih => intro hz; exact ⟨(hz z (List.mem_cons_self ..)).trans h.symm,ih fun y hy => hz y (List.mem_cons_of_mem _ hy)⟩
 unfold sameAll
 split
 ·exact h
 ·rw [if_pos (all _ hl)]; exact h
end T
end
section
namespace T
open Go Go.E Go.Proofs
theorem F23_0 {l : List Pix} {W H : Nat} (hW : W <= 6) (hH : H <= 6) (hs : l.length = H * W) (o2_0 o2_1 o4_0 o4_1 : Int) (x1_1 : List (Int × Int × Int × Int × Int)) {v : Ras × Bool}
  (h : l23 (q23_2 x1_1 (ln x1_1) 0 o4_0 o4_1 W H (genL (H * W) (mk W (fun x y => at' l W x y)))) = some v) :
  l23 (q23_0 W H H 0 x1_1 W H l o2_0 o2_1 (List.replicate (H * W) z4) o4_0 o4_1) = some v := by
 refine fill_all (mk W (fun x y => at' l W x y)) (fun y l' => l23 (q23_0 W H H (y : Nat) x1_1 W H l o2_0 o2_1 l' o4_0 o4_1) = some v) (fun y x l' => l23 (q23_1 W H (y : Nat) (((y : Nat) * W : Nat) : Int) ((((y : Nat) + 1) * W : Nat) : Int) H (y : Nat) W (x : Nat) x1_1 W H l o2_0 o2_1 l' o4_0 o4_1) = some v) ?_ ?_ ?_ ?_
 ·intro y l' hy hl hq
  obtain ⟨w1,w2⟩ := row_wi hy hH hW
  have hm := mulb hy hH hW
  have e3 := succ_mul' (y := y) (W := W)
  have hln := lnE l'
  refine eL ((c23_0 dd l23 ..).trans ?_)
  rw [cond_yes (by omega),w1,w2,if_pos (by omega),if_pos (by omega),if_pos (by omega),Int.toNat_natCast,Int.toNat_natCast,row_ln hy hl]
  exact hq
 ·intro y x l' hy hx hl hq
  have e3 := succ_mul' (y := y) (W := W)
  rw [mk_at hx] at hq
  refine eL ((c23_1 dd l23 ..).trans ?_)
  rw [cond_yes (by omega)]
  rw [D43 hs hH hW hx hy,Option.bind_some]
  rw [if_pos (by omega),if_pos (by omega),wi_nat (by omega),show (((y * W : Nat) : Int) + (x : Int)).toNat = y * W + x by omega]
  exact hq
 ·intro y l' hy hq
  refine eL ((c23_1 dd l23 ..).trans ?_)
  rw [cond_no (by omega),wi_nat (by omega)]
  exact hq
 ·refine eL ((c23_0 dd l23 ..).trans ?_)
  rw [cond_no (by omega)]
  exact h
theorem F23_3 {l : List Pix} {W H : Nat} (hW : W <= 6) (hH : H <= 6) {V U : Nat} (hV1 : 1 <= V) (hV : V <= 6) (hU1 : 1 <= U) (hU : U <= 6) (hs : l.length = U * V) {a b : Nat} (ha : a + W <= V) (hb : b + H <= U) (k c3 c4 : Int) (i : Nat) (hi : i < 1000) (x3_27 o5_0 o5_1 o7_0 o7_1 o8_0 o8_1 o9_0 o9_1 o10_0 o10_1 : Int) (x3_26 : List (Int × Int × Int × Int × Int)) {v : Ras × Bool}
  (h : l23 (q23_2 x3_26 x3_27 ((i + 1 : Nat) : Int) o9_0 o9_1 W H (genL (H * W) (mk W (fun x y => at' l V (a + x) (b + y))))) = some v) :
  l23 (q23_3 W H H 0 x3_26 x3_27 i k (a : Int) (b : Int) c3 c4 V U l o5_0 o5_1 (List.replicate (H * W) z4) o7_0 o7_1 o8_0 o8_1 o9_0 o9_1 o10_0 o10_1) = some v := by
 refine fill_all (mk W (fun x y => at' l V (a + x) (b + y))) (fun y l' => l23 (q23_3 W H H (y : Nat) x3_26 x3_27 i k (a : Int) (b : Int) c3 c4 V U l o5_0 o5_1 l' o7_0 o7_1 o8_0 o8_1 o9_0 o9_1 o10_0 o10_1) = some v) (fun y x l' => l23 (q23_17 W H (y : Nat) (((y : Nat) * W : Nat) : Int) ((((y : Nat) + 1) * W : Nat) : Int) H (y : Nat) W (x : Nat) x3_26 x3_27 i k (a : Int) (b : Int) c3 c4 V U l o5_0 o5_1 l' o7_0 o7_1 o8_0 o8_1 o9_0 o9_1 o10_0 o10_1) = some v) ?_ ?_ ?_ ?_
 ·intro y l' hy hl hq
  obtain ⟨w1,w2⟩ := row_wi hy hH hW
  have hm := mulb hy hH hW
  have e3 := succ_mul' (y := y) (W := W)
  have hln := lnE l'
  refine eL ((c23_3 dd l23 ..).trans ?_)
  rw [cond_yes (by omega),w1,w2,if_pos (by omega),if_pos (by omega),if_pos (by omega),Int.toNat_natCast,Int.toNat_natCast,row_ln hy hl]
  exact hq
 ·intro y x l' hy hx hl hq
  have e3 := succ_mul' (y := y) (W := W)
  rw [mk_at hx] at hq
  refine eL ((c23_17 dd l23 ..).trans ?_)
  rw [cond_yes (by omega)]
  rw [wi_id (x := (a : Int) + x) (by omega) (by omega),wi_id (x := (b : Int) + y) (by omega) (by omega),show (a : Int) + x = ((a + x : Nat) : Int) by omega,show (b : Int) + y = ((b + y : Nat) : Int) by omega,D43 hs hU hV (show a + x < V by omega) (show b + y < U by omega),Option.bind_some]
  rw [if_pos (by omega),if_pos (by omega),wi_nat (by omega),show (((y * W : Nat) : Int) + (x : Int)).toNat = y * W + x by omega]
  exact hq
 ·intro y l' hy hq
  refine eL ((c23_17 dd l23 ..).trans ?_)
  rw [cond_no (by omega),wi_nat (by omega)]
  exact hq
 ·refine eL ((c23_3 dd l23 ..).trans ?_)
  rw [cond_no (by omega),wi_nat (by omega)]
  exact h
theorem F23_4 {l : List Pix} {W H : Nat} (hW : W <= 6) (hH : H <= 6) (hs : l.length = H * W) (i : Nat) (hi : i < 1000) (x2_27 o4_0 o4_1 o6_0 o6_1 o7_0 o7_1 o8_0 o8_1 : Int) (x2_26 : List (Int × Int × Int × Int × Int)) {v : Ras × Bool}
  (h : l23 (q23_2 x2_26 x2_27 ((i + 1 : Nat) : Int) o7_0 o7_1 W H (genL (H * W) (mk W (fun x y => at' l W (W - 1 - x) y)))) = some v) :
  l23 (q23_4 W H H 0 x2_26 x2_27 i W H l o4_0 o4_1 (List.replicate (H * W) z4) o6_0 o6_1 o7_0 o7_1 o8_0 o8_1) = some v := by
 refine fill_all (mk W (fun x y => at' l W (W - 1 - x) y)) (fun y l' => l23 (q23_4 W H H (y : Nat) x2_26 x2_27 i W H l o4_0 o4_1 l' o6_0 o6_1 o7_0 o7_1 o8_0 o8_1) = some v) (fun y x l' => l23 (q23_18 W H (y : Nat) (((y : Nat) * W : Nat) : Int) ((((y : Nat) + 1) * W : Nat) : Int) H (y : Nat) W (x : Nat) x2_26 x2_27 i W H l o4_0 o4_1 l' o6_0 o6_1 o7_0 o7_1 o8_0 o8_1) = some v) ?_ ?_ ?_ ?_
 ·intro y l' hy hl hq
  obtain ⟨w1,w2⟩ := row_wi hy hH hW
  have hm := mulb hy hH hW
  have e3 := succ_mul' (y := y) (W := W)
  have hln := lnE l'
  refine eL ((c23_4 dd l23 ..).trans ?_)
  rw [cond_yes (by omega),w1,w2,if_pos (by omega),if_pos (by omega),if_pos (by omega),Int.toNat_natCast,Int.toNat_natCast,row_ln hy hl]
  exact hq
 ·intro y x l' hy hx hl hq
  have e3 := succ_mul' (y := y) (W := W)
  rw [mk_at hx] at hq
  refine eL ((c23_18 dd l23 ..).trans ?_)
  rw [cond_yes (by omega)]
  rw [D68,Option.bind_some,wi_id (x := (W : Int) - 1) (by omega) (by omega),wi_id (x := (W : Int) - 1 - x) (by omega) (by omega),show (W : Int) - 1 - x = ((W - 1 - x : Nat) : Int) by omega,D43 hs hH hW (show W - 1 - x < W by omega) hy,Option.bind_some]
  rw [if_pos (by omega),if_pos (by omega),wi_nat (by omega),show (((y * W : Nat) : Int) + (x : Int)).toNat = y * W + x by omega]
  exact hq
 ·intro y l' hy hq
  refine eL ((c23_18 dd l23 ..).trans ?_)
  rw [cond_no (by omega),wi_nat (by omega)]
  exact hq
 ·refine eL ((c23_4 dd l23 ..).trans ?_)
  rw [cond_no (by omega),wi_nat (by omega)]
  exact h
theorem F23_5 {l : List Pix} {W H : Nat} (hW : W <= 6) (hH : H <= 6) (hs : l.length = H * W) (i : Nat) (hi : i < 1000) (x2_27 o4_0 o4_1 o6_0 o6_1 o7_0 o7_1 o8_0 o8_1 : Int) (x2_26 : List (Int × Int × Int × Int × Int)) {v : Ras × Bool}
  (h : l23 (q23_2 x2_26 x2_27 ((i + 1 : Nat) : Int) o7_0 o7_1 W H (genL (H * W) (mk W (fun x y => at' l W x (H - 1 - y))))) = some v) :
  l23 (q23_5 W H H 0 x2_26 x2_27 i W H l o4_0 o4_1 (List.replicate (H * W) z4) o6_0 o6_1 o7_0 o7_1 o8_0 o8_1) = some v := by
 refine fill_all (mk W (fun x y => at' l W x (H - 1 - y))) (fun y l' => l23 (q23_5 W H H (y : Nat) x2_26 x2_27 i W H l o4_0 o4_1 l' o6_0 o6_1 o7_0 o7_1 o8_0 o8_1) = some v) (fun y x l' => l23 (q23_19 W H (y : Nat) (((y : Nat) * W : Nat) : Int) ((((y : Nat) + 1) * W : Nat) : Int) H (y : Nat) W (x : Nat) x2_26 x2_27 i W H l o4_0 o4_1 l' o6_0 o6_1 o7_0 o7_1 o8_0 o8_1) = some v) ?_ ?_ ?_ ?_
 ·intro y l' hy hl hq
  obtain ⟨w1,w2⟩ := row_wi hy hH hW
  have hm := mulb hy hH hW
  have e3 := succ_mul' (y := y) (W := W)
  have hln := lnE l'
  refine eL ((c23_5 dd l23 ..).trans ?_)
  rw [cond_yes (by omega),w1,w2,if_pos (by omega),if_pos (by omega),if_pos (by omega),Int.toNat_natCast,Int.toNat_natCast,row_ln hy hl]
  exact hq
 ·intro y x l' hy hx hl hq
  have e3 := succ_mul' (y := y) (W := W)
  rw [mk_at hx] at hq
  refine eL ((c23_19 dd l23 ..).trans ?_)
  rw [cond_yes (by omega)]
  rw [D69,Option.bind_some,wi_id (x := (H : Int) - 1) (by omega) (by omega),wi_id (x := (H : Int) - 1 - y) (by omega) (by omega),show (H : Int) - 1 - y = ((H - 1 - y : Nat) : Int) by omega,D43 hs hH hW hx (show H - 1 - y < H by omega),Option.bind_some]
  rw [if_pos (by omega),if_pos (by omega),wi_nat (by omega),show (((y * W : Nat) : Int) + (x : Int)).toNat = y * W + x by omega]
  exact hq
 ·intro y l' hy hq
  refine eL ((c23_19 dd l23 ..).trans ?_)
  rw [cond_no (by omega),wi_nat (by omega)]
  exact hq
 ·refine eL ((c23_5 dd l23 ..).trans ?_)
  rw [cond_no (by omega),wi_nat (by omega)]
  exact h
theorem F23_6 {l : List Pix} {W H : Nat} (hW : W <= 6) (hH : H <= 6) (hs : l.length = W * H) (i : Nat) (hi : i < 1000) (x2_27 o4_0 o4_1 o6_0 o6_1 o7_0 o7_1 o8_0 o8_1 : Int) (x2_26 : List (Int × Int × Int × Int × Int)) {v : Ras × Bool}
  (h : l23 (q23_2 x2_26 x2_27 ((i + 1 : Nat) : Int) o7_0 o7_1 W H (genL (H * W) (mk W (fun x y => at' l H y (W - 1 - x))))) = some v) :
  l23 (q23_6 W H H 0 x2_26 x2_27 i H W l o4_0 o4_1 (List.replicate (H * W) z4) o6_0 o6_1 o7_0 o7_1 o8_0 o8_1) = some v := by
 refine fill_all (mk W (fun x y => at' l H y (W - 1 - x))) (fun y l' => l23 (q23_6 W H H (y : Nat) x2_26 x2_27 i H W l o4_0 o4_1 l' o6_0 o6_1 o7_0 o7_1 o8_0 o8_1) = some v) (fun y x l' => l23 (q23_20 W H (y : Nat) (((y : Nat) * W : Nat) : Int) ((((y : Nat) + 1) * W : Nat) : Int) H (y : Nat) W (x : Nat) x2_26 x2_27 i H W l o4_0 o4_1 l' o6_0 o6_1 o7_0 o7_1 o8_0 o8_1) = some v) ?_ ?_ ?_ ?_
 ·intro y l' hy hl hq
  obtain ⟨w1,w2⟩ := row_wi hy hH hW
  have hm := mulb hy hH hW
  have e3 := succ_mul' (y := y) (W := W)
  have hln := lnE l'
  refine eL ((c23_6 dd l23 ..).trans ?_)
  rw [cond_yes (by omega),w1,w2,if_pos (by omega),if_pos (by omega),if_pos (by omega),Int.toNat_natCast,Int.toNat_natCast,row_ln hy hl]
  exact hq
 ·intro y x l' hy hx hl hq
  have e3 := succ_mul' (y := y) (W := W)
  rw [mk_at hx] at hq
  refine eL ((c23_20 dd l23 ..).trans ?_)
  rw [cond_yes (by omega)]
  rw [D71,Option.bind_some,wi_id (x := (W : Int) - 1) (by omega) (by omega),wi_id (x := (W : Int) - 1 - x) (by omega) (by omega),show (W : Int) - 1 - x = ((W - 1 - x : Nat) : Int) by omega,D43 hs hW hH hy (show W - 1 - x < W by omega),Option.bind_some]
  rw [if_pos (by omega),if_pos (by omega),wi_nat (by omega),show (((y * W : Nat) : Int) + (x : Int)).toNat = y * W + x by omega]
  exact hq
 ·intro y l' hy hq
  refine eL ((c23_20 dd l23 ..).trans ?_)
  rw [cond_no (by omega),wi_nat (by omega)]
  exact hq
 ·refine eL ((c23_6 dd l23 ..).trans ?_)
  rw [cond_no (by omega),wi_nat (by omega)]
  exact h
theorem F23_7 {l : List Pix} {W H : Nat} (hW : W <= 6) (hH : H <= 6) (hs : l.length = H * W) (i : Nat) (hi : i < 1000) (x2_27 o4_0 o4_1 o6_0 o6_1 o7_0 o7_1 o8_0 o8_1 : Int) (x2_26 : List (Int × Int × Int × Int × Int)) {v : Ras × Bool}
  (h : l23 (q23_2 x2_26 x2_27 ((i + 1 : Nat) : Int) o7_0 o7_1 W H (genL (H * W) (mk W (fun x y => grayP (at' l W x y))))) = some v) :
  l23 (q23_7 W H H 0 x2_26 x2_27 i W H l o4_0 o4_1 (List.replicate (H * W) z4) o6_0 o6_1 o7_0 o7_1 o8_0 o8_1) = some v := by
 refine fill_all (mk W (fun x y => grayP (at' l W x y))) (fun y l' => l23 (q23_7 W H H (y : Nat) x2_26 x2_27 i W H l o4_0 o4_1 l' o6_0 o6_1 o7_0 o7_1 o8_0 o8_1) = some v) (fun y x l' => l23 (q23_21 W H (y : Nat) (((y : Nat) * W : Nat) : Int) ((((y : Nat) + 1) * W : Nat) : Int) H (y : Nat) W (x : Nat) x2_26 x2_27 i W H l o4_0 o4_1 l' o6_0 o6_1 o7_0 o7_1 o8_0 o8_1) = some v) ?_ ?_ ?_ ?_
 ·intro y l' hy hl hq
  obtain ⟨w1,w2⟩ := row_wi hy hH hW
  have hm := mulb hy hH hW
  have e3 := succ_mul' (y := y) (W := W)
  have hln := lnE l'
  refine eL ((c23_7 dd l23 ..).trans ?_)
  rw [cond_yes (by omega),w1,w2,if_pos (by omega),if_pos (by omega),if_pos (by omega),Int.toNat_natCast,Int.toNat_natCast,row_ln hy hl]
  exact hq
 ·intro y x l' hy hx hl hq
  have e3 := succ_mul' (y := y) (W := W)
  rw [mk_at hx] at hq
  refine eL ((c23_21 dd l23 ..).trans ?_)
  rw [cond_yes (by omega)]
  rw [D43 hs hH hW hx hy,Option.bind_some,D73,Option.bind_some]
  rw [if_pos (by omega),if_pos (by omega),wi_nat (by omega),show (((y * W : Nat) : Int) + (x : Int)).toNat = y * W + x by omega]
  exact hq
 ·intro y l' hy hq
  refine eL ((c23_21 dd l23 ..).trans ?_)
  rw [cond_no (by omega),wi_nat (by omega)]
  exact hq
 ·refine eL ((c23_7 dd l23 ..).trans ?_)
  rw [cond_no (by omega),wi_nat (by omega)]
  exact h
theorem F23_8 {l : List Pix} {W H : Nat} (hW : W <= 6) (hH : H <= 6) {V U : Nat} (hV1 : 1 <= V) (hV : V <= 6) (hU1 : 1 <= U) (hU : U <= 6) (hs : l.length = U * V) (k c3 c4 : Int) (i : Nat) (hi : i < 1000) (x2_27 o5_0 o5_1 o7_0 o7_1 o8_0 o8_1 o9_0 o9_1 : Int) (x2_26 : List (Int × Int × Int × Int × Int)) {v : Ras × Bool}
  (h : l23 (q23_2 x2_26 x2_27 ((i + 1 : Nat) : Int) o8_0 o8_1 W H (genL (H * W) (mk W (fun x y => at' l V ((2 * x + 1) * V / (2 * W)) ((2 * y + 1) * U / (2 * H)))))) = some v) :
  l23 (q23_8 W H H 0 x2_26 x2_27 i k W H c3 c4 V U l o5_0 o5_1 (List.replicate (H * W) z4) o7_0 o7_1 o8_0 o8_1 o9_0 o9_1) = some v := by
 refine fill_all (mk W (fun x y => at' l V ((2 * x + 1) * V / (2 * W)) ((2 * y + 1) * U / (2 * H)))) (fun y l' => l23 (q23_8 W H H (y : Nat) x2_26 x2_27 i k W H c3 c4 V U l o5_0 o5_1 l' o7_0 o7_1 o8_0 o8_1 o9_0 o9_1) = some v) (fun y x l' => l23 (q23_22 W H (y : Nat) (((y : Nat) * W : Nat) : Int) ((((y : Nat) + 1) * W : Nat) : Int) H (y : Nat) W (x : Nat) x2_26 x2_27 i k W H c3 c4 V U l o5_0 o5_1 l' o7_0 o7_1 o8_0 o8_1 o9_0 o9_1) = some v) ?_ ?_ ?_ ?_
 ·intro y l' hy hl hq
  obtain ⟨w1,w2⟩ := row_wi hy hH hW
  have hm := mulb hy hH hW
  have e3 := succ_mul' (y := y) (W := W)
  have hln := lnE l'
  refine eL ((c23_8 dd l23 ..).trans ?_)
  rw [cond_yes (by omega),w1,w2,if_pos (by omega),if_pos (by omega),if_pos (by omega),Int.toNat_natCast,Int.toNat_natCast,row_ln hy hl]
  exact hq
 ·intro y x l' hy hx hl hq
  have e3 := succ_mul' (y := y) (W := W)
  rw [mk_at hx] at hq
  refine eL ((c23_22 dd l23 ..).trans ?_)
  rw [cond_yes (by omega)]
  obtain ⟨s1,s2,s3,s4⟩ := size_wi hx hW hV1 hV; obtain ⟨t1,t2,t3,t4⟩ := size_wi hy hH hU1 hU; rw [s1,t1,if_pos s2,if_pos t2,s3,t3,D43 hs hU hV s4 t4,Option.bind_some]
  rw [if_pos (by omega),if_pos (by omega),wi_nat (by omega),show (((y * W : Nat) : Int) + (x : Int)).toNat = y * W + x by omega]
  exact hq
 ·intro y l' hy hq
  refine eL ((c23_22 dd l23 ..).trans ?_)
  rw [cond_no (by omega),wi_nat (by omega)]
  exact hq
 ·refine eL ((c23_8 dd l23 ..).trans ?_)
  rw [cond_no (by omega),wi_nat (by omega)]
  exact h
theorem F23_9 {l : List Pix} {W H : Nat} (hW : W <= 6) (hH : H <= 6) (hs : l.length = H * W) (o : Op) (i : Nat) (hi : i < 1000) (x2_27 o5_0 o5_1 o7_0 o7_1 o8_0 o8_1 o9_0 o9_1 : Int) (x2_26 : List (Int × Int × Int × Int × Int)) {v : Ras × Bool}
  (h : l23 (q23_2 x2_26 x2_27 ((i + 1 : Nat) : Int) o8_0 o8_1 W H (genL (H * W) (mk W (fun x y => flatP o (at' l W x y))))) = some v) :
  l23 (q23_9 W H H 0 x2_26 x2_27 i o.1 o.2.1 o.2.2.1 o.2.2.2.1 o.2.2.2.2 W H l o5_0 o5_1 (List.replicate (H * W) z4) o7_0 o7_1 o8_0 o8_1 o9_0 o9_1) = some v := by
 refine fill_all (mk W (fun x y => flatP o (at' l W x y))) (fun y l' => l23 (q23_9 W H H (y : Nat) x2_26 x2_27 i o.1 o.2.1 o.2.2.1 o.2.2.2.1 o.2.2.2.2 W H l o5_0 o5_1 l' o7_0 o7_1 o8_0 o8_1 o9_0 o9_1) = some v) (fun y x l' => l23 (q23_23 W H (y : Nat) (((y : Nat) * W : Nat) : Int) ((((y : Nat) + 1) * W : Nat) : Int) H (y : Nat) W (x : Nat) x2_26 x2_27 i o.1 o.2.1 o.2.2.1 o.2.2.2.1 o.2.2.2.2 W H l o5_0 o5_1 l' o7_0 o7_1 o8_0 o8_1 o9_0 o9_1) = some v) ?_ ?_ ?_ ?_
 ·intro y l' hy hl hq
  obtain ⟨w1,w2⟩ := row_wi hy hH hW
  have hm := mulb hy hH hW
  have e3 := succ_mul' (y := y) (W := W)
  have hln := lnE l'
  refine eL ((c23_9 dd l23 ..).trans ?_)
  rw [cond_yes (by omega),w1,w2,if_pos (by omega),if_pos (by omega),if_pos (by omega),Int.toNat_natCast,Int.toNat_natCast,row_ln hy hl]
  exact hq
 ·intro y x l' hy hx hl hq
  have e3 := succ_mul' (y := y) (W := W)
  rw [mk_at hx] at hq
  refine eL ((c23_23 dd l23 ..).trans ?_)
  rw [cond_yes (by omega)]
  obtain ⟨k,c1,c2,c3,c4⟩ := o; rw [D43 hs hH hW hx hy,Option.bind_some,D101,Option.bind_some,if_pos rfl,if_pos rfl,if_pos rfl,if_pos rfl,if_pos rfl]
  rw [if_pos (by omega),if_pos (by omega),wi_nat (by omega),show (((y * W : Nat) : Int) + (x : Int)).toNat = y * W + x by omega]
  exact hq
 ·intro y l' hy hq
  refine eL ((c23_23 dd l23 ..).trans ?_)
  rw [cond_no (by omega),wi_nat (by omega)]
  exact hq
 ·refine eL ((c23_9 dd l23 ..).trans ?_)
  rw [cond_no (by omega),wi_nat (by omega)]
  exact h
theorem F23_10 {l : List Pix} {W H : Nat} (hW : W <= 6) (hH : H <= 6) {V U : Nat} (hV1 : 1 <= V) (hV : V <= 6) (hU1 : 1 <= U) (hU : U <= 6) (hs : l.length = U * V) {a b : Nat} (ha : a + W <= V) (hb : b + H <= U) (k c3 c4 : Int) (i : Nat) (hi : i < 1000) (x3_27 o5_0 o5_1 o7_0 o7_1 o8_0 o8_1 o9_0 o9_1 o10_0 o10_1 o11_0 o11_1 : Int) (x3_26 : List (Int × Int × Int × Int × Int)) {v : Ras × Bool}
  (h : l23 (q23_2 x3_26 x3_27 ((i + 1 : Nat) : Int) o9_0 o9_1 W H (genL (H * W) (mk W (fun x y => at' l V (a + x) (b + y))))) = some v) :
  l23 (q23_10 W H H 0 x3_26 x3_27 i k (a : Int) (b : Int) c3 c4 V U l o5_0 o5_1 (List.replicate (H * W) z4) o7_0 o7_1 o8_0 o8_1 o9_0 o9_1 o10_0 o10_1 o11_0 o11_1) = some v := by
 refine fill_all (mk W (fun x y => at' l V (a + x) (b + y))) (fun y l' => l23 (q23_10 W H H (y : Nat) x3_26 x3_27 i k (a : Int) (b : Int) c3 c4 V U l o5_0 o5_1 l' o7_0 o7_1 o8_0 o8_1 o9_0 o9_1 o10_0 o10_1 o11_0 o11_1) = some v) (fun y x l' => l23 (q23_24 W H (y : Nat) (((y : Nat) * W : Nat) : Int) ((((y : Nat) + 1) * W : Nat) : Int) H (y : Nat) W (x : Nat) x3_26 x3_27 i k (a : Int) (b : Int) c3 c4 V U l o5_0 o5_1 l' o7_0 o7_1 o8_0 o8_1 o9_0 o9_1 o10_0 o10_1 o11_0 o11_1) = some v) ?_ ?_ ?_ ?_
 ·intro y l' hy hl hq
  obtain ⟨w1,w2⟩ := row_wi hy hH hW
  have hm := mulb hy hH hW
  have e3 := succ_mul' (y := y) (W := W)
  have hln := lnE l'
  refine eL ((c23_10 dd l23 ..).trans ?_)
  rw [cond_yes (by omega),w1,w2,if_pos (by omega),if_pos (by omega),if_pos (by omega),Int.toNat_natCast,Int.toNat_natCast,row_ln hy hl]
  exact hq
 ·intro y x l' hy hx hl hq
  have e3 := succ_mul' (y := y) (W := W)
  rw [mk_at hx] at hq
  refine eL ((c23_24 dd l23 ..).trans ?_)
  rw [cond_yes (by omega)]
  rw [wi_id (x := (a : Int) + x) (by omega) (by omega),wi_id (x := (b : Int) + y) (by omega) (by omega),show (a : Int) + x = ((a + x : Nat) : Int) by omega,show (b : Int) + y = ((b + y : Nat) : Int) by omega,D43 hs hU hV (show a + x < V by omega) (show b + y < U by omega),Option.bind_some]
  rw [if_pos (by omega),if_pos (by omega),wi_nat (by omega),show (((y * W : Nat) : Int) + (x : Int)).toNat = y * W + x by omega]
  exact hq
 ·intro y l' hy hq
  refine eL ((c23_24 dd l23 ..).trans ?_)
  rw [cond_no (by omega),wi_nat (by omega)]
  exact hq
 ·refine eL ((c23_10 dd l23 ..).trans ?_)
  rw [cond_no (by omega),wi_nat (by omega)]
  exact h
theorem F23_11 {l : List Pix} {W H : Nat} (hW : W <= 6) (hH : H <= 6) (hs : l.length = H * W) (i : Nat) (hi : i < 1000) (x2_27 o4_0 o4_1 o6_0 o6_1 o7_0 o7_1 o8_0 o8_1 o9_0 o9_1 : Int) (x2_26 : List (Int × Int × Int × Int × Int)) {v : Ras × Bool}
  (h : l23 (q23_2 x2_26 x2_27 ((i + 1 : Nat) : Int) o7_0 o7_1 W H (genL (H * W) (mk W (fun x y => at' l W (W - 1 - x) y)))) = some v) :
  l23 (q23_11 W H H 0 x2_26 x2_27 i W H l o4_0 o4_1 (List.replicate (H * W) z4) o6_0 o6_1 o7_0 o7_1 o8_0 o8_1 o9_0 o9_1) = some v := by
 refine fill_all (mk W (fun x y => at' l W (W - 1 - x) y)) (fun y l' => l23 (q23_11 W H H (y : Nat) x2_26 x2_27 i W H l o4_0 o4_1 l' o6_0 o6_1 o7_0 o7_1 o8_0 o8_1 o9_0 o9_1) = some v) (fun y x l' => l23 (q23_25 W H (y : Nat) (((y : Nat) * W : Nat) : Int) ((((y : Nat) + 1) * W : Nat) : Int) H (y : Nat) W (x : Nat) x2_26 x2_27 i W H l o4_0 o4_1 l' o6_0 o6_1 o7_0 o7_1 o8_0 o8_1 o9_0 o9_1) = some v) ?_ ?_ ?_ ?_
 ·intro y l' hy hl hq
  obtain ⟨w1,w2⟩ := row_wi hy hH hW
  have hm := mulb hy hH hW
  have e3 := succ_mul' (y := y) (W := W)
  have hln := lnE l'
  refine eL ((c23_11 dd l23 ..).trans ?_)
  rw [cond_yes (by omega),w1,w2,if_pos (by omega),if_pos (by omega),if_pos (by omega),Int.toNat_natCast,Int.toNat_natCast,row_ln hy hl]
  exact hq
 ·intro y x l' hy hx hl hq
  have e3 := succ_mul' (y := y) (W := W)
  rw [mk_at hx] at hq
  refine eL ((c23_25 dd l23 ..).trans ?_)
  rw [cond_yes (by omega)]
  rw [D68,Option.bind_some,wi_id (x := (W : Int) - 1) (by omega) (by omega),wi_id (x := (W : Int) - 1 - x) (by omega) (by omega),show (W : Int) - 1 - x = ((W - 1 - x : Nat) : Int) by omega,D43 hs hH hW (show W - 1 - x < W by omega) hy,Option.bind_some]
  rw [if_pos (by omega),if_pos (by omega),wi_nat (by omega),show (((y * W : Nat) : Int) + (x : Int)).toNat = y * W + x by omega]
  exact hq
 ·intro y l' hy hq
  refine eL ((c23_25 dd l23 ..).trans ?_)
  rw [cond_no (by omega),wi_nat (by omega)]
  exact hq
 ·refine eL ((c23_11 dd l23 ..).trans ?_)
  rw [cond_no (by omega),wi_nat (by omega)]
  exact h
theorem F23_12 {l : List Pix} {W H : Nat} (hW : W <= 6) (hH : H <= 6) (hs : l.length = H * W) (i : Nat) (hi : i < 1000) (x2_27 o4_0 o4_1 o6_0 o6_1 o7_0 o7_1 o8_0 o8_1 o9_0 o9_1 : Int) (x2_26 : List (Int × Int × Int × Int × Int)) {v : Ras × Bool}
  (h : l23 (q23_2 x2_26 x2_27 ((i + 1 : Nat) : Int) o7_0 o7_1 W H (genL (H * W) (mk W (fun x y => at' l W x (H - 1 - y))))) = some v) :
  l23 (q23_12 W H H 0 x2_26 x2_27 i W H l o4_0 o4_1 (List.replicate (H * W) z4) o6_0 o6_1 o7_0 o7_1 o8_0 o8_1 o9_0 o9_1) = some v := by
 refine fill_all (mk W (fun x y => at' l W x (H - 1 - y))) (fun y l' => l23 (q23_12 W H H (y : Nat) x2_26 x2_27 i W H l o4_0 o4_1 l' o6_0 o6_1 o7_0 o7_1 o8_0 o8_1 o9_0 o9_1) = some v) (fun y x l' => l23 (q23_26 W H (y : Nat) (((y : Nat) * W : Nat) : Int) ((((y : Nat) + 1) * W : Nat) : Int) H (y : Nat) W (x : Nat) x2_26 x2_27 i W H l o4_0 o4_1 l' o6_0 o6_1 o7_0 o7_1 o8_0 o8_1 o9_0 o9_1) = some v) ?_ ?_ ?_ ?_
 ·intro y l' hy hl hq
  obtain ⟨w1,w2⟩ := row_wi hy hH hW
  have hm := mulb hy hH hW
  have e3 := succ_mul' (y := y) (W := W)
  have hln := lnE l'
  refine eL ((c23_12 dd l23 ..).trans ?_)
  rw [cond_yes (by omega),w1,w2,if_pos (by omega),if_pos (by omega),if_pos (by omega),Int.toNat_natCast,Int.toNat_natCast,row_ln hy hl]
  exact hq
 ·intro y x l' hy hx hl hq
  have e3 := succ_mul' (y := y) (W := W)
  rw [mk_at hx] at hq
  refine eL ((c23_26 dd l23 ..).trans ?_)
  rw [cond_yes (by omega)]
  rw [D69,Option.bind_some,wi_id (x := (H : Int) - 1) (by omega) (by omega),wi_id (x := (H : Int) - 1 - y) (by omega) (by omega),show (H : Int) - 1 - y = ((H - 1 - y : Nat) : Int) by omega,D43 hs hH hW hx (show H - 1 - y < H by omega),Option.bind_some]
  rw [if_pos (by omega),if_pos (by omega),wi_nat (by omega),show (((y * W : Nat) : Int) + (x : Int)).toNat = y * W + x by omega]
  exact hq
 ·intro y l' hy hq
  refine eL ((c23_26 dd l23 ..).trans ?_)
  rw [cond_no (by omega),wi_nat (by omega)]
  exact hq
 ·refine eL ((c23_12 dd l23 ..).trans ?_)
  rw [cond_no (by omega),wi_nat (by omega)]
  exact h
theorem F23_13 {l : List Pix} {W H : Nat} (hW : W <= 6) (hH : H <= 6) (hs : l.length = W * H) (i : Nat) (hi : i < 1000) (x2_27 o4_0 o4_1 o6_0 o6_1 o7_0 o7_1 o8_0 o8_1 o9_0 o9_1 : Int) (x2_26 : List (Int × Int × Int × Int × Int)) {v : Ras × Bool}
  (h : l23 (q23_2 x2_26 x2_27 ((i + 1 : Nat) : Int) o7_0 o7_1 W H (genL (H * W) (mk W (fun x y => at' l H y (W - 1 - x))))) = some v) :
  l23 (q23_13 W H H 0 x2_26 x2_27 i H W l o4_0 o4_1 (List.replicate (H * W) z4) o6_0 o6_1 o7_0 o7_1 o8_0 o8_1 o9_0 o9_1) = some v := by
 refine fill_all (mk W (fun x y => at' l H y (W - 1 - x))) (fun y l' => l23 (q23_13 W H H (y : Nat) x2_26 x2_27 i H W l o4_0 o4_1 l' o6_0 o6_1 o7_0 o7_1 o8_0 o8_1 o9_0 o9_1) = some v) (fun y x l' => l23 (q23_27 W H (y : Nat) (((y : Nat) * W : Nat) : Int) ((((y : Nat) + 1) * W : Nat) : Int) H (y : Nat) W (x : Nat) x2_26 x2_27 i H W l o4_0 o4_1 l' o6_0 o6_1 o7_0 o7_1 o8_0 o8_1 o9_0 o9_1) = some v) ?_ ?_ ?_ ?_
 ·intro y l' hy hl hq
  obtain ⟨w1,w2⟩ := row_wi hy hH hW
  have hm := mulb hy hH hW
  have e3 := succ_mul' (y := y) (W := W)
  have hln := lnE l'
  refine eL ((c23_13 dd l23 ..).trans ?_)
  rw [cond_yes (by omega),w1,w2,if_pos (by omega),if_pos (by omega),if_pos (by omega),Int.toNat_natCast,Int.toNat_natCast,row_ln hy hl]
  exact hq
 ·intro y x l' hy hx hl hq
  have e3 := succ_mul' (y := y) (W := W)
  rw [mk_at hx] at hq
  refine eL ((c23_27 dd l23 ..).trans ?_)
  rw [cond_yes (by omega)]
  rw [D71,Option.bind_some,wi_id (x := (W : Int) - 1) (by omega) (by omega),wi_id (x := (W : Int) - 1 - x) (by omega) (by omega),show (W : Int) - 1 - x = ((W - 1 - x : Nat) : Int) by omega,D43 hs hW hH hy (show W - 1 - x < W by omega),Option.bind_some]
  rw [if_pos (by omega),if_pos (by omega),wi_nat (by omega),show (((y * W : Nat) : Int) + (x : Int)).toNat = y * W + x by omega]
  exact hq
 ·intro y l' hy hq
  refine eL ((c23_27 dd l23 ..).trans ?_)
  rw [cond_no (by omega),wi_nat (by omega)]
  exact hq
 ·refine eL ((c23_13 dd l23 ..).trans ?_)
  rw [cond_no (by omega),wi_nat (by omega)]
  exact h
theorem F23_14 {l : List Pix} {W H : Nat} (hW : W <= 6) (hH : H <= 6) (hs : l.length = H * W) (i : Nat) (hi : i < 1000) (x2_27 o4_0 o4_1 o6_0 o6_1 o7_0 o7_1 o8_0 o8_1 o9_0 o9_1 : Int) (x2_26 : List (Int × Int × Int × Int × Int)) {v : Ras × Bool}
  (h : l23 (q23_2 x2_26 x2_27 ((i + 1 : Nat) : Int) o7_0 o7_1 W H (genL (H * W) (mk W (fun x y => grayP (at' l W x y))))) = some v) :
  l23 (q23_14 W H H 0 x2_26 x2_27 i W H l o4_0 o4_1 (List.replicate (H * W) z4) o6_0 o6_1 o7_0 o7_1 o8_0 o8_1 o9_0 o9_1) = some v := by
 refine fill_all (mk W (fun x y => grayP (at' l W x y))) (fun y l' => l23 (q23_14 W H H (y : Nat) x2_26 x2_27 i W H l o4_0 o4_1 l' o6_0 o6_1 o7_0 o7_1 o8_0 o8_1 o9_0 o9_1) = some v) (fun y x l' => l23 (q23_28 W H (y : Nat) (((y : Nat) * W : Nat) : Int) ((((y : Nat) + 1) * W : Nat) : Int) H (y : Nat) W (x : Nat) x2_26 x2_27 i W H l o4_0 o4_1 l' o6_0 o6_1 o7_0 o7_1 o8_0 o8_1 o9_0 o9_1) = some v) ?_ ?_ ?_ ?_
 ·intro y l' hy hl hq
  obtain ⟨w1,w2⟩ := row_wi hy hH hW
  have hm := mulb hy hH hW
  have e3 := succ_mul' (y := y) (W := W)
  have hln := lnE l'
  refine eL ((c23_14 dd l23 ..).trans ?_)
  rw [cond_yes (by omega),w1,w2,if_pos (by omega),if_pos (by omega),if_pos (by omega),Int.toNat_natCast,Int.toNat_natCast,row_ln hy hl]
  exact hq
 ·intro y x l' hy hx hl hq
  have e3 := succ_mul' (y := y) (W := W)
  rw [mk_at hx] at hq
  refine eL ((c23_28 dd l23 ..).trans ?_)
  rw [cond_yes (by omega)]
  rw [D43 hs hH hW hx hy,Option.bind_some,D73,Option.bind_some]
  rw [if_pos (by omega),if_pos (by omega),wi_nat (by omega),show (((y * W : Nat) : Int) + (x : Int)).toNat = y * W + x by omega]
  exact hq
 ·intro y l' hy hq
  refine eL ((c23_28 dd l23 ..).trans ?_)
  rw [cond_no (by omega),wi_nat (by omega)]
  exact hq
 ·refine eL ((c23_14 dd l23 ..).trans ?_)
  rw [cond_no (by omega),wi_nat (by omega)]
  exact h
theorem F23_15 {l : List Pix} {W H : Nat} (hW : W <= 6) (hH : H <= 6) {V U : Nat} (hV1 : 1 <= V) (hV : V <= 6) (hU1 : 1 <= U) (hU : U <= 6) (hs : l.length = U * V) (k c3 c4 : Int) (i : Nat) (hi : i < 1000) (x2_27 o5_0 o5_1 o7_0 o7_1 o8_0 o8_1 o9_0 o9_1 o10_0 o10_1 : Int) (x2_26 : List (Int × Int × Int × Int × Int)) {v : Ras × Bool}
  (h : l23 (q23_2 x2_26 x2_27 ((i + 1 : Nat) : Int) o8_0 o8_1 W H (genL (H * W) (mk W (fun x y => at' l V ((2 * x + 1) * V / (2 * W)) ((2 * y + 1) * U / (2 * H)))))) = some v) :
  l23 (q23_15 W H H 0 x2_26 x2_27 i k W H c3 c4 V U l o5_0 o5_1 (List.replicate (H * W) z4) o7_0 o7_1 o8_0 o8_1 o9_0 o9_1 o10_0 o10_1) = some v := by
 refine fill_all (mk W (fun x y => at' l V ((2 * x + 1) * V / (2 * W)) ((2 * y + 1) * U / (2 * H)))) (fun y l' => l23 (q23_15 W H H (y : Nat) x2_26 x2_27 i k W H c3 c4 V U l o5_0 o5_1 l' o7_0 o7_1 o8_0 o8_1 o9_0 o9_1 o10_0 o10_1) = some v) (fun y x l' => l23 (q23_29 W H (y : Nat) (((y : Nat) * W : Nat) : Int) ((((y : Nat) + 1) * W : Nat) : Int) H (y : Nat) W (x : Nat) x2_26 x2_27 i k W H c3 c4 V U l o5_0 o5_1 l' o7_0 o7_1 o8_0 o8_1 o9_0 o9_1 o10_0 o10_1) = some v) ?_ ?_ ?_ ?_
 ·intro y l' hy hl hq
  obtain ⟨w1,w2⟩ := row_wi hy hH hW
  have hm := mulb hy hH hW
  have e3 := succ_mul' (y := y) (W := W)
  have hln := lnE l'
  refine eL ((c23_15 dd l23 ..).trans ?_)
  rw [cond_yes (by omega),w1,w2,if_pos (by omega),if_pos (by omega),if_pos (by omega),Int.toNat_natCast,Int.toNat_natCast,row_ln hy hl]
  exact hq
 ·intro y x l' hy hx hl hq
  have e3 := succ_mul' (y := y) (W := W)
  rw [mk_at hx] at hq
  refine eL ((c23_29 dd l23 ..).trans ?_)
  rw [cond_yes (by omega)]
  obtain ⟨s1,s2,s3,s4⟩ := size_wi hx hW hV1 hV; obtain ⟨t1,t2,t3,t4⟩ := size_wi hy hH hU1 hU; rw [s1,t1,if_pos s2,if_pos t2,s3,t3,D43 hs hU hV s4 t4,Option.bind_some]
  rw [if_pos (by omega),if_pos (by omega),wi_nat (by omega),show (((y * W : Nat) : Int) + (x : Int)).toNat = y * W + x by omega]
  exact hq
 ·intro y l' hy hq
  refine eL ((c23_29 dd l23 ..).trans ?_)
  rw [cond_no (by omega),wi_nat (by omega)]
  exact hq
 ·refine eL ((c23_15 dd l23 ..).trans ?_)
  rw [cond_no (by omega),wi_nat (by omega)]
  exact h
theorem F23_16 {l : List Pix} {W H : Nat} (hW : W <= 6) (hH : H <= 6) (hs : l.length = H * W) (o : Op) (i : Nat) (hi : i < 1000) (x2_27 o5_0 o5_1 o7_0 o7_1 o8_0 o8_1 o9_0 o9_1 o10_0 o10_1 : Int) (x2_26 : List (Int × Int × Int × Int × Int)) {v : Ras × Bool}
  (h : l23 (q23_2 x2_26 x2_27 ((i + 1 : Nat) : Int) o8_0 o8_1 W H (genL (H * W) (mk W (fun x y => flatP o (at' l W x y))))) = some v) :
  l23 (q23_16 W H H 0 x2_26 x2_27 i o.1 o.2.1 o.2.2.1 o.2.2.2.1 o.2.2.2.2 W H l o5_0 o5_1 (List.replicate (H * W) z4) o7_0 o7_1 o8_0 o8_1 o9_0 o9_1 o10_0 o10_1) = some v := by
 refine fill_all (mk W (fun x y => flatP o (at' l W x y))) (fun y l' => l23 (q23_16 W H H (y : Nat) x2_26 x2_27 i o.1 o.2.1 o.2.2.1 o.2.2.2.1 o.2.2.2.2 W H l o5_0 o5_1 l' o7_0 o7_1 o8_0 o8_1 o9_0 o9_1 o10_0 o10_1) = some v) (fun y x l' => l23 (q23_30 W H (y : Nat) (((y : Nat) * W : Nat) : Int) ((((y : Nat) + 1) * W : Nat) : Int) H (y : Nat) W (x : Nat) x2_26 x2_27 i o.1 o.2.1 o.2.2.1 o.2.2.2.1 o.2.2.2.2 W H l o5_0 o5_1 l' o7_0 o7_1 o8_0 o8_1 o9_0 o9_1 o10_0 o10_1) = some v) ?_ ?_ ?_ ?_
 ·intro y l' hy hl hq
  obtain ⟨w1,w2⟩ := row_wi hy hH hW
  have hm := mulb hy hH hW
  have e3 := succ_mul' (y := y) (W := W)
  have hln := lnE l'
  refine eL ((c23_16 dd l23 ..).trans ?_)
  rw [cond_yes (by omega),w1,w2,if_pos (by omega),if_pos (by omega),if_pos (by omega),Int.toNat_natCast,Int.toNat_natCast,row_ln hy hl]
  exact hq
 ·intro y x l' hy hx hl hq
  have e3 := succ_mul' (y := y) (W := W)
  rw [mk_at hx] at hq
  refine eL ((c23_30 dd l23 ..).trans ?_)
  rw [cond_yes (by omega)]
  obtain ⟨k,c1,c2,c3,c4⟩ := o; rw [D43 hs hH hW hx hy,Option.bind_some,D101,Option.bind_some,if_pos rfl,if_pos rfl,if_pos rfl,if_pos rfl,if_pos rfl]
  rw [if_pos (by omega),if_pos (by omega),wi_nat (by omega),show (((y * W : Nat) : Int) + (x : Int)).toNat = y * W + x by omega]
  exact hq
 ·intro y l' hy hq
  refine eL ((c23_30 dd l23 ..).trans ?_)
  rw [cond_no (by omega),wi_nat (by omega)]
  exact hq
 ·refine eL ((c23_16 dd l23 ..).trans ?_)
  rw [cond_no (by omega),wi_nat (by omega)]
  exact h
end T
end
section
namespace T
open Go Go.E Go.Proofs
abbrev Acc := Nat × Int × Int × Int × Int
def addA (acc : Acc) (p : Pix) : Acc := (acc.1 + 1,wi (acc.2.1 + p.1),wi (acc.2.2.1 + p.2.1),wi (acc.2.2.2.1 + p.2.2.1),wi (acc.2.2.2.2 + p.2.2.2))
def rowA (l : List Pix) (W y x k : Nat) (acc : Acc) : Acc := (List.range' x k).foldl (fun acc xx => addA acc (at' l W xx y)) acc
def rowsA (l : List Pix) (W x n y k : Nat) (acc : Acc) : Acc := (List.range' y k).foldl (fun acc yy => rowA l W yy x n acc) acc
def wide (x W : Nat) : Nat := min (x + 1) (W - 1) + 1 - (x - 1)
def finA (a : Acc) : Pix := (wi (a.2.1.tdiv a.1),wi (a.2.2.1.tdiv a.1),wi (a.2.2.2.1.tdiv a.1),wi (a.2.2.2.2.tdiv a.1))
def meanP (l : List Pix) (W H x y : Nat) : Pix := finA (rowsA l W (x - 1) (wide x W) (y - 1) (wide y H) (0,0,0,0,0))
theorem rowA_succ {l : List Pix} {W y x k : Nat} {acc : Acc} : rowA l W y x (k + 1) acc = rowA l W y (x + 1) k (addA acc (at' l W x y)) := by unfold rowA; rfl
theorem rowsA_succ {l : List Pix} {W x n y k : Nat} {acc : Acc} : rowsA l W x n y (k + 1) acc = rowsA l W x n (y + 1) k (rowA l W y x n acc) := by unfold rowsA; rfl
theorem rowA_n {l : List Pix} {W y : Nat} : ∀ {k x : Nat} {acc : Acc},(rowA l W y x k acc).1 = acc.1 + k
 | 0,x,acc => rfl
 | k + 1,x,acc => by rw [rowA_succ,rowA_n]; show acc.1 + 1 + k = _; omega
theorem rowsA_n {l : List Pix} {W x n : Nat} : ∀ {k y : Nat} {acc : Acc},(rowsA l W x n y k acc).1 = acc.1 + k * n
 | 0,y,acc => by rw [Nat.zero_mul]; rfl
 | k + 1,y,acc => by rw [rowsA_succ,rowsA_n,rowA_n,Nat.add_mul]; omega
def AccOk (a : Acc) : Prop := a.1 <= 1000 ∧ (0 <= a.2.1 ∧ a.2.1 <= 255 * a.1) ∧ (0 <= a.2.2.1 ∧ a.2.2.1 <= 255 * a.1) ∧ (0 <= a.2.2.2.1 ∧ a.2.2.2.1 <= 255 * a.1) ∧ (0 <= a.2.2.2.2 ∧ a.2.2.2.2 <= 255 * a.1)
theorem add_ok {a : Acc} {p : Pix} (h : AccOk a) (hp : pixOk p = true) (hn : a.1 < 1000) : AccOk (addA a p) := by
 obtain ⟨n,r,g,b,e⟩ := a
 obtain ⟨h1,h2,h3,h4⟩ := pixOk_iff.1 hp
 obtain ⟨k0,k1,k2,k3,k4⟩ := h
 dsimp only at k0 k1 k2 k3 k4 hn
 unfold addA AccOk
 dsimp only
 rw [wi_id (x := r + p.1) (by omega) (by omega),wi_id (x := g + p.2.1) (by omega) (by omega),wi_id (x := b + p.2.2.1) (by omega) (by omega),wi_id (x := e + p.2.2.2) (by omega) (by omega)]
 omega
theorem row_ok {l : List Pix} {W H y : Nat} (hl : l.length = H * W) (hp : l.all pixOk = true) (hy : y < H) : ∀ {k x : Nat} {acc : Acc},x + k <= W -> acc.1 + k <= 1000 -> AccOk acc -> AccOk (rowA l W y x k acc)
 | 0,x,acc,_,_,h => h
 | k + 1,x,acc,hx,hn,h => by
  rw [rowA_succ]
  have hm : y * W + W <= H * W := by rw [<- succ_mul']; exact Nat.mul_le_mul_right W hy
  exact row_ok hl hp hy (by omega) (by show acc.1 + 1 + k <= _; omega) (add_ok h (all_get hp (by omega)) (by omega))
theorem rows_ok {l : List Pix} {W H x n : Nat} (hl : l.length = H * W) (hp : l.all pixOk = true) (hx : x + n <= W) (hn : n <= 6) : ∀ {k y : Nat} {acc : Acc},y + k <= H -> acc.1 + 6 * k <= 1000 -> AccOk acc -> AccOk (rowsA l W x n y k acc)
 | 0,y,acc,_,_,h => h
 | k + 1,y,acc,hy,hk,h => by
  rw [rowsA_succ]
  exact rows_ok hl hp hx hn (by omega) (by rw [rowA_n]; omega) (row_ok hl hp (by omega) hx (by omega) h)
theorem wide_ok {x W : Nat} (hx : x < W) (hW : W <= 6) : x - 1 + wide x W <= W ∧ 1 <= wide x W ∧ wide x W <= 6 ∧ x - 1 + wide x W = min (x + 1) (W - 1) + 1 := by
 unfold wide; omega
theorem div_ok {s : Int} {n : Nat} (h0 : 0 <= s) (h1 : s <= 255 * n) (hn : 1 <= n) (h2 : n <= 1000) : 0 <= wi (s.tdiv n) ∧ wi (s.tdiv n) <= 255 := by
 rw [td h0]
 have a : 0 <= s / (n : Int) := Int.ediv_nonneg h0 (by omega)
 have b : s / (n : Int) <= 255 := Int.ediv_le_of_le_mul (by omega) h1
 rw [wi_id (by omega) (by omega)]
 exact ⟨a,b⟩
theorem mean_ok {l : List Pix} {W H x y : Nat} (hl : l.length = H * W) (hp : l.all pixOk = true) (hx : x < W) (hy : y < H) (hW : W <= 6) (hH : H <= 6) : pixOk (meanP l W H x y) = true := by
 obtain ⟨a1,a2,a3,a4⟩ := wide_ok hx hW
 obtain ⟨b1,b2,b3,b4⟩ := wide_ok hy hH
 have h := rows_ok hl hp a1 a3 b1 (acc := (0,0,0,0,0)) (by show 0 + _ <= _; omega) (by unfold AccOk; dsimp only; omega)
 have hn := rowsA_n (l := l) (W := W) (x := x - 1) (n := wide x W) (k := wide y H) (y := y - 1) (acc := (0,0,0,0,0))
 have h1 : 1 <= wide y H * wide x W := Nat.mul_le_mul b2 a2
 unfold meanP
 generalize rowsA l W (x - 1) (wide x W) (y - 1) (wide y H) (0,0,0,0,0) = a at *
 obtain ⟨k0,k1,k2,k3,k4⟩ := h
 have hn : 1 <= a.1 := by rw [hn]; show 1 <= 0 + _; omega
 exact pixOk_iff.2 ⟨div_ok k1.1 k1.2 hn k0,div_ok k2.1 k2.2 hn k0,div_ok k3.1 k3.2 hn k0,div_ok k4.1 k4.2 hn k0⟩
theorem lo1 {x : Nat} (h : x < 1000) : (if wi ((x : Int) - 1) > 0 then wi ((x : Int) - 1) else 0) = ((x - 1 : Nat) : Int) := by
 rw [wi_id (by omega) (by omega)]; split <;> omega
theorem lo2 {x : Nat} (h : x < 1000) : (if 0 > wi ((x : Int) - 1) then 0 else wi ((x : Int) - 1)) = ((x - 1 : Nat) : Int) := by
 rw [wi_id (by omega) (by omega)]; split <;> omega
theorem hi1 {x W : Nat} (h : x < 1000) (hW : 1 <= W) (h6 : W <= 6) : (if wi ((x : Int) + 1) < wi ((W : Int) - 1) then wi ((x : Int) + 1) else wi ((W : Int) - 1)) = ((min (x + 1) (W - 1) : Nat) : Int) := by
 rw [wi_id (x := (x : Int) + 1) (by omega) (by omega),wi_id (x := (W : Int) - 1) (by omega) (by omega)]; split <;> omega
theorem hi2 {x W : Nat} (h : x < 1000) (hW : 1 <= W) (h6 : W <= 6) : (if wi ((W : Int) - 1) < wi ((x : Int) + 1) then wi ((W : Int) - 1) else wi ((x : Int) + 1)) = ((min (x + 1) (W - 1) : Nat) : Int) := by
 rw [wi_id (x := (x : Int) + 1) (by omega) (by omega),wi_id (x := (W : Int) - 1) (by omega) (by omega)]; split <;> omega
section spec
variable {l : List Pix} {W H x y : Nat}
theorem L107b (hl : l.length = H * W) (hx : x < W) (hW : W <= 6) (hH : H <= 6) (w y' : Nat) (hy' : w < H) (z0 z1 z2 z3 : Int) {v : Pix} : ∀ (k xx : Nat) (a : Acc),xx + k = min (x + 1) (W - 1) + 1 -> a.1 + k <= 1000 ->
  l107 (q107_0 x y' ((rowA l W w xx k a).1 : Nat) ((w + 1 : Nat) : Int) W H l z0 z1 z2 z3 (rowA l W w xx k a).2.1 (rowA l W w xx k a).2.2.1 (rowA l W w xx k a).2.2.2.1 (rowA l W w xx k a).2.2.2.2) = some v ->
  l107 (q107_1 x y' (a.1 : Nat) w (xx : Nat) W H l z0 z1 z2 z3 a.2.1 a.2.2.1 a.2.2.2.1 a.2.2.2.2) = some v
 | 0,xx,a,hk,hn,h => by
  refine eL ((c107_1 dd l107 ..).trans ?_)
  rw [hi1 (by omega) (by omega) hW,cond_no (by omega),wi_nat (by omega)]
  exact h
 | k + 1,xx,a,hk,hn,h => by
  have hm := mulb hy' hH hW
  have hln := lnE l
  refine eL ((c107_1 dd l107 ..).trans ?_)
  rw [hi1 (by omega) (by omega) hW,cond_yes (by omega),nmul,wi_id (x := ((w * W : Nat) : Int)) (by omega) (by omega),show ((w * W : Nat) : Int) + (xx : Int) = ((w * W + xx : Nat) : Int) by omega,wi_id (x := ((w * W + xx : Nat) : Int)) (by omega) (by omega),if_pos (by omega),if_pos (by omega),wi_nat (by omega),wi_nat (by omega)]
  exact L107b hl hx hW hH w y' hy' z0 z1 z2 z3 k (xx + 1) (addA a (at' l W xx w)) (by omega) (by show a.1 + 1 + k <= _; omega) h
theorem L107a (hl : l.length = H * W) (hx : x < W) (hy : y < H) (hW : W <= 6) (hH : H <= 6) (z0 z1 z2 z3 : Int) : ∀ (k yy : Nat) (a : Acc),yy + k = min (y + 1) (H - 1) + 1 -> a.1 + 6 * k <= 1000 -> 1 <= a.1 + k ->
  l107 (q107_0 x y (a.1 : Nat) yy W H l z0 z1 z2 z3 a.2.1 a.2.2.1 a.2.2.2.1 a.2.2.2.2) = some (finA (rowsA l W (x - 1) (wide x W) yy k a))
 | 0,yy,a,hk,hn,h1 => by
  refine eL ((c107_0 dd l107 ..).trans ?_)
  rw [hi1 (by omega) (by omega) hH,cond_no (by omega),if_pos (by omega),if_pos (by omega),if_pos (by omega),if_pos (by omega)]
  rfl
 | k + 1,yy,a,hk,hn,h1 => by
  obtain ⟨a1,a2,a3,a4⟩ := wide_ok hx hW
  refine eL ((c107_0 dd l107 ..).trans ?_)
  rw [hi1 (by omega) (by omega) hH,cond_yes (by omega),lo1 (by omega)]
  refine L107b hl hx hW hH yy y (by omega) z0 z1 z2 z3 (wide x W) (x - 1) a a4 (by omega) ?_
  rw [rowsA_succ]
  exact L107a hl hx hy hW hH z0 z1 z2 z3 k (yy + 1) _ (by omega) (by rw [rowA_n]; omega) (by rw [rowA_n]; omega)
theorem D107 (hl : l.length = H * W) (hx : x < W) (hy : y < H) (hW : W <= 6) (hH : H <= 6) : r107 dd (((W : Int),(H : Int),l),(x : Int),(y : Int)) = some (meanP l W H x y) := by
 obtain ⟨b1,b2,b3,b4⟩ := wide_ok hy hH
 refine dL rfl ((b107 dd l107 ..).trans ?_)
 rw [lo1 (by omega)]
 exact L107a hl hx hy hW hH 0 0 0 0 (wide y H) (y - 1) (0,0,0,0,0) b4 (by show 0 + _ <= _; omega) (by show 1 <= 0 + _; omega)
end spec
end T
end
section
namespace T
open Go Go.E Go.Proofs
section impl
variable {l : List Pix} {W H : Nat}
noncomputable abbrev Q2 (l : List Pix) (W H x y : Nat) (z0 z1 z2 z3 c0 c1 d0 d1 : Int) (out : List Pix) (yy : Int) (a : Acc) : St :=
 q74_2 x y (a.1 : Nat) yy W H y ((y * W : Nat) : Int) (((y + 1) * W : Nat) : Int) H y W x ((y * W : Nat) : Int) (((y + 1) * W : Nat) : Int) x W H l z0 z1 z2 z3 a.2.1 a.2.2.1 a.2.2.2.1 a.2.2.2.2 c0 c1 out d0 d1
noncomputable abbrev Q3 (l : List Pix) (W H x y : Nat) (z0 z1 z2 z3 c0 c1 d0 d1 : Int) (out : List Pix) (yy xx : Int) (a : Acc) : St :=
 q74_3 x y (a.1 : Nat) yy xx W H y ((y * W : Nat) : Int) (((y + 1) * W : Nat) : Int) H y W x ((y * W : Nat) : Int) (((y + 1) * W : Nat) : Int) x W H l z0 z1 z2 z3 a.2.1 a.2.2.1 a.2.2.2.1 a.2.2.2.2 c0 c1 out d0 d1
theorem L74c (hl : l.length = H * W) (hW : W <= 6) (hH : H <= 6) {x y : Nat} (hx : x < W) (yy : Nat) (hy' : yy < H) (z0 z1 z2 z3 c0 c1 d0 d1 : Int) (out : List Pix) {v : Ras × Bool} : ∀ (k xx : Nat) (a : Acc),xx + k = min (x + 1) (W - 1) + 1 -> a.1 + k <= 1000 ->
  l74 (Q2 l W H x y z0 z1 z2 z3 c0 c1 d0 d1 out ((yy + 1 : Nat) : Int) (rowA l W yy xx k a)) = some v -> l74 (Q3 l W H x y z0 z1 z2 z3 c0 c1 d0 d1 out yy xx a) = some v
 | 0,xx,a,hk,hn,h => by
  refine eL ((c74_3 dd l74 ..).trans ?_)
  rw [hi2 (by omega) (by omega) hW,cond_no (by omega),wi_nat (by omega)]
  exact h
 | k + 1,xx,a,hk,hn,h => by
  refine eL ((c74_3 dd l74 ..).trans ?_)
  rw [hi2 (by omega) (by omega) hW,cond_yes (by omega),D43 hl hH hW (show xx < W by omega) hy',Option.bind_some,wi_nat (by omega),wi_nat (by omega)]
  exact L74c hl hW hH hx yy hy' z0 z1 z2 z3 c0 c1 d0 d1 out k (xx + 1) (addA a (at' l W xx yy)) (by omega) (by show a.1 + 1 + k <= _; omega) h
theorem L74b (hl : l.length = H * W) (hW : W <= 6) (hH : H <= 6) {x y : Nat} (hx : x < W) (hy : y < H) (z0 z1 z2 z3 c0 c1 d0 d1 : Int) (out : List Pix) {v : Ras × Bool} : ∀ (k yy : Nat) (a : Acc),yy + k = min (y + 1) (H - 1) + 1 -> a.1 + 6 * k <= 1000 -> 1 <= a.1 + k ->
  l74 (q74_1 W H y ((y * W : Nat) : Int) (((y + 1) * W : Nat) : Int) H y W ((x + 1 : Nat) : Int) W H l c0 c1 (out.set (y * W + x) (finA (rowsA l W (x - 1) (wide x W) yy k a))) d0 d1) = some v -> l74 (Q2 l W H x y z0 z1 z2 z3 c0 c1 d0 d1 out yy a) = some v
 | 0,yy,a,hk,hn,h1,h => by
  have e3 := succ_mul' (y := y) (W := W)
  refine eL ((c74_2 dd l74 ..).trans ?_)
  rw [hi2 (by omega) (by omega) hH,cond_no (by omega),if_pos (by omega),if_pos (by omega),if_pos (by omega),if_pos (by omega),if_pos (by omega),if_pos (by omega),wi_nat (by omega),show (((y * W : Nat) : Int) + (x : Int)).toNat = y * W + x by omega]
  exact h
 | k + 1,yy,a,hk,hn,h1,h => by
  obtain ⟨a1,a2,a3,a4⟩ := wide_ok hx hW
  refine eL ((c74_2 dd l74 ..).trans ?_)
  rw [hi2 (by omega) (by omega) hH,cond_yes (by omega),lo2 (by omega)]
  refine L74c hl hW hH hx yy (by omega) z0 z1 z2 z3 c0 c1 d0 d1 out (wide x W) (x - 1) a a4 (by omega) ?_
  rw [rowsA_succ] at h
  exact L74b hl hW hH hx hy z0 z1 z2 z3 c0 c1 d0 d1 out k (yy + 1) _ (by omega) (by rw [rowA_n]; omega) (by rw [rowA_n]; omega) h
theorem D74 (hl : l.length = H * W) (hW : W <= 6) (hH : H <= 6) : r74 dd ((W : Int),(H : Int),l) = some (((W : Int),(H : Int),genL (H * W) (mk W (meanP l W H))),true) := by
 have hm := mul36 hH hW
 have hw : wi ((W : Int) * H) = ((H * W : Nat) : Int) := by rw [nmul,Nat.mul_comm]; exact wi_id (by omega) (by omega)
 refine dL rfl ((b74 dd l74 ..).trans ?_); show (_ : Option (Rs × Bool)) = some _
 rw [hw,if_pos (by omega),if_pos (by omega),if_pos (by omega),Int.toNat_natCast]
 refine fill_all (mk W (meanP l W H)) (fun y l' => l74 (q74_0 W H H (y : Nat) W H l 0 0 l' 0 0) = some (((W : Int),(H : Int),genL (H * W) (mk W (meanP l W H))),true)) (fun y x l' => l74 (q74_1 W H (y : Nat) (((y : Nat) * W : Nat) : Int) ((((y : Nat) + 1) * W : Nat) : Int) H (y : Nat) W (x : Nat) W H l 0 0 l' 0 0) = some (((W : Int),(H : Int),genL (H * W) (mk W (meanP l W H))),true)) ?_ ?_ ?_ ?_
 ·intro y l' hy hl hq
  obtain ⟨w1,w2⟩ := row_wi hy hH hW
  have hm := mulb hy hH hW
  have e3 := succ_mul' (y := y) (W := W)
  have hln := lnE l'
  refine eL ((c74_0 dd l74 ..).trans ?_); show (_ : Option (Rs × Bool)) = some _
  rw [cond_yes (by omega),w1,w2,if_pos (by omega),if_pos (by omega),if_pos (by omega),Int.toNat_natCast,Int.toNat_natCast,row_ln hy hl]
  exact hq
 ·intro y x l' hy hx hl' hq
  obtain ⟨b1,b2,b3,b4⟩ := wide_ok hy hH
  rw [mk_at hx] at hq
  refine eL ((c74_1 dd l74 ..).trans ?_); show (_ : Option (Rs × Bool)) = some _
  rw [cond_yes (by omega),lo2 (by omega)]
  exact L74b hl hW hH hx hy 0 0 0 0 0 0 0 0 l' (wide y H) (y - 1) (0,0,0,0,0) b4 (by show 0 + _ <= _; omega) (by show 1 <= 0 + _; omega) hq
 ·intro y l' hy hq
  refine eL ((c74_1 dd l74 ..).trans ?_); show (_ : Option (Rs × Bool)) = some _
  rw [cond_no (by omega),wi_nat (by omega)]
  exact hq
 ·refine eL ((c74_0 dd l74 ..).trans ?_); show (_ : Option (Rs × Bool)) = some _
  rw [cond_no (by omega)]
end impl
end T
end
section
namespace T
open Go Go.E Go.Proofs
def mkR (W H : Nat) (f : Nat -> Nat -> Pix) : Ras := ((W : Int),(H : Int),genL (H * W) (mk W f))
theorem app_len {l : List Pix} {W H y x : Nat} (hl : l.length = y * W + x) (hy : y < H) (hx : x < W) (hH : H <= 6) (hW : W <= 6) : (l.length + 1) * 32 <= 140737488355328 := by
 have := mulb hy hH hW
 omega
theorem D83 {l : List Pix} {V U W H a b : Nat} (hs : l.length = U * V) (hV : V <= 6) (hU : U <= 6) (hW : W <= 6) (hH : H <= 6) (ha : a + W <= V) (hb : b + H <= U) (k : Int) : r83 dd (((V : Int),(U : Int),l),k,(a : Int),(b : Int),(W : Int),(H : Int)) = some (mkR W H fun x y => at' l V (a + x) (b + y)) := by
 refine dL rfl ((b83 dd l83 ..).trans ?_)
 refine app_all (W := W) (H := H) (mk W fun x y => at' l V (a + x) (b + y)) (fun y l' => l83 (q83_0 (y : Nat) V U l k a b W H 0 0 W H l') = some (mkR W H fun x y => at' l V (a + x) (b + y))) (fun y x l' => l83 (q83_1 (y : Nat) (x : Nat) V U l k a b W H 0 0 W H l') = some (mkR W H fun x y => at' l V (a + x) (b + y))) ?_ ?_ ?_ ?_
 ·intro y l' hy hl hq
  refine eL ((c83_0 dd l83 ..).trans ?_)
  rw [cond_yes (by omega)]
  exact hq
 ·intro y x l' hy hx hl hq
  have hm := mulb (show b + y < U by omega) hU hV
  have hln := lnE l
  rw [mk_at hx] at hq
  refine eL ((c83_1 dd l83 ..).trans ?_)
  rw [cond_yes (by omega),wi_id (x := (b : Int) + y) (by omega) (by omega),show (b : Int) + y = ((b + y : Nat) : Int) by omega,nmul,wi_id (x := (((b + y) * V : Nat) : Int)) (by omega) (by omega),wi_id (x := (((b + y) * V : Nat) : Int) + a) (by omega) (by omega),show (((b + y) * V : Nat) : Int) + a + x = (((b + y) * V + (a + x) : Nat) : Int) by omega,wi_id (x := (((b + y) * V + (a + x) : Nat) : Int)) (by omega) (by omega),if_pos (by omega),if_pos (by omega),if_pos (app_len hl hy hx hH hW),wi_nat (by omega)]
  exact hq
 ·intro y l' hy hq
  refine eL ((c83_1 dd l83 ..).trans ?_)
  rw [cond_no (by omega),wi_nat (by omega)]
  exact hq
 ·refine eL ((c83_0 dd l83 ..).trans ?_)
  rw [cond_no (by omega)]
  rfl
theorem D84 {l : List Pix} {W H : Nat} (hs : l.length = H * W) (hW : W <= 6) (hH : H <= 6) : r84 dd ((W : Int),(H : Int),l) = some (mkR W H fun x y => at' l W (W - 1 - x) y) := by
 refine dL rfl ((b84 dd l84 ..).trans ?_)
 refine app_all (W := W) (H := H) (mk W fun x y => at' l W (W - 1 - x) y) (fun y l' => l84 (q84_0 (y : Nat) W H l 0 0 W H l') = some (mkR W H fun x y => at' l W (W - 1 - x) y)) (fun y x l' => l84 (q84_1 (y : Nat) ((W : Int) - 1 - (x : Nat)) W H l 0 0 W H l') = some (mkR W H fun x y => at' l W (W - 1 - x) y)) ?_ ?_ ?_ ?_
 ·intro y l' hy hl hq
  refine eL ((c84_0 dd l84 ..).trans ?_)
  rw [cond_yes (by omega),wi_id (x := (W : Int) - 1) (by omega) (by omega),show (W : Int) - 1 = (W : Int) - 1 - ((0 : Nat) : Int) by omega]
  exact hq
 ·intro y x l' hy hx hl hq
  have hm := mulb hy hH hW
  have hln := lnE l
  rw [mk_at hx] at hq
  refine eL ((c84_1 dd l84 ..).trans ?_)
  rw [cond_yes (by omega),nmul,wi_id (x := ((y * W : Nat) : Int)) (by omega) (by omega),show ((y * W : Nat) : Int) + ((W : Int) - 1 - (x : Int)) = ((y * W + (W - 1 - x) : Nat) : Int) by omega,wi_id (x := ((y * W + (W - 1 - x) : Nat) : Int)) (by omega) (by omega),if_pos (by omega),if_pos (by omega),if_pos (app_len hl hy hx hH hW),wi_id (x := (W : Int) - 1 - x - 1) (by omega) (by omega),show (W : Int) - 1 - x - 1 = (W : Int) - 1 - ((x + 1 : Nat) : Int) by omega]
  exact hq
 ·intro y l' hy hq
  refine eL ((c84_1 dd l84 ..).trans ?_)
  rw [cond_no (by omega),wi_nat (by omega)]
  exact hq
 ·refine eL ((c84_0 dd l84 ..).trans ?_)
  rw [cond_no (by omega)]
  rfl
theorem D85 {l : List Pix} {W H : Nat} (hs : l.length = W * H) (hW : W <= 6) (hH : H <= 6) : r85 dd ((H : Int),(W : Int),l) = some (mkR W H fun x y => at' l H y (W - 1 - x)) := by
 refine dL rfl ((b85 dd l85 ..).trans ?_)
 refine app_all (W := W) (H := H) (mk W fun x y => at' l H y (W - 1 - x)) (fun y l' => l85 (q85_0 (y : Nat) H W l 0 0 W H l') = some (mkR W H fun x y => at' l H y (W - 1 - x))) (fun y x l' => l85 (q85_1 (y : Nat) (x : Nat) H W l 0 0 W H l') = some (mkR W H fun x y => at' l H y (W - 1 - x))) ?_ ?_ ?_ ?_
 ·intro y l' hy hl hq
  refine eL ((c85_0 dd l85 ..).trans ?_)
  rw [cond_yes (by omega)]
  exact hq
 ·intro y x l' hy hx hl hq
  have hm := mulb (show W - 1 - x < W by omega) hW hH
  have hln := lnE l
  rw [mk_at hx] at hq
  refine eL ((c85_1 dd l85 ..).trans ?_)
  rw [cond_yes (by omega),wi_id (x := (W : Int) - 1) (by omega) (by omega),wi_id (x := (W : Int) - 1 - x) (by omega) (by omega),show (W : Int) - 1 - x = ((W - 1 - x : Nat) : Int) by omega,nmul,wi_id (x := (((W - 1 - x) * H : Nat) : Int)) (by omega) (by omega),show (((W - 1 - x) * H : Nat) : Int) + (y : Int) = (((W - 1 - x) * H + y : Nat) : Int) by omega,wi_id (x := (((W - 1 - x) * H + y : Nat) : Int)) (by omega) (by omega),if_pos (by omega),if_pos (by omega),if_pos (app_len hl hy hx hH hW),wi_nat (by omega)]
  exact hq
 ·intro y l' hy hq
  refine eL ((c85_1 dd l85 ..).trans ?_)
  rw [cond_no (by omega),wi_nat (by omega)]
  exact hq
 ·refine eL ((c85_0 dd l85 ..).trans ?_)
  rw [cond_no (by omega)]
  rfl
theorem D86 {l : List Pix} {V U W H : Nat} (hs : l.length = U * V) (hV1 : 1 <= V) (hV : V <= 6) (hU1 : 1 <= U) (hU : U <= 6) (hW : W <= 6) (hH : H <= 6) (k c d : Int) : r86 dd (((V : Int),(U : Int),l),k,(W : Int),(H : Int),c,d) = some (mkR W H fun x y => at' l V ((2 * x + 1) * V / (2 * W)) ((2 * y + 1) * U / (2 * H))) := by
 refine dL rfl ((b86 dd l86 ..).trans ?_)
 refine app_all (W := W) (H := H) (mk W fun x y => at' l V ((2 * x + 1) * V / (2 * W)) ((2 * y + 1) * U / (2 * H))) (fun y l' => l86 (q86_0 (y : Nat) V U l k W H c d 0 0 W H l') = some (mkR W H fun x y => at' l V ((2 * x + 1) * V / (2 * W)) ((2 * y + 1) * U / (2 * H)))) (fun y x l' => l86 (q86_1 (y : Nat) (x : Nat) V U l k W H c d 0 0 W H l') = some (mkR W H fun x y => at' l V ((2 * x + 1) * V / (2 * W)) ((2 * y + 1) * U / (2 * H)))) ?_ ?_ ?_ ?_
 ·intro y l' hy hl hq
  refine eL ((c86_0 dd l86 ..).trans ?_)
  rw [cond_yes (by omega)]
  exact hq
 ·intro y x l' hy hx hl hq
  obtain ⟨s1,s2,s3,s4⟩ := size_wi hx hW hV1 hV
  obtain ⟨t1,t2,t3,t4⟩ := size_wi hy hH hU1 hU
  rw [mk_at hx] at hq
  refine eL ((c86_1 dd l86 ..).trans ?_)
  rw [cond_yes (by omega),s1,t1,if_pos t2,if_pos s2,s3,t3]
  generalize (2 * x + 1) * V / (2 * W) = a at *
  generalize (2 * y + 1) * U / (2 * H) = b at *
  have hm := mulb t4 hU hV
  have hln := lnE l
  rw [nmul,wi_id (x := ((b * V : Nat) : Int)) (by omega) (by omega),show ((b * V : Nat) : Int) + (a : Int) = ((b * V + a : Nat) : Int) by omega,wi_id (x := ((b * V + a : Nat) : Int)) (by omega) (by omega),if_pos (by omega),if_pos (by omega),if_pos (app_len hl hy hx hH hW),wi_nat (by omega)]
  exact hq
 ·intro y l' hy hq
  refine eL ((c86_1 dd l86 ..).trans ?_)
  rw [cond_no (by omega),wi_nat (by omega)]
  exact hq
 ·refine eL ((c86_0 dd l86 ..).trans ?_)
  rw [cond_no (by omega)]
  rfl
def eachF (o : Op) (l : List Pix) (W H x y : Nat) : Pix := if o.1 = 5 then grayP (at' l W x y) else if o.1 = 6 then meanP l W H x y else flatP o (at' l W x y)
theorem L87 {l : List Pix} {W H : Nat} (hs : l.length = H * W) (hW1 : 1 <= W) (hW : W <= 6) (hH : H <= 6) (o : Op) : ∀ (k i : Nat),i + k = H * W ->
  l87 (q87_0 (i : Nat) W H l o.1 o.2.1 o.2.2.1 o.2.2.2.1 o.2.2.2.2 0 0 W H (genL i (mk W (eachF o l W H)))) = some (mkR W H (eachF o l W H))
 | 0,i,h => by
  have hln := lnE l
  refine eL ((c87_0 dd l87 ..).trans ?_)
  have : i = H * W := by omega
  subst this
  rw [cond_no (by omega)]
  rfl
 | k + 1,i,h => by
  have hm := mul36 hH hW
  have hln := lnE l
  have hg : (genL i (mk W (eachF o l W H))).length = i := genL_len
  have hi : i / W * W + i % W = i := by rw [Nat.mul_comm]; exact Nat.div_add_mod i W
  have hx : i % W < W := Nat.mod_lt _ hW1
  have hy : i / W < H := Nat.div_lt_of_lt_mul (by rw [Nat.mul_comm]; omega)
  have ha : gt l (i : Int) z4 = at' l W (i % W) (i / W) := by show _ = gt l ((i / W * W + i % W : Nat) : Int) z4; rw [hi]
  have ih := L87 hs hW1 hW hH o k (i + 1) (by omega)
  rw [genL_succ] at ih
  have hd := D107 hs hx hy hW hH
  refine eL ((c87_0 dd l87 ..).trans ?_)
  rw [cond_yes (by omega),wi_nat (by omega)]
  by_cases h5 : o.1 = 5
  ·rw [ceq_yes h5,if_pos (by omega),if_pos (by omega),D106,Option.bind_some,if_pos (by omega)]
   have : mk W (eachF o l W H) i = grayP (gt l i z4) := by unfold mk eachF; rw [if_pos h5,ha]
   rw [this] at ih
   exact ih
  ·rw [ceq_no h5]
   by_cases h6 : o.1 = 6
   ·rw [ceq_yes h6,if_pos (by omega),if_pos (by omega),tm (by omega),td (by omega), <- Int.natCast_emod, <- Int.natCast_ediv]
    have e1 : wi ((i / W : Nat) : Int) = ((i / W : Nat) : Int) := by
     generalize i / W = q at *
     exact wi_id (by omega) (by omega)
    rw [e1,hd,Option.bind_some,if_pos (by omega)]
    have : mk W (eachF o l W H) i = meanP l W H (i % W) (i / W) := by unfold mk eachF; rw [if_neg h5,if_pos h6]
    rw [this] at ih
    exact ih
   ·rw [ceq_no h6,if_pos (by omega),if_pos (by omega),D108,Option.bind_some,if_pos (by omega)]
    have : mk W (eachF o l W H) i = flatP o (gt l i z4) := by unfold mk eachF; rw [if_neg h5,if_neg h6,ha]
    rw [this] at ih
    exact ih
theorem D87 {l : List Pix} {W H : Nat} (hs : l.length = H * W) (hW1 : 1 <= W) (hW : W <= 6) (hH : H <= 6) (o : Op) : r87 dd (((W : Int),(H : Int),l),o) = some (mkR W H (eachF o l W H)) := by
 obtain ⟨k,a,b,c,e⟩ := o
 refine dL rfl ((b87 dd l87 ..).trans ?_)
 exact L87 hs hW1 hW hH (k,a,b,c,e) (H * W) 0 (by omega)
end T
end
section
namespace T
open Go Go.E Go.Proofs
def opP (o : Op) (l : List Pix) (W H : Nat) : Option Ras :=
 if o.1 = 1 then if o.2.1 + o.2.2.2.1 > (W : Int) then none else if o.2.2.1 + o.2.2.2.2 > (H : Int) then none else some (mkR o.2.2.2.1.toNat o.2.2.2.2.toNat fun x y => at' l W (o.2.1.toNat + x) (o.2.2.1.toNat + y))
 else if o.1 = 2 then some (mkR W H fun x y => at' l W (W - 1 - x) y)
 else if o.1 = 3 then some (mkR W H fun x y => at' l W x (H - 1 - y))
 else if o.1 = 4 then some (mkR H W fun x y => at' l W y (H - 1 - x))
 else if o.1 = 7 then some (mkR o.2.1.toNat o.2.2.1.toNat fun x y => at' l W ((2 * x + 1) * W / (2 * o.2.1.toNat)) ((2 * y + 1) * H / (2 * o.2.2.1.toNat)))
 else some (mkR W H (eachF o l W H))
def opsP : List Op -> Ras -> Option Ras
 | [],r => some r
 | o :: os,r => (opP o r.2.2 r.1.toNat r.2.1.toNat).bind (opsP os)
def resP : Option Ras -> Ras × Bool
 | none => ((0,0,[]),false)
 | some r => (r,true)
inductive OpC : Op -> Prop where
 | crop (a b c e : Nat) (ha : a <= 5) (hb : b <= 5) (hc1 : 1 <= c) (hc : c <= 6) (he1 : 1 <= e) (he : e <= 6) : OpC (1,a,b,c,e)
 | flipX : OpC (2,0,0,0,0)
 | flipY : OpC (3,0,0,0,0)
 | turn : OpC (4,0,0,0,0)
 | gray : OpC (5,0,0,0,0)
 | mean : OpC (6,0,0,0,0)
 | size (a b : Nat) (ha1 : 1 <= a) (ha : a <= 6) (hb1 : 1 <= b) (hb : b <= 6) : OpC (7,a,b,0,0)
 | flat (a b c : Int) (ha : 0 <= a ∧ a <= 255) (hb : 0 <= b ∧ b <= 255) (hc : 0 <= c ∧ c <= 255) : OpC (8,a,b,c,0)
theorem op_c {o : Op} (h : opOk o = true) : OpC o := by
 obtain ⟨k,a,b,c,e⟩ := o
 unfold opOk at h
 dsimp only at h
 split at h
 ·rename_i hk
  simp only [Bool.and_eq_true,inR_iff] at h
  obtain ⟨h1,h2,h3,h4⟩ := h
  have := OpC.crop a.toNat b.toNat c.toNat e.toNat (by omega) (by omega) (by omega) (by omega) (by omega) (by omega)
  rw [Int.toNat_of_nonneg (by omega),Int.toNat_of_nonneg (by omega),Int.toNat_of_nonneg (by omega),Int.toNat_of_nonneg (by omega)] at this
  rw [hk]; exact this
 ·split at h
  ·rename_i hk
   simp only [Bool.and_eq_true,inR_iff,beq_iff_eq] at h
   obtain ⟨h1,h2,h3,h4⟩ := h
   have := OpC.size a.toNat b.toNat (by omega) (by omega) (by omega) (by omega)
   rw [Int.toNat_of_nonneg (by omega),Int.toNat_of_nonneg (by omega)] at this
   rw [hk,h3,h4]; exact this
  ·split at h
   ·rename_i hk
    simp only [Bool.and_eq_true,inR_iff,beq_iff_eq] at h
    obtain ⟨h1,h2,h3,h4⟩ := h
    rw [hk,h4]; exact OpC.flat a b c h1 h2 h3
   ·simp only [Bool.and_eq_true,inR_iff,beq_iff_eq] at h
    obtain ⟨h0,h1,h2,h3,h4⟩ := h
    subst h1 h2 h3 h4
    have : k = 2 ∨ k = 3 ∨ k = 4 ∨ k = 5 ∨ k = 6 := by omega
    rcases this with rfl | rfl | rfl | rfl | rfl
    ·exact .flipX
    ·exact .flipY
    ·exact .turn
    ·exact .gray
    ·exact .mean
theorem mkR_N {W H : Nat} {f : Nat -> Nat -> Pix} (hW1 : 1 <= W) (hW : W <= 6) (hH1 : 1 <= H) (hH : H <= 6) (hf : ∀ x y,x < W -> y < H -> pixOk (f x y) = true) : RasN (mkR W H f) W H := by
 refine ⟨rfl,rfl,hW1,hW,hH1,hH,genL_len,?_⟩
 refine List.all_eq_true.2 fun p hp => ?_
 have hp : p ∈ genL (H * W) (mk W f) := hp
 unfold genL at hp
 obtain ⟨i,hi,rfl⟩ := List.mem_map.1 hp
 have hi : i < H * W := by simpa using hi
 exact hf _ _ (Nat.mod_lt _ (by omega)) (Nat.div_lt_of_lt_mul (by rw [Nat.mul_comm]; exact hi))
theorem at_ok {l : List Pix} {W H x y : Nat} (hl : l.length = H * W) (hp : l.all pixOk = true) (hx : x < W) (hy : y < H) : pixOk (at' l W x y) = true := by
 have hm : y * W + W <= H * W := by rw [<- succ_mul']; exact Nat.mul_le_mul_right W hy
 exact all_get hp (by omega)
section eqs
variable {l : List Pix} {W H : Nat}
theorem opP_1 {a b c e : Nat} : opP (1,a,b,c,e) l W H = if (a : Int) + c > W then none else if (b : Int) + e > H then none else some (mkR c e fun x y => at' l W (a + x) (b + y)) := by
 unfold opP; rw [if_pos rfl]; rfl
end eqs
theorem opP_N {o : Op} {r : Ras} {W H : Nat} (ho : OpC o) (hn : RasN r W H) {r' : Ras} (h : opP o r.2.2 W H = some r') : ∃ W' H',RasN r' W' H' := by
 have hl := hn.len; have hp := hn.pix; have hW1 := hn.w1; have hW := hn.w6; have hH1 := hn.h1; have hH := hn.h6
 cases ho with
 | crop a b c e ha hb hc1 hc he1 he =>
  rw [opP_1] at h
  split at h
  ·cases h
  ·split at h
   ·cases h
   ·cases h
    exact ⟨c,e,mkR_N hc1 hc he1 he fun x y hx hy => at_ok hl hp (by omega) (by omega)⟩
 | flipX => cases h; exact ⟨W,H,mkR_N hW1 hW hH1 hH fun x y hx hy => at_ok hl hp (by omega) (by omega)⟩
 | flipY => cases h; exact ⟨W,H,mkR_N hW1 hW hH1 hH fun x y hx hy => at_ok hl hp (by omega) (by omega)⟩
 | turn => cases h; exact ⟨H,W,mkR_N hH1 hH hW1 hW fun x y hx hy => at_ok hl hp (by omega) (by omega)⟩
 | gray => cases h; exact ⟨W,H,mkR_N hW1 hW hH1 hH fun x y hx hy => gray_ok (at_ok hl hp (by omega) (by omega))⟩
 | mean => cases h; exact ⟨W,H,mkR_N hW1 hW hH1 hH fun x y hx hy => mean_ok hl hp hx hy hW hH⟩
 | size a b ha1 ha hb1 hb => cases h; exact ⟨a,b,mkR_N ha1 ha hb1 hb fun x y hx hy => at_ok hl hp (size_wi hx ha hW1 hW).2.2.2 (size_wi hy hb hH1 hH).2.2.2⟩
 | flat a b c ha hb hc => cases h; exact ⟨W,H,mkR_N hW1 hW hH1 hH fun x y hx hy => flat_ok (at_ok hl hp (by omega) (by omega)) ⟨ha,hb,hc⟩⟩
theorem D50 {o : Op} {r : Ras} {W H : Nat} (ho : OpC o) (hn : RasN r W H) : r50 dd (r,o) = some (resP (opP o r.2.2 W H)) := by
 obtain ⟨w,h,l⟩ := r
 have e1 : w = W := hn.w; have e2 : h = H := hn.h
 subst e1 e2
 have hl : l.length = H * W := hn.len; have hp := hn.pix; have hW1 := hn.w1; have hW := hn.w6; have hH1 := hn.h1; have hH := hn.h6
 cases ho with
 | crop a b c e ha hb hc1 hc he1 he =>
  refine dL rfl ((b50 dd l50 ..).trans ?_)
  rw [ceq_yes rfl,wi_id (x := (a : Int) + c) (by omega) (by omega),wi_id (x := (b : Int) + e) (by omega) (by omega),opP_1,cond_dec,cond_dec]
  split
  ·rfl
  ·split
   ·rfl
   ·rw [D83 hl hW hH hc he (by omega) (by omega),Option.bind_some]; rfl
 | flipX => refine dL rfl ((b50 dd l50 ..).trans ?_); rw [ceq_no (by decide),ceq_yes rfl,D84 hl hW hH,Option.bind_some]; rfl
 | flipY => refine dL rfl ((b50 dd l50 ..).trans ?_); rw [ceq_no (by decide),ceq_no (by decide),ceq_yes rfl,D78 hn,Option.bind_some]; rfl
 | turn => refine dL rfl ((b50 dd l50 ..).trans ?_); rw [ceq_no (by decide),ceq_no (by decide),ceq_no (by decide),ceq_yes rfl,D85 (W := H) (H := W) hl hH hW,Option.bind_some]; rfl
 | gray => refine dL rfl ((b50 dd l50 ..).trans ?_); rw [ceq_no (by decide),ceq_no (by decide),ceq_no (by decide),ceq_no (by decide),ceq_no (by decide),D87 hl hW1 hW hH,Option.bind_some]; rfl
 | mean => refine dL rfl ((b50 dd l50 ..).trans ?_); rw [ceq_no (by decide),ceq_no (by decide),ceq_no (by decide),ceq_no (by decide),ceq_no (by decide),D87 hl hW1 hW hH,Option.bind_some]; rfl
 | size a b ha1 ha hb1 hb => refine dL rfl ((b50 dd l50 ..).trans ?_); rw [ceq_no (by decide),ceq_no (by decide),ceq_no (by decide),ceq_no (by decide),ceq_yes rfl,D86 hl hW1 hW hH1 hH ha hb,Option.bind_some]; rfl
 | flat a b c ha hb hc => refine dL rfl ((b50 dd l50 ..).trans ?_); rw [ceq_no (by decide),ceq_no (by decide),ceq_no (by decide),ceq_no (by decide),ceq_no (by decide),D87 hl hW1 hW hH,Option.bind_some]; rfl
theorem D49 {r : Ras} {W H : Nat} (hn : RasN r W H) : r49 dd r = some r := by
 obtain ⟨w,h,l⟩ := r
 have hm := mul36 hn.h6 hn.w6
 have hl : l.length = H * W := hn.len
 refine dL rfl ((b49 dd l49 ..).trans ?_); show (_ : Option Rs) = some _
 rw [if_pos (by omega)]
theorem L27 {ops : List Op} (ho : ops.all opOk = true) (hlen : ops.length <= 5) (x y : Int) : ∀ (k i : Nat) (r : Ras) (W H : Nat),i + k = ops.length -> RasN r W H ->
  l27 (q27_0 ops i x y r.1 r.2.1 r.2.2) = some (resP (opsP (ops.drop i) r))
 | 0,i,r,W,H,hi,hn => by
  have hln := lnE ops
  refine eL ((c27_0 dd l27 ..).trans ?_)
  rw [cond_no (by omega),List.drop_eq_nil_of_le (by omega)]
  rfl
 | k + 1,i,r,W,H,hi,hn => by
  have hln := lnE ops
  have hlt : i < ops.length := by omega
  have hc := op_c (all_get (z := (0,0,0,0,0)) ho hlt)
  refine eL ((c27_0 dd l27 ..).trans ?_)
  rw [cond_yes (by omega),if_pos (by omega),if_pos (by omega),D50 hc hn,Option.bind_some,drop_get (z := (0,0,0,0,0)) hlt,wi_nat (by omega)]
  show _ = some (resP ((opP _ r.2.2 r.1.toNat r.2.1.toNat).bind (opsP _)))
  rw [hn.w,hn.h,Int.toNat_natCast,Int.toNat_natCast]
  cases hop : opP (gt ops (i : Int) (0,0,0,0,0)) r.2.2 W H with
  | none => rfl
  | some r' =>
   obtain ⟨W',H',hn'⟩ := opP_N hc hn hop
   exact L27 ho hlen x y k (i + 1) r' W' H' (by omega) hn'
theorem opsP_N : ∀ {ops : List Op} {r : Ras} {W H : Nat},(∀ o ∈ ops,OpC o) -> RasN r W H -> ∀ {r' : Ras},opsP ops r = some r' -> ∃ W' H',RasN r' W' H'
 | [],r,W,H,_,hn,r',h => by cases h; exact ⟨W,H,hn⟩
 | o :: os,r,W,H,ho,hn,r',h => by
  unfold opsP at h
  rw [hn.w,hn.h,Int.toNat_natCast,Int.toNat_natCast] at h
  cases hop : opP o r.2.2 W H with
  | none => rw [hop] at h; cases h
  | some r1 =>
   rw [hop] at h
   obtain ⟨W',H',hn'⟩ := opP_N (ho o (List.mem_cons_self ..)) hn hop
   exact opsP_N (fun x hx => ho x (List.mem_cons_of_mem _ hx)) hn' h
theorem D27 {r : Ras} {W H : Nat} {ops : List Op} (hn : RasN r W H) (ho : opsOk ops = true) : r27 dd (r,ops) = some (resP (opsP ops r)) := by
 obtain ⟨h1,h2⟩ := Bool.and_eq_true _ _ ▸ ho
 have h1 : ops.length <= 5 := of_decide_eq_true h1
 have hm := mul36 hn.h6 hn.w6
 have hl := hn.len
 have a1 := D48 r (by show r.2.2.length < _; omega)
 rw [ras_iff.2 ⟨W,H,hn⟩] at a1
 have a2 := D25 ops (by show ops.length < _; omega)
 rw [ho] at a2
 have a3 := D49 hn
 have a4 := L27 h2 h1 0 0 ops.length 0 r W H (by omega) hn
 obtain ⟨w,h,l⟩ := r
 refine dL rfl ((b27 dd l27 ..).trans ?_); show (_ : Option (Rs × Bool)) = some _
 rw [a1,Option.bind_some]
 show (bif false then _ else _) = _
 rw [cond_false,a2,Option.bind_some]
 show (bif false then _ else _) = _
 rw [cond_false,a3,Option.bind_some]
 exact a4
end T
end
section
namespace T
open Go Go.E Go.Proofs
theorem mulw {W H : Nat} (hW : W <= 6) (hH : H <= 6) : wi ((W : Int) * H) = ((H * W : Nat) : Int) := by
 have hm := mul36 hH hW
 rw [nmul,Nat.mul_comm]; exact wi_id (by omega) (by omega)
theorem same_cons {α : Type} {x : Option α} {l : List (Option α)} {r : α} (h : x = some r) (hl : ∀ y ∈ l,y = some r) : ∀ y ∈ x :: l,y = some r := fun y hy => by
 rcases List.mem_cons.1 hy with e | hy
 ·rw [e]; exact h
 ·exact hl y hy
theorem L23 {ops : List Op} (ho : ops.all opOk = true) (hlen : ops.length <= 5) (x y : Int) : ∀ (k i : Nat) (r : Ras) (W H : Nat),i + k = ops.length -> RasN r W H ->
  l23 (q23_2 ops (ln ops) i x y r.1 r.2.1 r.2.2) = some (resP (opsP (ops.drop i) r))
 | 0,i,r,W,H,hi,hn => by
  have hln := lnE ops
  refine eL ((c23_2 dd l23 ..).trans ?_)
  rw [cond_no (by omega),List.drop_eq_nil_of_le (by omega)]
  rfl
 | k + 1,i,r,W,H,hi,hn => by
  have hln := lnE ops
  have hlt : i < ops.length := by omega
  have hc := op_c (all_get (z := (0,0,0,0,0)) ho hlt)
  have ih := fun (r' : Ras) (W' H' : Nat) (hn' : RasN r' W' H') => L23 ho hlen x y k (i + 1) r' W' H' (by omega) hn'
  obtain ⟨w,h,l⟩ := r
  have e1 : w = W := hn.w; have e2 : h = H := hn.h
  subst e1 e2
  have hl : l.length = H * W := hn.len; have hp := hn.pix; have hW1 := hn.w1; have hW := hn.w6; have hH1 := hn.h1; have hH := hn.h6
  have hm := mul36 hH hW
  have hm' := mul36 hW hH
  rw [drop_get (z := (0,0,0,0,0)) hlt]
  show _ = some (resP ((opP _ l (W : Int).toNat (H : Int).toNat).bind (opsP _)))
  rw [Int.toNat_natCast,Int.toNat_natCast]
  refine eL ((c23_2 dd l23 ..).trans ?_)
  rw [cond_yes (by omega),if_pos (by omega),if_pos (by omega)]
  generalize gt ops (i : Int) (0,0,0,0,0) = o at *
  refine sameAll_of ?_ (same_cons ?_ (same_cons ?_ (same_cons ?_ (same_cons ?_ (same_cons ?_ (same_cons ?_ (same_cons ?_ (fun _ h => by cases h))))))))
  all_goals first
  | (
   unfold v23_0
   cases hc with
   | crop a b c e ha hb hc1 hc he1 he =>
    dsimp only
    rw [ceq_yes rfl,wi_id (x := (a : Int) + c) (by omega) (by omega),wi_id (x := (b : Int) + e) (by omega) (by omega),opP_1]
    by_cases g1 : (a : Int) + c > W
    ·rw [cond_yes g1,if_pos g1]; rfl
    ·rw [cond_no g1,if_neg g1]
     by_cases g2 : (b : Int) + e > H
     ·rw [cond_yes g2,if_pos g2]; rfl
     ·have hm2 := mul36 he hc
      rw [cond_no g2,if_neg g2,mulw hc he,if_pos (by omega),if_pos (by omega),if_pos (by omega),Int.toNat_natCast]
      exact F23_3 (a := a) (b := b) hc he hW1 hW hH1 hH hl (by omega) (by omega) _ _ _ i (by omega) (h := ih (mkR c e _) c e (mkR_N hc1 hc he1 he fun x y hx hy => at_ok hl hp (by omega) (by omega))) ..
   | flipX =>
    dsimp only
    rw [ceq_no (by decide),ceq_yes rfl,D67,Option.bind_some,mulw hW hH,if_pos (by omega),if_pos (by omega),if_pos (by omega),Int.toNat_natCast]
    exact F23_4 hW hH hl i (by omega) (h := ih (mkR W H _) W H (mkR_N hW1 hW hH1 hH fun x y hx hy => at_ok hl hp (by omega) (by omega))) ..
   | flipY =>
    dsimp only
    rw [ceq_no (by decide),ceq_no (by decide),ceq_yes rfl,D67,Option.bind_some,mulw hW hH,if_pos (by omega),if_pos (by omega),if_pos (by omega),Int.toNat_natCast]
    exact F23_5 hW hH hl i (by omega) (h := ih (mkR W H _) W H (mkR_N hW1 hW hH1 hH fun x y hx hy => at_ok hl hp (by omega) (by omega))) ..
   | turn =>
    dsimp only
    rw [ceq_no (by decide),ceq_no (by decide),ceq_no (by decide),ceq_yes rfl,D70,Option.bind_some,mulw hH hW,if_pos (by omega),if_pos (by omega),if_pos (by omega),Int.toNat_natCast]
    exact F23_6 hH hW hl i (by omega) (h := ih (mkR H W _) H W (mkR_N hH1 hH hW1 hW fun x y hx hy => at_ok hl hp (by omega) (by omega))) ..
   | gray =>
    dsimp only
    rw [ceq_no (by decide),ceq_no (by decide),ceq_no (by decide),ceq_no (by decide),ceq_yes rfl,mulw hW hH,if_pos (by omega),if_pos (by omega),if_pos (by omega),Int.toNat_natCast]
    exact F23_7 hW hH hl i (by omega) (h := ih (mkR W H _) W H (mkR_N hW1 hW hH1 hH fun x y hx hy => gray_ok (at_ok hl hp (by omega) (by omega)))) ..
   | mean =>
    dsimp only
    rw [ceq_no (by decide),ceq_no (by decide),ceq_no (by decide),ceq_no (by decide),ceq_no (by decide),ceq_yes rfl,D74 hl hW hH,Option.bind_some]
    show (bif false then _ else _) = _
    rw [cond_false,wi_nat (by omega)]
    exact ih (mkR W H _) W H (mkR_N hW1 hW hH1 hH fun x y hx hy => mean_ok hl hp hx hy hW hH)
   | size a b ha1 ha hb1 hb =>
    dsimp only
    have hm2 := mul36 hb ha
    rw [ceq_no (by decide),ceq_no (by decide),ceq_no (by decide),ceq_no (by decide),ceq_no (by decide),ceq_no (by decide),ceq_yes rfl,mulw ha hb,if_pos (by omega),if_pos (by omega),if_pos (by omega),Int.toNat_natCast]
    exact F23_8 ha hb hW1 hW hH1 hH hl _ _ _ i (by omega) (h := ih (mkR a b _) a b (mkR_N ha1 ha hb1 hb fun x y hx hy => at_ok hl hp (size_wi hx ha hW1 hW).2.2.2 (size_wi hy hb hH1 hH).2.2.2)) ..
   | flat a b c ha hb hc =>
    dsimp only
    rw [ceq_no (by decide),ceq_no (by decide),ceq_no (by decide),ceq_no (by decide),ceq_no (by decide),ceq_no (by decide),ceq_no (by decide),mulw hW hH,if_pos (by omega),if_pos (by omega),if_pos (by omega),Int.toNat_natCast]
    exact F23_9 hW hH hl (8,a,b,c,0) i (by omega) (h := ih (mkR W H _) W H (mkR_N hW1 hW hH1 hH fun x y hx hy => flat_ok (at_ok hl hp (by omega) (by omega)) ⟨ha,hb,hc⟩)) ..
  )
  | (
   unfold v23_1
   cases hc with
   | crop a b c e ha hb hc1 hc he1 he =>
    dsimp only
    rw [ceq_yes rfl,wi_id (x := (a : Int) + c) (by omega) (by omega),wi_id (x := (b : Int) + e) (by omega) (by omega),opP_1]
    by_cases g1 : (a : Int) + c > W
    ·rw [cond_yes g1,if_pos g1]; rfl
    ·rw [cond_no g1,if_neg g1]
     by_cases g2 : (b : Int) + e > H
     ·rw [cond_yes g2,if_pos g2]; rfl
     ·have hm2 := mul36 he hc
      rw [cond_no g2,if_neg g2,mulw hc he,if_pos (by omega),if_pos (by omega),if_pos (by omega),Int.toNat_natCast]
      exact F23_10 (a := a) (b := b) hc he hW1 hW hH1 hH hl (by omega) (by omega) _ _ _ i (by omega) (h := ih (mkR c e _) c e (mkR_N hc1 hc he1 he fun x y hx hy => at_ok hl hp (by omega) (by omega))) ..
   | flipX =>
    dsimp only
    rw [ceq_no (by decide),ceq_yes rfl,D67,Option.bind_some,mulw hW hH,if_pos (by omega),if_pos (by omega),if_pos (by omega),Int.toNat_natCast]
    exact F23_11 hW hH hl i (by omega) (h := ih (mkR W H _) W H (mkR_N hW1 hW hH1 hH fun x y hx hy => at_ok hl hp (by omega) (by omega))) ..
   | flipY =>
    dsimp only
    rw [ceq_no (by decide),ceq_no (by decide),ceq_yes rfl,D67,Option.bind_some,mulw hW hH,if_pos (by omega),if_pos (by omega),if_pos (by omega),Int.toNat_natCast]
    exact F23_12 hW hH hl i (by omega) (h := ih (mkR W H _) W H (mkR_N hW1 hW hH1 hH fun x y hx hy => at_ok hl hp (by omega) (by omega))) ..
   | turn =>
    dsimp only
    rw [ceq_no (by decide),ceq_no (by decide),ceq_no (by decide),ceq_yes rfl,D70,Option.bind_some,mulw hH hW,if_pos (by omega),if_pos (by omega),if_pos (by omega),Int.toNat_natCast]
    exact F23_13 hH hW hl i (by omega) (h := ih (mkR H W _) H W (mkR_N hH1 hH hW1 hW fun x y hx hy => at_ok hl hp (by omega) (by omega))) ..
   | gray =>
    dsimp only
    rw [ceq_no (by decide),ceq_no (by decide),ceq_no (by decide),ceq_no (by decide),ceq_yes rfl,mulw hW hH,if_pos (by omega),if_pos (by omega),if_pos (by omega),Int.toNat_natCast]
    exact F23_14 hW hH hl i (by omega) (h := ih (mkR W H _) W H (mkR_N hW1 hW hH1 hH fun x y hx hy => gray_ok (at_ok hl hp (by omega) (by omega)))) ..
   | mean =>
    dsimp only
    rw [ceq_no (by decide),ceq_no (by decide),ceq_no (by decide),ceq_no (by decide),ceq_no (by decide),ceq_yes rfl,D74 hl hW hH,Option.bind_some]
    show (bif false then _ else _) = _
    rw [cond_false,wi_nat (by omega)]
    exact ih (mkR W H _) W H (mkR_N hW1 hW hH1 hH fun x y hx hy => mean_ok hl hp hx hy hW hH)
   | size a b ha1 ha hb1 hb =>
    dsimp only
    have hm2 := mul36 hb ha
    rw [ceq_no (by decide),ceq_no (by decide),ceq_no (by decide),ceq_no (by decide),ceq_no (by decide),ceq_no (by decide),ceq_yes rfl,mulw ha hb,if_pos (by omega),if_pos (by omega),if_pos (by omega),Int.toNat_natCast]
    exact F23_15 ha hb hW1 hW hH1 hH hl _ _ _ i (by omega) (h := ih (mkR a b _) a b (mkR_N ha1 ha hb1 hb fun x y hx hy => at_ok hl hp (size_wi hx ha hW1 hW).2.2.2 (size_wi hy hb hH1 hH).2.2.2)) ..
   | flat a b c ha hb hc =>
    dsimp only
    rw [ceq_no (by decide),ceq_no (by decide),ceq_no (by decide),ceq_no (by decide),ceq_no (by decide),ceq_no (by decide),ceq_no (by decide),mulw hW hH,if_pos (by omega),if_pos (by omega),if_pos (by omega),Int.toNat_natCast]
    exact F23_16 hW hH hl (8,a,b,c,0) i (by omega) (h := ih (mkR W H _) W H (mkR_N hW1 hW hH1 hH fun x y hx hy => flat_ok (at_ok hl hp (by omega) (by omega)) ⟨ha,hb,hc⟩)) ..
  )
theorem D23 {r : Ras} {W H : Nat} {ops : List Op} (hn : RasN r W H) (ho : opsOk ops = true) : r23 dd (r,ops) = some (resP (opsP ops r)) := by
 obtain ⟨h1,h2⟩ := Bool.and_eq_true _ _ ▸ ho
 have h1 : ops.length <= 5 := of_decide_eq_true h1
 have hm := mul36 hn.h6 hn.w6
 have hl := hn.len
 have a1 := D39 r (by show r.2.2.length < _; omega)
 rw [ras_iff.2 ⟨W,H,hn⟩] at a1
 have a2 := D30 ops (by show ops.length < _; omega)
 rw [ho] at a2
 have a4 := L23 h2 h1 0 0 ops.length 0 r W H (by omega) hn
 obtain ⟨w,h,l⟩ := r
 have e1 : w = W := hn.w; have e2 : h = H := hn.h
 subst e1 e2
 have hl : l.length = H * W := hn.len
 refine dL rfl ((b23 dd l23 ..).trans ?_); show (_ : Option (Rs × Bool)) = some _
 rw [a1,Option.bind_some]
 show (bif false then _ else _) = _
 rw [cond_false,a2,Option.bind_some]
 show (bif false then _ else _) = _
 rw [cond_false,mulw hn.w6 hn.h6,if_pos (by omega),if_pos (by omega),if_pos (by omega),Int.toNat_natCast]
 have := F23_0 hn.w6 hn.h6 hl 0 0 0 0 ops (v := resP (opsP ops ((W : Int),(H : Int),l))) (by rw [copy_all hn.w1 hl]; exact a4)
 exact this
end T
end
section
namespace T
open Go Go.E Go.Proofs
end T
end
section
namespace T
open Go Go.E Go.Proofs
def turnP (f : List Int) (ops : List Op) : List Int × Int :=
 if f.length > 220 then ([],413) else if opsOk ops = false then ([],422) else if (getP f).2 = 2 then ([],415) else if (getP f).2 = 3 then ([],422) else match opsP ops (getP f).1 with | none => ([],422) | some r => (putP r,200)
theorem opsOk_c {ops : List Op} (h : opsOk ops = true) : ∀ o ∈ ops,OpC o := by
 obtain ⟨h1,h2⟩ := Bool.and_eq_true _ _ ▸ h
 exact fun o ho => op_c (List.all_eq_true.1 h2 o ho)
theorem ras_sh {r : Ras} {W H : Nat} (hn : RasN r W H) : Sh r.2.2 := by
 have hm := mul36 hn.h6 hn.w6
 have hl := hn.len
 show r.2.2.length < _
 omega
theorem turn_rest (f : List Int) (ops : List Op) (hb : Byt f) (hs : Sh f)
  (F : Option Bool) (G : Option (Ras × Int)) (O : Ras -> Option (Ras × Bool)) (P : Ras -> Option (List Int))
  (hF : F = some (opsOk ops)) (hG : f.length <= 220 -> G = some (getP f)) (hO : ∀ r W H,RasN r W H -> opsOk ops = true -> O r = some (resP (opsP ops r))) (hP : ∀ r W H,RasN r W H -> P r = some (putP r)) :
  (bif decide (ln f > 220) then some ([],413) else F.bind fun (r : Bool) => bif !r then some ([],422) else G.bind fun (r : Ras × Int) => bif r.snd == 2 then some ([],415) else bif r.snd == 3 then some ([],422) else (O r.fst).bind fun (r : Ras × Bool) => bif !r.snd then some ([],422) else (P r.fst).bind fun (r : List Int) => some (r,(200 : Int))) = some (turnP f ops) := by
 have hln := lnE f
 unfold turnP
 by_cases c0 : f.length > 220
 ·rw [cond_yes (by omega),if_pos c0]
 rw [cond_no (by omega),if_neg c0,hF,Option.bind_some]
 cases ho : opsOk ops with
 | false => rfl
 | true =>
  rw [Bool.not_true,cond_false,if_neg (by decide),hG (by omega),Option.bind_some]
  by_cases c2 : (getP f).2 = 2
  ·rw [ceq_yes c2,if_pos c2]
  rw [ceq_no c2,if_neg c2]
  by_cases c3 : (getP f).2 = 3
  ·rw [ceq_yes c3,if_pos c3]
  rw [ceq_no c3,if_neg c3]
  have c1 : (getP f).2 = 1 := by rcases getP_cases f with h | h | h; exact h; exact absurd h c2; exact absurd h c3
  obtain ⟨W,H,hn⟩ := getP_N hb c1
  rw [hO _ W H hn ho,Option.bind_some]
  cases hp : opsP ops (getP f).1 with
  | none => rfl
  | some r' =>
   obtain ⟨W',H',hn'⟩ := opsP_N (opsOk_c ho) hn hp
   show (bif false then _ else _) = _
   rw [cond_false]
   show ((P r').bind _) = _
   rw [hP r' W' H' hn',Option.bind_some]
theorem D8 (f : List Int) (ops : List Op) (hb : Byt f) (hs : Sh f) (ho : Sh ops) : r8 dd (f,ops) = some (turnP f ops) := by
 refine dL rfl ((b8 dd l8 ..).trans ?_)
 exact turn_rest f ops hb hs (r25 dd ops) (r26 dd f) (fun r => r27 dd (r,ops)) (fun r => r28 dd r) (D25 ops ho) (fun h => D26 f hb (by omega)) (fun r W H hn h => D27 hn h) (fun r W H hn => D28 r (ras_sh hn))
theorem D11 (f : List Int) (ops : List Op) (hb : Byt f) (hs : Sh f) (ho : Sh ops) : r11 dd (f,ops) = some (turnP f ops) := by
 refine dL rfl ((b11 dd l11 ..).trans ?_)
 exact turn_rest f ops hb hs (r30 dd ops) (r20 dd f) (fun r => r23 dd (r,ops)) (fun r => r24 dd r) (D30 ops ho) (fun h => D20 f hb (by omega)) (fun r W H hn h => D23 hn h) (fun r W H hn => D24 r (ras_sh hn))
end T
end
section
namespace T
open Go Go.E Go.Proofs
theorem copy_set {α : Type} {l : List α} {z : α} {i : Nat} (h : i < l.length) : (l.take i ++ List.replicate (l.length - i) z).set i (gt l (i : Int) z) = l.take (i + 1) ++ List.replicate (l.length - (i + 1)) z := by
 have ht : (l.take i).length = i := by rw [List.length_take]; omega
 rw [List.set_append_right _ _ (by omega),ht,Nat.sub_self,gt_get h]
 obtain ⟨m,hm⟩ : ∃ m,l.length - i = m + 1 := ⟨l.length - i - 1,by omega⟩
 rw [hm,show l.length - (i + 1) = m by omega,List.replicate_succ, <- List.take_append_getElem h,List.append_assoc]
 rfl
theorem D7 (l : List Op) (n : Int) (hl : l.length <= 9223372036854775807) (h1 : 0 <= n) (h2 : n <= 1048576) : r7 dd (l,n) = some (if n - ln l < 0 then -1 else n - ln l) := by
 have hln := lnE l
 refine dL rfl ((b7 dd l7 ..).trans ?_); show (_ : Option Int) = some _
 rw [wi_id (by omega) (by omega),cond_dec]
 split <;> rfl
theorem L9 (l : List Int) (hl : l.length <= 1048576) : ∀ (k i : Nat),i + k = l.length -> l9 (q9_0 l i (l.take i ++ List.replicate (l.length - i) 0)) = some l
 | 0,i,h => by
  have hln := lnE l
  refine eL ((c9_0 dd l9 ..).trans ?_); show (_ : Option (List Int)) = some _
  rw [cond_no (by omega),show l.length - i = 0 by omega,List.take_of_length_le (by omega),List.replicate_zero,List.append_nil]
 | k + 1,i,h => by
  have hln := lnE l
  have hi : i < l.length := by omega
  have hlo : ln (l.take i ++ List.replicate (l.length - i) (0 : Int)) = ln l := by rw [lnE,lnE,List.length_append,List.length_take,List.length_replicate]; omega
  refine eL ((c9_0 dd l9 ..).trans ?_); show (_ : Option (List Int)) = some _
  rw [cond_yes (by omega),hlo,if_pos (by omega),if_pos (by omega),if_pos (by omega),if_pos (by omega),Int.toNat_natCast,copy_set hi,wi_nat (by omega)]
  exact L9 l hl k (i + 1) (by omega)
theorem D9 (l : List Int) (hl : l.length <= 1048576) : r9 dd l = some l := by
 have hln := lnE l
 have := L9 l hl l.length 0 (by omega)
 refine dL rfl ((b9 dd l9 ..).trans ?_); show (_ : Option (List Int)) = some _
 rw [if_pos (by omega),if_pos (by omega),hln,Int.toNat_natCast]
 exact this
theorem D29 (o : Op) : r29 dd o = some o := by
 obtain ⟨a,b,c,e,f⟩ := o
 refine dL rfl ((b29 dd l29 ..).trans ?_); show (_ : Option (I5)) = some _; rfl
theorem L10 (l : List Op) (hl : l.length <= 1048576) : ∀ (k i : Nat),i + k = l.length -> l10 (q10_0 l i (l.take i ++ List.replicate (l.length - i) (0,0,0,0,0))) = some l
 | 0,i,h => by
  have hln := lnE l
  refine eL ((c10_0 dd l10 ..).trans ?_); show (_ : Option (List I5)) = some _
  rw [cond_no (by omega),show l.length - i = 0 by omega,List.take_of_length_le (by omega),List.replicate_zero,List.append_nil]
 | k + 1,i,h => by
  have hln := lnE l
  have hi : i < l.length := by omega
  have hlo : ln (l.take i ++ List.replicate (l.length - i) ((0,0,0,0,0) : Op)) = ln l := by rw [lnE,lnE,List.length_append,List.length_take,List.length_replicate]; omega
  refine eL ((c10_0 dd l10 ..).trans ?_); show (_ : Option (List I5)) = some _
  rw [cond_yes (by omega),hlo,if_pos (by omega),if_pos (by omega),D29,Option.bind_some,if_pos (by omega),if_pos (by omega),Int.toNat_natCast,copy_set hi,wi_nat (by omega)]
  exact L10 l hl k (i + 1) (by omega)
theorem D10 (l : List Op) (hl : l.length <= 1048576) : r10 dd l = some l := by
 have hln := lnE l
 have := L10 l hl l.length 0 (by omega)
 refine dL rfl ((b10 dd l10 ..).trans ?_); show (_ : Option (List I5)) = some _
 rw [if_pos (by omega),if_pos (by omega),hln,Int.toNat_natCast]
 exact this
theorem L12 (l : List Int) (hl : Sh l) : ∀ (k i : Nat),i + k = l.length -> l12 (q12_0 l l i) = some true
 | 0,i,h => by
  have hln := lnE l
  refine eL ((c12_0 dd l12 ..).trans ?_); show (_ : Option Bool) = some _
  rw [cond_no (by omega)]
 | k + 1,i,h => by
  have hln := lnE l
  have : l.length < 1000000000000000000 := hl
  refine eL ((c12_0 dd l12 ..).trans ?_); show (_ : Option Bool) = some _
  rw [cond_yes (by omega),if_pos (by omega),if_pos (by omega),if_pos (by omega),if_pos (by omega),cne_no rfl,wi_nat (by omega)]
  exact L12 l hl k (i + 1) (by omega)
theorem D12 (l : List Int) (hl : Sh l) : r12 dd (l,l) = some true := by
 refine dL rfl ((b12 dd l12 ..).trans ?_); show (_ : Option Bool) = some _
 rw [cne_no rfl]
 exact L12 l hl l.length 0 (by omega)
theorem D31 (o : Op) : r31 dd (o,o) = some true := by
 obtain ⟨a,b,c,e,f⟩ := o
 refine dL rfl ((b31 dd l31 ..).trans ?_); show (_ : Option Bool) = some _
 rw [cne_no rfl,cne_no rfl,cne_no rfl,cne_no rfl,cne_no rfl]
theorem L13 (l : List Op) (hl : Sh l) : ∀ (k i : Nat),i + k = l.length -> l13 (q13_0 l l i) = some true
 | 0,i,h => by
  have hln := lnE l
  refine eL ((c13_0 dd l13 ..).trans ?_); show (_ : Option Bool) = some _
  rw [cond_no (by omega)]
 | k + 1,i,h => by
  have hln := lnE l
  have : l.length < 1000000000000000000 := hl
  refine eL ((c13_0 dd l13 ..).trans ?_); show (_ : Option Bool) = some _
  rw [cond_yes (by omega),if_pos (by omega),if_pos (by omega),if_pos (by omega),if_pos (by omega),D31,Option.bind_some,Bool.not_true,cond_false,wi_nat (by omega)]
  exact L13 l hl k (i + 1) (by omega)
theorem D13 (l : List Op) (hl : Sh l) : r13 dd (l,l) = some true := by
 refine dL rfl ((b13 dd l13 ..).trans ?_); show (_ : Option Bool) = some _
 rw [cne_no rfl]
 exact L13 l hl l.length 0 (by omega)
def marks (n : Nat) : List Int := (List.range n).map fun j => wb ((j + 1 : Nat) : Int)
theorem marks_len {n : Nat} : (marks n).length = n := by unfold marks; simp
theorem marks_succ {n : Nat} : marks (n + 1) = marks n ++ [wb ((n + 1 : Nat) : Int)] := by unfold marks; rw [List.range_succ,List.map_append]; rfl
theorem marks_get {n i : Nat} (h : i < n) : gt (marks n) (i : Int) 0 = wb ((i + 1 : Nat) : Int) := by
 rw [gt_get (by rw [marks_len]; exact h)]
 simp only [marks,List.getElem_map,List.getElem_range]
theorem L16 (n : Nat) (hn : n <= 1000000) : ∀ (k i : Nat),i + k = n -> l16 (q16_0 (marks n) ((i + 1 : Nat) : Int) i) = some ((n + 1 : Nat) : Int)
 | 0,i,h => by
  have hln : ln (marks n) = n := by rw [lnE,marks_len]
  have : i = n := by omega
  subst this
  refine eL ((c16_0 dd l16 ..).trans ?_); show (_ : Option Int) = some _
  rw [cond_no (by omega)]
 | k + 1,i,h => by
  have hln : ln (marks n) = n := by rw [lnE,marks_len]
  refine eL ((c16_0 dd l16 ..).trans ?_); show (_ : Option Int) = some _
  rw [cond_yes (by omega),if_pos (by omega),if_pos (by omega),marks_get (by omega),cne_no rfl,wi_nat (by omega),wi_nat (by omega)]
  exact L16 n hn k (i + 1) (by omega)
theorem D16 (n : Nat) (hn : n <= 1000000) : r16 dd (marks n,1) = some ((n + 1 : Nat) : Int) := by
 refine dL rfl ((b16 dd l16 ..).trans ?_); show (_ : Option Int) = some _
 exact L16 n hn n 0 (by omega)
theorem ln_set {α : Type} {l : List α} {i : Nat} {x : α} : ln (l.set i x) = ln l := by rw [lnE,lnE,List.length_set]
theorem turn_len {f : List Int} {ops : List Op} (hb : Byt f) : (turnP f ops).1.length <= 300 := by
 unfold turnP
 split
 ·exact Nat.zero_le _
 split
 ·exact Nat.zero_le _
 rename_i ho
 split
 ·exact Nat.zero_le _
 split
 ·exact Nat.zero_le _
 split
 ·exact Nat.zero_le _
 ·rename_i c2 c3 _ r hr
  have c1 : (getP f).2 = 1 := by rcases getP_cases f with h | h | h; exact h; exact absurd h c2; exact absurd h c3
  obtain ⟨W,H,hn⟩ := getP_N hb c1
  have ho : opsOk ops = true := by cases h : opsOk ops; exact absurd h ho; rfl
  obtain ⟨W',H',hn'⟩ := opsP_N (opsOk_c ho) hn hr
  show (putP r).length <= 300
  unfold putP
  rw [if_pos (ras_iff.2 ⟨_,_,hn'⟩)]
  have := (fileP_byt (k := 80) (.inr (.inr (.inr rfl))) byt_nil (by simp) hn').2
  omega
section
variable (a0 : List Int) (a1 : List Op)
theorem L3c (hb : Byt a0) (h0 : a0.length <= 1048576) (h1 : a1.length <= 1048576) : ∀ (k i : Nat),i + k = (turnP a0 a1).1.length ->
  l3 (q3_2 ((i + 1 : Nat) : Int) i a0 a1 (turnP a0 a1).2 (marks i ++ (turnP a0 a1).1.drop i) (turnP a0 a1).1) = some true
 | 0,i,h => by
  have hlen := turn_len (ops := a1) hb
  have hm : marks i ++ (turnP a0 a1).1.drop i = marks i := by rw [List.drop_eq_nil_of_le (by omega),List.append_nil]
  have hln : ln (marks i) = i := by rw [lnE,marks_len]
  have e16 := D16 i (by omega)
  rw [hm]
  refine eL ((c3_2 dd l3 ..).trans ?_); show (_ : Option Bool) = some _
  rw [cond_no (by omega),e16,Option.bind_some,cond_no (by omega),cne_no rfl,D9 a0 h0,Option.bind_some,D10 a1 h1,Option.bind_some,D11 a0 a1 hb (by show _ < _; omega) (by show _ < _; omega),Option.bind_some,D12 _ (by show _ < _; omega),Option.bind_some,Bool.not_true,cond_false,cne_no rfl,Option.bind_some,cond_no (by omega),cne_no rfl]
 | k + 1,i,h => by
  have hlen := turn_len (ops := a1) hb
  have hln : ln (marks i ++ (turnP a0 a1).1.drop i) = (turnP a0 a1).1.length := by rw [lnE,List.length_append,marks_len,List.length_drop]; omega
  have hset : (marks i ++ (turnP a0 a1).1.drop i).set i (wb ((i + 1 : Nat) : Int)) = marks (i + 1) ++ (turnP a0 a1).1.drop (i + 1) := by
   rw [List.set_append_right _ _ (by rw [marks_len]; omega),marks_len,Nat.sub_self,drop_get (z := 0) (by omega),marks_succ,List.append_assoc]
   rfl
  refine eL ((c3_2 dd l3 ..).trans ?_); show (_ : Option Bool) = some _
  rw [cond_yes (by omega),if_pos (by omega),if_pos (by omega),Int.toNat_natCast,hset,wi_nat (by omega),wi_nat (by omega)]
  exact L3c hb h0 h1 k (i + 1) (by omega)
theorem wi5 {n : Nat} (h : n <= 100000000) : wi (wi (wi (wi (wi ((n : Int) + 1) + 1) + 1) + 1) + 1) = ((n + 5 : Nat) : Int) := by
 rw [wi_nat (by omega),wi_nat (by omega),wi_nat (by omega),wi_nat (by omega),wi_nat (by omega)]
theorem L3b (hb : Byt a0) (h0 : a0.length <= 1048576) (h1 : a1.length <= 1048576) : ∀ (k i c : Nat) (o : List Op),i + k = o.length -> o.length <= 1048576 -> c <= 10000000 ->
  l3 (q3_1 ((c + 5 * i : Nat) : Int) i a0 a1 (turnP a0 a1).2 (turnP a0 a1).2 o (turnP a0 a1).1 (turnP a0 a1).1) = some true
 | 0,i,c,o,h,ho,hc => by
  have hlen := turn_len (ops := a1) hb
  have hln := lnE o
  refine eL ((c3_1 dd l3 ..).trans ?_); show (_ : Option Bool) = some _
  rw [cond_no (by omega),cond_no (by omega),D12 _ (by show _ < _; omega),Option.bind_some,Bool.not_true,cond_false,cne_no rfl]
  exact L3c a0 a1 hb h0 h1 (turnP a0 a1).1.length 0 (by omega)
 | k + 1,i,c,o,h,ho,hc => by
  have hln := lnE o
  have g0 : (0 : Int) <= (i : Int) := by omega
  have g1 : (i : Int) < ln o := by omega
  refine eL ((c3_1 dd l3 ..).trans ?_); show (_ : Option Bool) = some _
  simp only [m1,m2,m3,m4,m5,ln_set]
  rw [cond_yes g1,if_pos g0,if_pos g1,if_pos g0,if_pos g1,if_pos g0,if_pos g1,if_pos g0,if_pos g1,if_pos g0,if_pos g1,wi5 (by omega),wi_nat (by omega),show c + 5 * i + 5 = c + 5 * (i + 1) by omega]
  exact L3b hb h0 h1 k (i + 1) c _ (by simp only [List.length_set]; omega) (by simp only [List.length_set]; omega) hc
theorem L3a (hb : Byt a0) (h0 : a0.length <= 1048576) (h1 : a1.length <= 1048576) : ∀ (k i : Nat) (l : List Int),i + k = l.length -> l.length <= 1048576 ->
  l3 (q3_0 ((i + 1 : Nat) : Int) i a0 a1 (turnP a0 a1).2 (turnP a0 a1).2 l (turnP a0 a1).1 a1 (turnP a0 a1).1) = some true
 | 0,i,l,h,hl => by
  have hln := lnE l
  refine eL ((c3_0 dd l3 ..).trans ?_); show (_ : Option Bool) = some _
  rw [cond_no (by omega)]
  exact L3b a0 a1 hb h0 h1 a1.length 0 (i + 1) a1 (by omega) h1 (by omega)
 | k + 1,i,l,h,hl => by
  have hln := lnE l
  refine eL ((c3_0 dd l3 ..).trans ?_); show (_ : Option Bool) = some _
  rw [cond_yes (by omega),if_pos (by omega),if_pos (by omega),wi_nat (by omega),wi_nat (by omega)]
  exact L3a hb h0 h1 k (i + 1) _ (by rw [List.length_set]; omega) (by rw [List.length_set]; omega)
end
theorem D3 {a0 : List Int} {a1 : List Op} (hb : Byt a0) (hs' : a1.length <= 9223372036854775807) : r3 dd (a0,a1) = some true := by
 have hln := lnE a0
 have hln1 := lnE a1
 have e7 := D7 a1 1048576 hs' (by decide) (by decide)
 refine dL rfl ((b3 dd l3 ..).trans ?_); show (_ : Option Bool) = some _
 by_cases c : ln a0 > 1048576
 ·rw [cond_yes c]
 rw [cond_no c,e7,Option.bind_some]
 by_cases c1 : 1048576 - ln a1 < 0
 ·rw [if_pos c1,cond_yes (by decide)]
 rw [if_neg c1,cond_no c1]
 have hlen := turn_len (ops := a1) hb
 have h0 : a0.length <= 1048576 := by omega
 have h1 : a1.length <= 1048576 := by omega
 have hs : Sh a1 := by show _ < _; omega
 rw [D9 a0 h0,Option.bind_some,D10 a1 h1,Option.bind_some,D8 a0 a1 hb (by show _ < _; omega) hs,Option.bind_some,Option.bind_some,Option.bind_some,D11 a0 a1 hb (by show _ < _; omega) hs,Option.bind_some,D12 _ (by show _ < _; omega),Option.bind_some,Bool.not_true,cond_false,cne_no rfl,Option.bind_some,D12 a0 (by show _ < _; omega),Option.bind_some,Bool.not_true,cond_false,Option.bind_some,D13 a1 hs,Option.bind_some,Bool.not_true,cond_false]
 exact L3a a0 a1 hb h0 h1 a0.length 0 a0 (by omega) h0
end T
end
