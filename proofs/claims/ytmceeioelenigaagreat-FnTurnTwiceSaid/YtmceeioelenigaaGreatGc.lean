/- Plain laws: pictures turned; the laws. -/
import Derived.Test.YtmceeioelenigaaGreatGb
section
namespace T
open Go Go.E Go.Proofs
abbrev at' (l : List eF) (W x y : Nat) : eF := gt l ((y * W + x : Nat) : Int) z4
def mk (W : Nat) (f : Nat -> Nat -> eF) (i : Nat) : eF := f (i % W) (i / W)
theorem oq {W x y : Nat} {f : Nat -> Nat -> eF} (hx : x < W) : mk W f (y * W + x) = f x y := by
 obtain ⟨d1,d2⟩ := Nr (y := y) hx
 unfold mk; rw [d1,d2]
theorem jq {W H : Nat} (g : Nat -> eF) (A : Nat -> List eF -> Prop) (B : Nat -> Nat -> List eF -> Prop)
  (hA : ∀ y l,y < H -> l.length = H * W -> B y 0 l -> A y l)
  (hB : ∀ y x l,y < H -> x < W -> l.length = H * W -> B y (x + 1) (l.set (y * W + x) (g (y * W + x))) -> B y x l)
  (hE : ∀ y l,y < H -> A (y + 1) l -> B y W l)
  (h : A H (fD (H * W) g)) : A 0 (List.replicate (H * W) z4) := by
 have row : ∀ y,y < H -> A (y + 1) (mF (H * W) ((y + 1) * W) g) -> ∀ k x,x + k = W -> B y x (mF (H * W) (y * W + x) g) := by
  intro y hy ha k
  have hm : y * W + W <= H * W := by rw [<- bG]; exact Nat.mul_le_mul_right W hy
  induction k with
  | zero =>
   intro x hx; have : x = W := by omega
   subst this; exact hE y _ hy (by rw [<- bG]; exact ha)
  | succ k ih => intro x hx; exact hB y x _ hy (by omega) (zQ (by omega)) (by rw [Jh (by omega)]; exact ih (x + 1) (by omega))
 have all : ∀ k y,y + k = H -> A y (mF (H * W) (y * W) g) := by
  intro k
  induction k with
  | zero =>
   intro y hy; have : y = H := by omega
   subst this; rw [Sj]; exact h
  | succ k ih =>
   intro y hy
   have hm : y * W + W <= H * W := by rw [<- bG]; exact Nat.mul_le_mul_right W (by omega)
   exact hA y _ (by omega) (zQ (by omega)) (row y (by omega) (ih (y + 1) (by omega)) W 0 (by omega))
 have := all H 0 (by omega)
 rwa [Nat.zero_mul,Si] at this
theorem Gs {W H : Nat} (g : Nat -> eF) (A : Nat -> List eF -> Prop) (B : Nat -> Nat -> List eF -> Prop)
  (hA : ∀ y l,y < H -> l.length = y * W -> B y 0 l -> A y l)
  (hB : ∀ y x l,y < H -> x < W -> l.length = y * W + x -> B y (x + 1) (l ++ [g (y * W + x)]) -> B y x l)
  (hE : ∀ y l,y < H -> A (y + 1) l -> B y W l)
  (h : A H (fD (H * W) g)) : A 0 [] := by
 have row : ∀ y,y < H -> A (y + 1) (fD ((y + 1) * W) g) -> ∀ k x,x + k = W -> B y x (fD (y * W + x) g) := by
  intro y hy ha k
  induction k with
  | zero =>
   intro x hx; have : x = W := by omega
   subst this; exact hE y _ hy (by rw [<- bG]; exact ha)
  | succ k ih => intro x hx; exact hB y x _ hy (by omega) jQ (by rw [<- zS]; exact ih (x + 1) (by omega))
 have all : ∀ k y,y + k = H -> A y (fD (y * W) g) := by
  intro k
  induction k with
  | zero =>
   intro y hy; have : y = H := by omega
   subst this; exact h
  | succ k ih =>
   intro y hy
   exact hA y _ (by omega) jQ (row y (by omega) (ih (y + 1) (by omega)) W 0 (by omega))
 have := all H 0 (by omega)
 rwa [Nat.zero_mul] at this
theorem mP {l : List eF} {W H y : Nat} (hy : y < H) (hl : l.length = H * W) : ln (List.drop (y * W) (List.take ((y + 1) * W) l)) = W := by
 have hm : y * W + W <= H * W := by rw [<- bG]; exact Nat.mul_le_mul_right W hy
 rw [rX,gG]; unfold rowP; simp; omega
theorem Y0 {l : List eF} {W H : Nat} (hW : 1 <= W) (hl : l.length = H * W) : fD (H * W) (mk W (at' l W)) = l := by
 apply List.ext_getElem
 ·rw [jQ,hl]
 ·intro i h1 h2
  have e : (fD (H * W) (mk W (at' l W)))[i] = mk W (at' l W) i := by simp only [fD,List.getElem_map,List.getElem_range]
  rw [e]
  show gt l ((i / W * W + i % W : Nat) : Int) z4 = _
  have : i / W * W + i % W = i := by rw [Nat.mul_comm]; exact Nat.div_add_mod i W
  rw [this,iW h2]
def y9 (p : eF) : Int := wi ((wi (wi (wi (77 * p.1) + wi (150 * p.2.1)) + wi (29 * p.2.2.1))).tdiv 256)
def Dv (p : eF) : eF := (y9 p,y9 p,y9 p,p.2.2.2)
theorem D73 (p : eF) : r73 dd p = some (Dv p) := by
 obtain ⟨a,b,c,e⟩ := p
 refine dL rfl ((b73 dd l73 ..).trans ?_); rfl
theorem aiW (p : eF) : aeW dd p = some (Dv p) := by
 obtain ⟨a,b,c,e⟩ := p
 refine dL rfl ((ahq dd ahr ..).trans ?_); rfl
def Jl (a b e : Int) : Int := wi ((wi (wi (a * e) + wi (b * wi (255 - e)))).tdiv 255)
def Dw (o : Op) (p : eF) : eF := (Jl p.1 o.2.1 p.2.2.2,Jl p.2.1 o.2.2.1 p.2.2.2,Jl p.2.2.1 o.2.2.2.1 p.2.2.2,255)
theorem aiX (p : eF) (o : Op) : aeY dd (p,o) = some (Dw o p) := by
 obtain ⟨a,b,c,e⟩ := p
 obtain ⟨k,x,y,z,w⟩ := o
 refine dL rfl ((aht dd ahu ..).trans ?_); rfl
theorem aiY (a b : Int) (p : eF) : Z7 dd (a,b,p) = some (Jl a b p.2.2.2,p) := by
 obtain ⟨x,y,z,e⟩ := p
 refine dL rfl ((ahm dd ahn ..).trans ?_); rfl
theorem afE (p : eF) (o : Op) : acG dd (p,o) = some (Dw o p,o) := by
 obtain ⟨a,b,c,e⟩ := p
 obtain ⟨k,x,y,z,w⟩ := o
 refine dL rfl ((ahk dd ahl ..).trans ?_)
 simp only [aiY,Option.bind_some,if_true]
 rfl
theorem D67 (w h : Int) (l : List eF) : r67 dd (w,h,l) = some (w,h) := by refine dL rfl ((b67 dd l67 ..).trans ?_); rfl
theorem D70 (w h : Int) (l : List eF) : r70 dd (w,h,l) = some (h,w) := by refine dL rfl ((b70 dd l70 ..).trans ?_); rfl
theorem Ns {p : eF} (h : gu p = true) : gu (Dv p) = true := by
 obtain ⟨a,b,c,e⟩ := p
 obtain ⟨h1,h2,h3,h4⟩ := kF.1 h
 dsimp only at h1 h2 h3 h4
 have : y9 (a,b,c,e) = (77 * a + 150 * b + 29 * c) / 256 := by
  unfold y9
  show wi ((wi (wi (wi (77 * a) + wi (150 * b)) + wi (29 * c))).tdiv 256) = _
  rw [aK (x := 77 * a) (by omega) (by omega),aK (x := 150 * b) (by omega) (by omega),aK (x := 29 * c) (by omega) (by omega),aK (x := 77 * a + 150 * b) (by omega) (by omega),aK (x := 77 * a + 150 * b + 29 * c) (by omega) (by omega),td (by omega),aK (by omega) (by omega)]
 refine kF.2 ?_
 show (0 <= y9 _ ∧ y9 _ <= 255) ∧ (0 <= y9 _ ∧ y9 _ <= 255) ∧ (0 <= y9 _ ∧ y9 _ <= 255) ∧ 0 <= e ∧ e <= 255
 rw [this]
 omega
theorem abU {a e : Int} (h1 : 0 <= a) (h2 : a <= 255) (h3 : 0 <= e) : 0 <= a * e ∧ a * e <= 255 * e :=
 ⟨Int.mul_nonneg h1 h3,Int.mul_le_mul_of_nonneg_right h2 h3⟩
theorem Jm {a b e : Int} (ha : 0 <= a ∧ a <= 255) (hb : 0 <= b ∧ b <= 255) (he : 0 <= e ∧ e <= 255) : 0 <= Jl a b e ∧ Jl a b e <= 255 := by
 unfold Jl
 obtain ⟨x1,x2⟩ := abU ha.1 ha.2 he.1
 have he' : 0 <= 255 - e := by omega
 obtain ⟨y1,y2⟩ := abU hb.1 hb.2 he'
 rw [aK (x := 255 - e) (by omega) (by omega)]
 generalize a * e = A at *
 generalize b * (255 - e) = B at *
 rw [aK (x := A) (by omega) (by omega),aK (x := B) (by omega) (by omega),aK (x := A + B) (by omega) (by omega),td (by omega),aK (by omega) (by omega)]
 omega
theorem Nu {o : Op} {p : eF} (h : gu p = true) (ho : (0 <= o.2.1 ∧ o.2.1 <= 255) ∧ (0 <= o.2.2.1 ∧ o.2.2.1 <= 255) ∧ (0 <= o.2.2.2.1 ∧ o.2.2.2.1 <= 255)) : gu (Dw o p) = true := by
 obtain ⟨h1,h2,h3,h4⟩ := kF.1 h
 exact kF.2 ⟨Jm h1 ho.1 h4,Jm h2 ho.2.1 h4,Jm h3 ho.2.2 h4,(by decide : (0 : Int) <= 255 ∧ (255 : Int) <= 255)⟩
end T
end
section
namespace T
open Go Go.E Go.Proofs
theorem D68 (w h : Int) (l : List eF) (x y : Int) : r68 dd ((w,h,l),x,y) = some (wi (wi (w - 1) - x),y) := by refine dL rfl ((b68 dd l68 ..).trans ?_); rfl
theorem D69 (w h : Int) (l : List eF) (x y : Int) : r69 dd ((w,h,l),x,y) = some (x,wi (wi (h - 1) - y)) := by refine dL rfl ((b69 dd l69 ..).trans ?_); rfl
theorem D71 (w h : Int) (l : List eF) (x y : Int) : r71 dd ((w,h,l),x,y) = some (y,wi (wi (h - 1) - x)) := by refine dL rfl ((b71 dd l71 ..).trans ?_); rfl
theorem nK {x W V : Nat} (hx : x < W) (hW : W <= 6) (hV1 : 1 <= V) (hV : V <= 6) : wi (2 * (W : Int)) = ((2 * W : Nat) : Int) ∧ ¬ (((2 * W : Nat) : Int) = 0) ∧ wi ((wi (wi (wi (2 * (x : Int)) + 1) * V)).tdiv ((2 * W : Nat) : Int)) = (((2 * x + 1) * V / (2 * W) : Nat) : Int) ∧ (2 * x + 1) * V / (2 * W) < V := by
 have h1 : (2 * x + 1) * V <= 11 * 6 := Nat.mul_le_mul (by omega) hV
 have h2 : (2 * x + 1) * V / (2 * W) < V := Nat.div_lt_of_lt_mul (Nat.mul_lt_mul_of_pos_right (by omega) (by omega))
 refine ⟨by rw [aK (by omega) (by omega)]; omega,by omega,?_,h2⟩
 rw [aK (x := 2 * (x : Int)) (by omega) (by omega),aK (x := 2 * (x : Int) + 1) (by omega) (by omega),show 2 * (x : Int) + 1 = ((2 * x + 1 : Nat) : Int) by omega,wV]
 generalize (2 * x + 1) * V = A at *
 rw [aK (x := (A : Int)) (by omega) (by omega),td (by omega), <- Int.natCast_ediv]
 generalize A / (2 * W) = B at *
 exact aK (by omega) (by omega)
theorem Sv {α : Type} {x : Option α} {l : List (Option α)} {r : α} (h : x = some r) (hl : ∀ y ∈ l,y = some r) : sameAll x l = some r := by
 have all : ∀ l : List (Option α),(∀ y ∈ l,y = some r) -> pX x l := by
  intro l
  induction l with
  | nil => intro _; trivial
  | cons z l ih => intro hz; exact ⟨(hz z (List.mem_cons_self ..)).trans h.symm,ih fun y hy => hz y (List.mem_cons_of_mem _ hy)⟩
 unfold sameAll
 split
 ·exact h
 ·rw [if_pos (all _ hl)]; exact h
end T
end
section
namespace T
open Go Go.E Go.Proofs
theorem afF {l : List eF} {W H : Nat} (hW : W <= 6) (hH : H <= 6) (hs : l.length = H * W) (aB aA aX aY : Int) (oz : List (Int × Int × Int × Int × Int)) {v : jc × Bool}
  (h : gW (jd oz (ln oz) 0 aX aY W H (fD (H * W) (mk W (fun x y => at' l W x y)))) = some v) :
  gW (Pj W H H 0 oz W H l aB aA (List.replicate (H * W) z4) aX aY) = some v := by
 refine jq (mk W (fun x y => at' l W x y)) (fun y l' => gW (Pj W H H (y : Nat) oz W H l aB aA l' aX aY) = some v) (fun y x l' => gW (Tz W H (y : Nat) (((y : Nat) * W : Nat) : Int) ((((y : Nat) + 1) * W : Nat) : Int) H (y : Nat) W (x : Nat) oz W H l aB aA l' aX aY) = some v) ?_ ?_ ?_ ?_
 ·intro y l' hy hl hq
  obtain ⟨w1,w2⟩ := jR hy hH hW
  have hm := l9 hy hH hW
  have e3 := bG (y := y) (W := W)
  have hln := gG l'
  refine eL ((aaR dd gW ..).trans ?_)
  rw [au (by omega),w1,w2,if_pos (by omega),if_pos (by omega),if_pos (by omega),Int.toNat_natCast,Int.toNat_natCast,mP hy hl]
  exact hq
 ·intro y x l' hy hx hl hq
  have e3 := bG (y := y) (W := W)
  rw [oq hx] at hq
  refine eL ((aaS dd gW ..).trans ?_)
  rw [au (by omega)]
  rw [PZ hs hH hW hx hy,Option.bind_some]
  rw [if_pos (by omega),if_pos (by omega),bg (by omega),show (((y * W : Nat) : Int) + (x : Int)).toNat = y * W + x by omega]
  exact hq
 ·intro y l' hy hq
  refine eL ((aaS dd gW ..).trans ?_)
  rw [aC (by omega),bg (by omega)]
  exact hq
 ·refine eL ((aaR dd gW ..).trans ?_)
  rw [aC (by omega)]
  exact h
theorem afG {l : List eF} {W H : Nat} (hW : W <= 6) (hH : H <= 6) {V U : Nat} (hV1 : 1 <= V) (hV : V <= 6) (hU1 : 1 <= U) (hU : U <= 6) (hs : l.length = U * V) {a b : Nat} (ha : a + W <= V) (hb : b + H <= U) (k c3 c4 : Int) (i : Nat) (hi : i < 1000) (jm dF dG aS aT aU aV bK bM dW dX : Int) (jl : List (Int × Int × Int × Int × Int)) {v : jc × Bool}
  (h : gW (jd jl jm ((i + 1 : Nat) : Int) bK bM W H (fD (H * W) (mk W (fun x y => at' l V (a + x) (b + y))))) = some v) :
  gW (Pm W H H 0 jl jm i k (a : Int) (b : Int) c3 c4 V U l dF dG (List.replicate (H * W) z4) aS aT aU aV bK bM dW dX) = some v := by
 refine jq (mk W (fun x y => at' l V (a + x) (b + y))) (fun y l' => gW (Pm W H H (y : Nat) jl jm i k (a : Int) (b : Int) c3 c4 V U l dF dG l' aS aT aU aV bK bM dW dX) = some v) (fun y x l' => gW (L8 W H (y : Nat) (((y : Nat) * W : Nat) : Int) ((((y : Nat) + 1) * W : Nat) : Int) H (y : Nat) W (x : Nat) jl jm i k (a : Int) (b : Int) c3 c4 V U l dF dG l' aS aT aU aV bK bM dW dX) = some v) ?_ ?_ ?_ ?_
 ·intro y l' hy hl hq
  obtain ⟨w1,w2⟩ := jR hy hH hW
  have hm := l9 hy hH hW
  have e3 := bG (y := y) (W := W)
  have hln := gG l'
  refine eL ((aaU dd gW ..).trans ?_)
  rw [au (by omega),w1,w2,if_pos (by omega),if_pos (by omega),if_pos (by omega),Int.toNat_natCast,Int.toNat_natCast,mP hy hl]
  exact hq
 ·intro y x l' hy hx hl hq
  have e3 := bG (y := y) (W := W)
  rw [oq hx] at hq
  refine eL ((XU dd gW ..).trans ?_)
  rw [au (by omega)]
  rw [aK (x := (a : Int) + x) (by omega) (by omega),aK (x := (b : Int) + y) (by omega) (by omega),show (a : Int) + x = ((a + x : Nat) : Int) by omega,show (b : Int) + y = ((b + y : Nat) : Int) by omega,PZ hs hU hV (show a + x < V by omega) (show b + y < U by omega),Option.bind_some]
  rw [if_pos (by omega),if_pos (by omega),bg (by omega),show (((y * W : Nat) : Int) + (x : Int)).toNat = y * W + x by omega]
  exact hq
 ·intro y l' hy hq
  refine eL ((XU dd gW ..).trans ?_)
  rw [aC (by omega),bg (by omega)]
  exact hq
 ·refine eL ((aaU dd gW ..).trans ?_)
  rw [aC (by omega),bg (by omega)]
  exact h
theorem afH {l : List eF} {W H : Nat} (hW : W <= 6) (hH : H <= 6) (hs : l.length = H * W) (i : Nat) (hi : i < 1000) (aJ aX aY bW bY aS aT aU aV : Int) (aI : List (Int × Int × Int × Int × Int)) {v : jc × Bool}
  (h : gW (jd aI aJ ((i + 1 : Nat) : Int) aS aT W H (fD (H * W) (mk W (fun x y => at' l W (W - 1 - x) y)))) = some v) :
  gW (Pn W H H 0 aI aJ i W H l aX aY (List.replicate (H * W) z4) bW bY aS aT aU aV) = some v := by
 refine jq (mk W (fun x y => at' l W (W - 1 - x) y)) (fun y l' => gW (Pn W H H (y : Nat) aI aJ i W H l aX aY l' bW bY aS aT aU aV) = some v) (fun y x l' => gW (L9 W H (y : Nat) (((y : Nat) * W : Nat) : Int) ((((y : Nat) + 1) * W : Nat) : Int) H (y : Nat) W (x : Nat) aI aJ i W H l aX aY l' bW bY aS aT aU aV) = some v) ?_ ?_ ?_ ?_
 ·intro y l' hy hl hq
  obtain ⟨w1,w2⟩ := jR hy hH hW
  have hm := l9 hy hH hW
  have e3 := bG (y := y) (W := W)
  have hln := gG l'
  refine eL ((aaV dd gW ..).trans ?_)
  rw [au (by omega),w1,w2,if_pos (by omega),if_pos (by omega),if_pos (by omega),Int.toNat_natCast,Int.toNat_natCast,mP hy hl]
  exact hq
 ·intro y x l' hy hx hl hq
  have e3 := bG (y := y) (W := W)
  rw [oq hx] at hq
  refine eL ((XV dd gW ..).trans ?_)
  rw [au (by omega)]
  rw [D68,Option.bind_some,aK (x := (W : Int) - 1) (by omega) (by omega),aK (x := (W : Int) - 1 - x) (by omega) (by omega),show (W : Int) - 1 - x = ((W - 1 - x : Nat) : Int) by omega,PZ hs hH hW (show W - 1 - x < W by omega) hy,Option.bind_some]
  rw [if_pos (by omega),if_pos (by omega),bg (by omega),show (((y * W : Nat) : Int) + (x : Int)).toNat = y * W + x by omega]
  exact hq
 ·intro y l' hy hq
  refine eL ((XV dd gW ..).trans ?_)
  rw [aC (by omega),bg (by omega)]
  exact hq
 ·refine eL ((aaV dd gW ..).trans ?_)
  rw [aC (by omega),bg (by omega)]
  exact h
theorem afI {l : List eF} {W H : Nat} (hW : W <= 6) (hH : H <= 6) (hs : l.length = H * W) (i : Nat) (hi : i < 1000) (aJ aX aY bW bY aS aT aU aV : Int) (aI : List (Int × Int × Int × Int × Int)) {v : jc × Bool}
  (h : gW (jd aI aJ ((i + 1 : Nat) : Int) aS aT W H (fD (H * W) (mk W (fun x y => at' l W x (H - 1 - y))))) = some v) :
  gW (Po W H H 0 aI aJ i W H l aX aY (List.replicate (H * W) z4) bW bY aS aT aU aV) = some v := by
 refine jq (mk W (fun x y => at' l W x (H - 1 - y))) (fun y l' => gW (Po W H H (y : Nat) aI aJ i W H l aX aY l' bW bY aS aT aU aV) = some v) (fun y x l' => gW (Mc W H (y : Nat) (((y : Nat) * W : Nat) : Int) ((((y : Nat) + 1) * W : Nat) : Int) H (y : Nat) W (x : Nat) aI aJ i W H l aX aY l' bW bY aS aT aU aV) = some v) ?_ ?_ ?_ ?_
 ·intro y l' hy hl hq
  obtain ⟨w1,w2⟩ := jR hy hH hW
  have hm := l9 hy hH hW
  have e3 := bG (y := y) (W := W)
  have hln := gG l'
  refine eL ((aaW dd gW ..).trans ?_)
  rw [au (by omega),w1,w2,if_pos (by omega),if_pos (by omega),if_pos (by omega),Int.toNat_natCast,Int.toNat_natCast,mP hy hl]
  exact hq
 ·intro y x l' hy hx hl hq
  have e3 := bG (y := y) (W := W)
  rw [oq hx] at hq
  refine eL ((XW dd gW ..).trans ?_)
  rw [au (by omega)]
  rw [D69,Option.bind_some,aK (x := (H : Int) - 1) (by omega) (by omega),aK (x := (H : Int) - 1 - y) (by omega) (by omega),show (H : Int) - 1 - y = ((H - 1 - y : Nat) : Int) by omega,PZ hs hH hW hx (show H - 1 - y < H by omega),Option.bind_some]
  rw [if_pos (by omega),if_pos (by omega),bg (by omega),show (((y * W : Nat) : Int) + (x : Int)).toNat = y * W + x by omega]
  exact hq
 ·intro y l' hy hq
  refine eL ((XW dd gW ..).trans ?_)
  rw [aC (by omega),bg (by omega)]
  exact hq
 ·refine eL ((aaW dd gW ..).trans ?_)
  rw [aC (by omega),bg (by omega)]
  exact h
theorem afJ {l : List eF} {W H : Nat} (hW : W <= 6) (hH : H <= 6) (hs : l.length = W * H) (i : Nat) (hi : i < 1000) (aJ aX aY bW bY aS aT aU aV : Int) (aI : List (Int × Int × Int × Int × Int)) {v : jc × Bool}
  (h : gW (jd aI aJ ((i + 1 : Nat) : Int) aS aT W H (fD (H * W) (mk W (fun x y => at' l H y (W - 1 - x))))) = some v) :
  gW (Pq W H H 0 aI aJ i H W l aX aY (List.replicate (H * W) z4) bW bY aS aT aU aV) = some v := by
 refine jq (mk W (fun x y => at' l H y (W - 1 - x))) (fun y l' => gW (Pq W H H (y : Nat) aI aJ i H W l aX aY l' bW bY aS aT aU aV) = some v) (fun y x l' => gW (Me W H (y : Nat) (((y : Nat) * W : Nat) : Int) ((((y : Nat) + 1) * W : Nat) : Int) H (y : Nat) W (x : Nat) aI aJ i H W l aX aY l' bW bY aS aT aU aV) = some v) ?_ ?_ ?_ ?_
 ·intro y l' hy hl hq
  obtain ⟨w1,w2⟩ := jR hy hH hW
  have hm := l9 hy hH hW
  have e3 := bG (y := y) (W := W)
  have hln := gG l'
  refine eL ((aaX dd gW ..).trans ?_)
  rw [au (by omega),w1,w2,if_pos (by omega),if_pos (by omega),if_pos (by omega),Int.toNat_natCast,Int.toNat_natCast,mP hy hl]
  exact hq
 ·intro y x l' hy hx hl hq
  have e3 := bG (y := y) (W := W)
  rw [oq hx] at hq
  refine eL ((XY dd gW ..).trans ?_)
  rw [au (by omega)]
  rw [D71,Option.bind_some,aK (x := (W : Int) - 1) (by omega) (by omega),aK (x := (W : Int) - 1 - x) (by omega) (by omega),show (W : Int) - 1 - x = ((W - 1 - x : Nat) : Int) by omega,PZ hs hW hH hy (show W - 1 - x < W by omega),Option.bind_some]
  rw [if_pos (by omega),if_pos (by omega),bg (by omega),show (((y * W : Nat) : Int) + (x : Int)).toNat = y * W + x by omega]
  exact hq
 ·intro y l' hy hq
  refine eL ((XY dd gW ..).trans ?_)
  rw [aC (by omega),bg (by omega)]
  exact hq
 ·refine eL ((aaX dd gW ..).trans ?_)
  rw [aC (by omega),bg (by omega)]
  exact h
theorem afK {l : List eF} {W H : Nat} (hW : W <= 6) (hH : H <= 6) (hs : l.length = H * W) (i : Nat) (hi : i < 1000) (aJ aX aY bW bY aS aT aU aV : Int) (aI : List (Int × Int × Int × Int × Int)) {v : jc × Bool}
  (h : gW (jd aI aJ ((i + 1 : Nat) : Int) aS aT W H (fD (H * W) (mk W (fun x y => Dv (at' l W x y))))) = some v) :
  gW (Pv W H H 0 aI aJ i W H l aX aY (List.replicate (H * W) z4) bW bY aS aT aU aV) = some v := by
 refine jq (mk W (fun x y => Dv (at' l W x y))) (fun y l' => gW (Pv W H H (y : Nat) aI aJ i W H l aX aY l' bW bY aS aT aU aV) = some v) (fun y x l' => gW (MB W H (y : Nat) (((y : Nat) * W : Nat) : Int) ((((y : Nat) + 1) * W : Nat) : Int) H (y : Nat) W (x : Nat) aI aJ i W H l aX aY l' bW bY aS aT aU aV) = some v) ?_ ?_ ?_ ?_
 ·intro y l' hy hl hq
  obtain ⟨w1,w2⟩ := jR hy hH hW
  have hm := l9 hy hH hW
  have e3 := bG (y := y) (W := W)
  have hln := gG l'
  refine eL ((aaY dd gW ..).trans ?_)
  rw [au (by omega),w1,w2,if_pos (by omega),if_pos (by omega),if_pos (by omega),Int.toNat_natCast,Int.toNat_natCast,mP hy hl]
  exact hq
 ·intro y x l' hy hx hl hq
  have e3 := bG (y := y) (W := W)
  rw [oq hx] at hq
  refine eL ((XZ dd gW ..).trans ?_)
  rw [au (by omega)]
  rw [PZ hs hH hW hx hy,Option.bind_some,D73,Option.bind_some]
  rw [if_pos (by omega),if_pos (by omega),bg (by omega),show (((y * W : Nat) : Int) + (x : Int)).toNat = y * W + x by omega]
  exact hq
 ·intro y l' hy hq
  refine eL ((XZ dd gW ..).trans ?_)
  rw [aC (by omega),bg (by omega)]
  exact hq
 ·refine eL ((aaY dd gW ..).trans ?_)
  rw [aC (by omega),bg (by omega)]
  exact h
theorem afL {l : List eF} {W H : Nat} (hW : W <= 6) (hH : H <= 6) {V U : Nat} (hV1 : 1 <= V) (hV : V <= 6) (hU1 : 1 <= U) (hU : U <= 6) (hs : l.length = U * V) (k c3 c4 : Int) (i : Nat) (hi : i < 1000) (aJ dF dG aS aT aU aV bK bM : Int) (aI : List (Int × Int × Int × Int × Int)) {v : jc × Bool}
  (h : gW (jd aI aJ ((i + 1 : Nat) : Int) aU aV W H (fD (H * W) (mk W (fun x y => at' l V ((2 * x + 1) * V / (2 * W)) ((2 * y + 1) * U / (2 * H)))))) = some v) :
  gW (Px W H H 0 aI aJ i k W H c3 c4 V U l dF dG (List.replicate (H * W) z4) aS aT aU aV bK bM) = some v := by
 refine jq (mk W (fun x y => at' l V ((2 * x + 1) * V / (2 * W)) ((2 * y + 1) * U / (2 * H)))) (fun y l' => gW (Px W H H (y : Nat) aI aJ i k W H c3 c4 V U l dF dG l' aS aT aU aV bK bM) = some v) (fun y x l' => gW (MC W H (y : Nat) (((y : Nat) * W : Nat) : Int) ((((y : Nat) + 1) * W : Nat) : Int) H (y : Nat) W (x : Nat) aI aJ i k W H c3 c4 V U l dF dG l' aS aT aU aV bK bM) = some v) ?_ ?_ ?_ ?_
 ·intro y l' hy hl hq
  obtain ⟨w1,w2⟩ := jR hy hH hW
  have hm := l9 hy hH hW
  have e3 := bG (y := y) (W := W)
  have hln := gG l'
  refine eL ((aaZ dd gW ..).trans ?_)
  rw [au (by omega),w1,w2,if_pos (by omega),if_pos (by omega),if_pos (by omega),Int.toNat_natCast,Int.toNat_natCast,mP hy hl]
  exact hq
 ·intro y x l' hy hx hl hq
  have e3 := bG (y := y) (W := W)
  rw [oq hx] at hq
  refine eL ((X0 dd gW ..).trans ?_)
  rw [au (by omega)]
  obtain ⟨s1,s2,s3,s4⟩ := nK hx hW hV1 hV; obtain ⟨t1,t2,t3,t4⟩ := nK hy hH hU1 hU; rw [s1,t1,if_pos s2,if_pos t2,s3,t3,PZ hs hU hV s4 t4,Option.bind_some]
  rw [if_pos (by omega),if_pos (by omega),bg (by omega),show (((y * W : Nat) : Int) + (x : Int)).toNat = y * W + x by omega]
  exact hq
 ·intro y l' hy hq
  refine eL ((X0 dd gW ..).trans ?_)
  rw [aC (by omega),bg (by omega)]
  exact hq
 ·refine eL ((aaZ dd gW ..).trans ?_)
  rw [aC (by omega),bg (by omega)]
  exact h
theorem afM {l : List eF} {W H : Nat} (hW : W <= 6) (hH : H <= 6) (hs : l.length = H * W) (o : Op) (i : Nat) (hi : i < 1000) (aJ dF dG aS aT aU aV bK bM : Int) (aI : List (Int × Int × Int × Int × Int)) {v : jc × Bool}
  (h : gW (jd aI aJ ((i + 1 : Nat) : Int) aU aV W H (fD (H * W) (mk W (fun x y => Dw o (at' l W x y))))) = some v) :
  gW (Py W H H 0 aI aJ i o.1 o.2.1 o.2.2.1 o.2.2.2.1 o.2.2.2.2 W H l dF dG (List.replicate (H * W) z4) aS aT aU aV bK bM) = some v := by
 refine jq (mk W (fun x y => Dw o (at' l W x y))) (fun y l' => gW (Py W H H (y : Nat) aI aJ i o.1 o.2.1 o.2.2.1 o.2.2.2.1 o.2.2.2.2 W H l dF dG l' aS aT aU aV bK bM) = some v) (fun y x l' => gW (MF W H (y : Nat) (((y : Nat) * W : Nat) : Int) ((((y : Nat) + 1) * W : Nat) : Int) H (y : Nat) W (x : Nat) aI aJ i o.1 o.2.1 o.2.2.1 o.2.2.2.1 o.2.2.2.2 W H l dF dG l' aS aT aU aV bK bM) = some v) ?_ ?_ ?_ ?_
 ·intro y l' hy hl hq
  obtain ⟨w1,w2⟩ := jR hy hH hW
  have hm := l9 hy hH hW
  have e3 := bG (y := y) (W := W)
  have hln := gG l'
  refine eL ((aa0 dd gW ..).trans ?_)
  rw [au (by omega),w1,w2,if_pos (by omega),if_pos (by omega),if_pos (by omega),Int.toNat_natCast,Int.toNat_natCast,mP hy hl]
  exact hq
 ·intro y x l' hy hx hl hq
  have e3 := bG (y := y) (W := W)
  rw [oq hx] at hq
  refine eL ((X3 dd gW ..).trans ?_)
  rw [au (by omega)]
  obtain ⟨k,c1,c2,c3,c4⟩ := o; rw [PZ hs hH hW hx hy,Option.bind_some,afE,Option.bind_some,if_pos rfl,if_pos rfl,if_pos rfl,if_pos rfl,if_pos rfl]
  rw [if_pos (by omega),if_pos (by omega),bg (by omega),show (((y * W : Nat) : Int) + (x : Int)).toNat = y * W + x by omega]
  exact hq
 ·intro y l' hy hq
  refine eL ((X3 dd gW ..).trans ?_)
  rw [aC (by omega),bg (by omega)]
  exact hq
 ·refine eL ((aa0 dd gW ..).trans ?_)
  rw [aC (by omega),bg (by omega)]
  exact h
theorem ac7 {l : List eF} {W H : Nat} (hW : W <= 6) (hH : H <= 6) {V U : Nat} (hV1 : 1 <= V) (hV : V <= 6) (hU1 : 1 <= U) (hU : U <= 6) (hs : l.length = U * V) {a b : Nat} (ha : a + W <= V) (hb : b + H <= U) (k c3 c4 : Int) (i : Nat) (hi : i < 1000) (jm dF dG aS aT aU aV bK bM dW dX uJ uK : Int) (jl : List (Int × Int × Int × Int × Int)) {v : jc × Bool}
  (h : gW (jd jl jm ((i + 1 : Nat) : Int) bK bM W H (fD (H * W) (mk W (fun x y => at' l V (a + x) (b + y))))) = some v) :
  gW (II W H H 0 jl jm i k (a : Int) (b : Int) c3 c4 V U l dF dG (List.replicate (H * W) z4) aS aT aU aV bK bM dW dX uJ uK) = some v := by
 refine jq (mk W (fun x y => at' l V (a + x) (b + y))) (fun y l' => gW (II W H H (y : Nat) jl jm i k (a : Int) (b : Int) c3 c4 V U l dF dG l' aS aT aU aV bK bM dW dX uJ uK) = some v) (fun y x l' => gW (MG W H (y : Nat) (((y : Nat) * W : Nat) : Int) ((((y : Nat) + 1) * W : Nat) : Int) H (y : Nat) W (x : Nat) jl jm i k (a : Int) (b : Int) c3 c4 V U l dF dG l' aS aT aU aV bK bM dW dX uJ uK) = some v) ?_ ?_ ?_ ?_
 ·intro y l' hy hl hq
  obtain ⟨w1,w2⟩ := jR hy hH hW
  have hm := l9 hy hH hW
  have e3 := bG (y := y) (W := W)
  have hln := gG l'
  refine eL ((XL dd gW ..).trans ?_)
  rw [au (by omega),w1,w2,if_pos (by omega),if_pos (by omega),if_pos (by omega),Int.toNat_natCast,Int.toNat_natCast,mP hy hl]
  exact hq
 ·intro y x l' hy hx hl hq
  have e3 := bG (y := y) (W := W)
  rw [oq hx] at hq
  refine eL ((X4 dd gW ..).trans ?_)
  rw [au (by omega)]
  rw [aK (x := (a : Int) + x) (by omega) (by omega),aK (x := (b : Int) + y) (by omega) (by omega),show (a : Int) + x = ((a + x : Nat) : Int) by omega,show (b : Int) + y = ((b + y : Nat) : Int) by omega,PZ hs hU hV (show a + x < V by omega) (show b + y < U by omega),Option.bind_some]
  rw [if_pos (by omega),if_pos (by omega),bg (by omega),show (((y * W : Nat) : Int) + (x : Int)).toNat = y * W + x by omega]
  exact hq
 ·intro y l' hy hq
  refine eL ((X4 dd gW ..).trans ?_)
  rw [aC (by omega),bg (by omega)]
  exact hq
 ·refine eL ((XL dd gW ..).trans ?_)
  rw [aC (by omega),bg (by omega)]
  exact h
theorem ac8 {l : List eF} {W H : Nat} (hW : W <= 6) (hH : H <= 6) (hs : l.length = H * W) (i : Nat) (hi : i < 1000) (aJ aX aY bW bY aS aT aU aV bK bM : Int) (aI : List (Int × Int × Int × Int × Int)) {v : jc × Bool}
  (h : gW (jd aI aJ ((i + 1 : Nat) : Int) aS aT W H (fD (H * W) (mk W (fun x y => at' l W (W - 1 - x) y)))) = some v) :
  gW (IJ W H H 0 aI aJ i W H l aX aY (List.replicate (H * W) z4) bW bY aS aT aU aV bK bM) = some v := by
 refine jq (mk W (fun x y => at' l W (W - 1 - x) y)) (fun y l' => gW (IJ W H H (y : Nat) aI aJ i W H l aX aY l' bW bY aS aT aU aV bK bM) = some v) (fun y x l' => gW (MH W H (y : Nat) (((y : Nat) * W : Nat) : Int) ((((y : Nat) + 1) * W : Nat) : Int) H (y : Nat) W (x : Nat) aI aJ i W H l aX aY l' bW bY aS aT aU aV bK bM) = some v) ?_ ?_ ?_ ?_
 ·intro y l' hy hl hq
  obtain ⟨w1,w2⟩ := jR hy hH hW
  have hm := l9 hy hH hW
  have e3 := bG (y := y) (W := W)
  have hln := gG l'
  refine eL ((XM dd gW ..).trans ?_)
  rw [au (by omega),w1,w2,if_pos (by omega),if_pos (by omega),if_pos (by omega),Int.toNat_natCast,Int.toNat_natCast,mP hy hl]
  exact hq
 ·intro y x l' hy hx hl hq
  have e3 := bG (y := y) (W := W)
  rw [oq hx] at hq
  refine eL ((X5 dd gW ..).trans ?_)
  rw [au (by omega)]
  rw [D68,Option.bind_some,aK (x := (W : Int) - 1) (by omega) (by omega),aK (x := (W : Int) - 1 - x) (by omega) (by omega),show (W : Int) - 1 - x = ((W - 1 - x : Nat) : Int) by omega,PZ hs hH hW (show W - 1 - x < W by omega) hy,Option.bind_some]
  rw [if_pos (by omega),if_pos (by omega),bg (by omega),show (((y * W : Nat) : Int) + (x : Int)).toNat = y * W + x by omega]
  exact hq
 ·intro y l' hy hq
  refine eL ((X5 dd gW ..).trans ?_)
  rw [aC (by omega),bg (by omega)]
  exact hq
 ·refine eL ((XM dd gW ..).trans ?_)
  rw [aC (by omega),bg (by omega)]
  exact h
theorem ac9 {l : List eF} {W H : Nat} (hW : W <= 6) (hH : H <= 6) (hs : l.length = H * W) (i : Nat) (hi : i < 1000) (aJ aX aY bW bY aS aT aU aV bK bM : Int) (aI : List (Int × Int × Int × Int × Int)) {v : jc × Bool}
  (h : gW (jd aI aJ ((i + 1 : Nat) : Int) aS aT W H (fD (H * W) (mk W (fun x y => at' l W x (H - 1 - y))))) = some v) :
  gW (IK W H H 0 aI aJ i W H l aX aY (List.replicate (H * W) z4) bW bY aS aT aU aV bK bM) = some v := by
 refine jq (mk W (fun x y => at' l W x (H - 1 - y))) (fun y l' => gW (IK W H H (y : Nat) aI aJ i W H l aX aY l' bW bY aS aT aU aV bK bM) = some v) (fun y x l' => gW (MI W H (y : Nat) (((y : Nat) * W : Nat) : Int) ((((y : Nat) + 1) * W : Nat) : Int) H (y : Nat) W (x : Nat) aI aJ i W H l aX aY l' bW bY aS aT aU aV bK bM) = some v) ?_ ?_ ?_ ?_
 ·intro y l' hy hl hq
  obtain ⟨w1,w2⟩ := jR hy hH hW
  have hm := l9 hy hH hW
  have e3 := bG (y := y) (W := W)
  have hln := gG l'
  refine eL ((XO dd gW ..).trans ?_)
  rw [au (by omega),w1,w2,if_pos (by omega),if_pos (by omega),if_pos (by omega),Int.toNat_natCast,Int.toNat_natCast,mP hy hl]
  exact hq
 ·intro y x l' hy hx hl hq
  have e3 := bG (y := y) (W := W)
  rw [oq hx] at hq
  refine eL ((X6 dd gW ..).trans ?_)
  rw [au (by omega)]
  rw [D69,Option.bind_some,aK (x := (H : Int) - 1) (by omega) (by omega),aK (x := (H : Int) - 1 - y) (by omega) (by omega),show (H : Int) - 1 - y = ((H - 1 - y : Nat) : Int) by omega,PZ hs hH hW hx (show H - 1 - y < H by omega),Option.bind_some]
  rw [if_pos (by omega),if_pos (by omega),bg (by omega),show (((y * W : Nat) : Int) + (x : Int)).toNat = y * W + x by omega]
  exact hq
 ·intro y l' hy hq
  refine eL ((X6 dd gW ..).trans ?_)
  rw [aC (by omega),bg (by omega)]
  exact hq
 ·refine eL ((XO dd gW ..).trans ?_)
  rw [aC (by omega),bg (by omega)]
  exact h
theorem ada {l : List eF} {W H : Nat} (hW : W <= 6) (hH : H <= 6) (hs : l.length = W * H) (i : Nat) (hi : i < 1000) (aJ aX aY bW bY aS aT aU aV bK bM : Int) (aI : List (Int × Int × Int × Int × Int)) {v : jc × Bool}
  (h : gW (jd aI aJ ((i + 1 : Nat) : Int) aS aT W H (fD (H * W) (mk W (fun x y => at' l H y (W - 1 - x))))) = some v) :
  gW (IL W H H 0 aI aJ i H W l aX aY (List.replicate (H * W) z4) bW bY aS aT aU aV bK bM) = some v := by
 refine jq (mk W (fun x y => at' l H y (W - 1 - x))) (fun y l' => gW (IL W H H (y : Nat) aI aJ i H W l aX aY l' bW bY aS aT aU aV bK bM) = some v) (fun y x l' => gW (MJ W H (y : Nat) (((y : Nat) * W : Nat) : Int) ((((y : Nat) + 1) * W : Nat) : Int) H (y : Nat) W (x : Nat) aI aJ i H W l aX aY l' bW bY aS aT aU aV bK bM) = some v) ?_ ?_ ?_ ?_
 ·intro y l' hy hl hq
  obtain ⟨w1,w2⟩ := jR hy hH hW
  have hm := l9 hy hH hW
  have e3 := bG (y := y) (W := W)
  have hln := gG l'
  refine eL ((XP dd gW ..).trans ?_)
  rw [au (by omega),w1,w2,if_pos (by omega),if_pos (by omega),if_pos (by omega),Int.toNat_natCast,Int.toNat_natCast,mP hy hl]
  exact hq
 ·intro y x l' hy hx hl hq
  have e3 := bG (y := y) (W := W)
  rw [oq hx] at hq
  refine eL ((X7 dd gW ..).trans ?_)
  rw [au (by omega)]
  rw [D71,Option.bind_some,aK (x := (W : Int) - 1) (by omega) (by omega),aK (x := (W : Int) - 1 - x) (by omega) (by omega),show (W : Int) - 1 - x = ((W - 1 - x : Nat) : Int) by omega,PZ hs hW hH hy (show W - 1 - x < W by omega),Option.bind_some]
  rw [if_pos (by omega),if_pos (by omega),bg (by omega),show (((y * W : Nat) : Int) + (x : Int)).toNat = y * W + x by omega]
  exact hq
 ·intro y l' hy hq
  refine eL ((X7 dd gW ..).trans ?_)
  rw [aC (by omega),bg (by omega)]
  exact hq
 ·refine eL ((XP dd gW ..).trans ?_)
  rw [aC (by omega),bg (by omega)]
  exact h
theorem adb {l : List eF} {W H : Nat} (hW : W <= 6) (hH : H <= 6) (hs : l.length = H * W) (i : Nat) (hi : i < 1000) (aJ aX aY bW bY aS aT aU aV bK bM : Int) (aI : List (Int × Int × Int × Int × Int)) {v : jc × Bool}
  (h : gW (jd aI aJ ((i + 1 : Nat) : Int) aS aT W H (fD (H * W) (mk W (fun x y => Dv (at' l W x y))))) = some v) :
  gW (IQ W H H 0 aI aJ i W H l aX aY (List.replicate (H * W) z4) bW bY aS aT aU aV bK bM) = some v := by
 refine jq (mk W (fun x y => Dv (at' l W x y))) (fun y l' => gW (IQ W H H (y : Nat) aI aJ i W H l aX aY l' bW bY aS aT aU aV bK bM) = some v) (fun y x l' => gW (MK W H (y : Nat) (((y : Nat) * W : Nat) : Int) ((((y : Nat) + 1) * W : Nat) : Int) H (y : Nat) W (x : Nat) aI aJ i W H l aX aY l' bW bY aS aT aU aV bK bM) = some v) ?_ ?_ ?_ ?_
 ·intro y l' hy hl hq
  obtain ⟨w1,w2⟩ := jR hy hH hW
  have hm := l9 hy hH hW
  have e3 := bG (y := y) (W := W)
  have hln := gG l'
  refine eL ((XQ dd gW ..).trans ?_)
  rw [au (by omega),w1,w2,if_pos (by omega),if_pos (by omega),if_pos (by omega),Int.toNat_natCast,Int.toNat_natCast,mP hy hl]
  exact hq
 ·intro y x l' hy hx hl hq
  have e3 := bG (y := y) (W := W)
  rw [oq hx] at hq
  refine eL ((X8 dd gW ..).trans ?_)
  rw [au (by omega)]
  rw [PZ hs hH hW hx hy,Option.bind_some,D73,Option.bind_some]
  rw [if_pos (by omega),if_pos (by omega),bg (by omega),show (((y * W : Nat) : Int) + (x : Int)).toNat = y * W + x by omega]
  exact hq
 ·intro y l' hy hq
  refine eL ((X8 dd gW ..).trans ?_)
  rw [aC (by omega),bg (by omega)]
  exact hq
 ·refine eL ((XQ dd gW ..).trans ?_)
  rw [aC (by omega),bg (by omega)]
  exact h
theorem ade {l : List eF} {W H : Nat} (hW : W <= 6) (hH : H <= 6) {V U : Nat} (hV1 : 1 <= V) (hV : V <= 6) (hU1 : 1 <= U) (hU : U <= 6) (hs : l.length = U * V) (k c3 c4 : Int) (i : Nat) (hi : i < 1000) (aJ dF dG aS aT aU aV bK bM dW dX : Int) (aI : List (Int × Int × Int × Int × Int)) {v : jc × Bool}
  (h : gW (jd aI aJ ((i + 1 : Nat) : Int) aU aV W H (fD (H * W) (mk W (fun x y => at' l V ((2 * x + 1) * V / (2 * W)) ((2 * y + 1) * U / (2 * H)))))) = some v) :
  gW (IU W H H 0 aI aJ i k W H c3 c4 V U l dF dG (List.replicate (H * W) z4) aS aT aU aV bK bM dW dX) = some v := by
 refine jq (mk W (fun x y => at' l V ((2 * x + 1) * V / (2 * W)) ((2 * y + 1) * U / (2 * H)))) (fun y l' => gW (IU W H H (y : Nat) aI aJ i k W H c3 c4 V U l dF dG l' aS aT aU aV bK bM dW dX) = some v) (fun y x l' => gW (ML W H (y : Nat) (((y : Nat) * W : Nat) : Int) ((((y : Nat) + 1) * W : Nat) : Int) H (y : Nat) W (x : Nat) aI aJ i k W H c3 c4 V U l dF dG l' aS aT aU aV bK bM dW dX) = some v) ?_ ?_ ?_ ?_
 ·intro y l' hy hl hq
  obtain ⟨w1,w2⟩ := jR hy hH hW
  have hm := l9 hy hH hW
  have e3 := bG (y := y) (W := W)
  have hln := gG l'
  refine eL ((XR dd gW ..).trans ?_)
  rw [au (by omega),w1,w2,if_pos (by omega),if_pos (by omega),if_pos (by omega),Int.toNat_natCast,Int.toNat_natCast,mP hy hl]
  exact hq
 ·intro y x l' hy hx hl hq
  have e3 := bG (y := y) (W := W)
  rw [oq hx] at hq
  refine eL ((X9 dd gW ..).trans ?_)
  rw [au (by omega)]
  obtain ⟨s1,s2,s3,s4⟩ := nK hx hW hV1 hV; obtain ⟨t1,t2,t3,t4⟩ := nK hy hH hU1 hU; rw [s1,t1,if_pos s2,if_pos t2,s3,t3,PZ hs hU hV s4 t4,Option.bind_some]
  rw [if_pos (by omega),if_pos (by omega),bg (by omega),show (((y * W : Nat) : Int) + (x : Int)).toNat = y * W + x by omega]
  exact hq
 ·intro y l' hy hq
  refine eL ((X9 dd gW ..).trans ?_)
  rw [aC (by omega),bg (by omega)]
  exact hq
 ·refine eL ((XR dd gW ..).trans ?_)
  rw [aC (by omega),bg (by omega)]
  exact h
theorem adf {l : List eF} {W H : Nat} (hW : W <= 6) (hH : H <= 6) (hs : l.length = H * W) (o : Op) (i : Nat) (hi : i < 1000) (aJ dF dG aS aT aU aV bK bM dW dX : Int) (aI : List (Int × Int × Int × Int × Int)) {v : jc × Bool}
  (h : gW (jd aI aJ ((i + 1 : Nat) : Int) aU aV W H (fD (H * W) (mk W (fun x y => Dw o (at' l W x y))))) = some v) :
  gW (IV W H H 0 aI aJ i o.1 o.2.1 o.2.2.1 o.2.2.2.1 o.2.2.2.2 W H l dF dG (List.replicate (H * W) z4) aS aT aU aV bK bM dW dX) = some v := by
 refine jq (mk W (fun x y => Dw o (at' l W x y))) (fun y l' => gW (IV W H H (y : Nat) aI aJ i o.1 o.2.1 o.2.2.1 o.2.2.2.1 o.2.2.2.2 W H l dF dG l' aS aT aU aV bK bM dW dX) = some v) (fun y x l' => gW (MN W H (y : Nat) (((y : Nat) * W : Nat) : Int) ((((y : Nat) + 1) * W : Nat) : Int) H (y : Nat) W (x : Nat) aI aJ i o.1 o.2.1 o.2.2.1 o.2.2.2.1 o.2.2.2.2 W H l dF dG l' aS aT aU aV bK bM dW dX) = some v) ?_ ?_ ?_ ?_
 ·intro y l' hy hl hq
  obtain ⟨w1,w2⟩ := jR hy hH hW
  have hm := l9 hy hH hW
  have e3 := bG (y := y) (W := W)
  have hln := gG l'
  refine eL ((XT dd gW ..).trans ?_)
  rw [au (by omega),w1,w2,if_pos (by omega),if_pos (by omega),if_pos (by omega),Int.toNat_natCast,Int.toNat_natCast,mP hy hl]
  exact hq
 ·intro y x l' hy hx hl hq
  have e3 := bG (y := y) (W := W)
  rw [oq hx] at hq
  refine eL ((Ya dd gW ..).trans ?_)
  rw [au (by omega)]
  obtain ⟨k,c1,c2,c3,c4⟩ := o; rw [PZ hs hH hW hx hy,Option.bind_some,afE,Option.bind_some,if_pos rfl,if_pos rfl,if_pos rfl,if_pos rfl,if_pos rfl]
  rw [if_pos (by omega),if_pos (by omega),bg (by omega),show (((y * W : Nat) : Int) + (x : Int)).toNat = y * W + x by omega]
  exact hq
 ·intro y l' hy hq
  refine eL ((Ya dd gW ..).trans ?_)
  rw [aC (by omega),bg (by omega)]
  exact hq
 ·refine eL ((XT dd gW ..).trans ?_)
  rw [aC (by omega),bg (by omega)]
  exact h
end T
end
section
namespace T
open Go Go.E Go.Proofs
abbrev Acc := Nat × Int × Int × Int × Int
def Vu (acc : Acc) (p : eF) : Acc := (acc.1 + 1,wi (acc.2.1 + p.1),wi (acc.2.2.1 + p.2.1),wi (acc.2.2.2.1 + p.2.2.1),wi (acc.2.2.2.2 + p.2.2.2))
def rowA (l : List eF) (W y x k : Nat) (acc : Acc) : Acc := (List.range' x k).foldl (fun acc xx => Vu acc (at' l W xx y)) acc
def Dx (l : List eF) (W x n y k : Nat) (acc : Acc) : Acc := (List.range' y k).foldl (fun acc yy => rowA l W yy x n acc) acc
def wide (x W : Nat) : Nat := min (x + 1) (W - 1) + 1 - (x - 1)
def adg (a : Acc) : eF := (wi (a.2.1.tdiv a.1),wi (a.2.2.1.tdiv a.1),wi (a.2.2.2.1.tdiv a.1),wi (a.2.2.2.2.tdiv a.1))
def Dy (l : List eF) (W H x y : Nat) : eF := adg (Dx l W (x - 1) (wide x W) (y - 1) (wide y H) (0,0,0,0,0))
theorem KT {l : List eF} {W y x k : Nat} {acc : Acc} : rowA l W y x (k + 1) acc = rowA l W y (x + 1) k (Vu acc (at' l W x y)) := by unfold rowA; rfl
theorem wY {l : List eF} {W x n y k : Nat} {acc : Acc} : Dx l W x n y (k + 1) acc = Dx l W x n (y + 1) k (rowA l W y x n acc) := by unfold Dx; rfl
theorem BF {l : List eF} {W y : Nat} : ∀ {k x : Nat} {acc : Acc},(rowA l W y x k acc).1 = acc.1 + k
 | 0,x,acc => rfl
 | k + 1,x,acc => by rw [KT,BF]; show acc.1 + 1 + k = _; omega
theorem Ur {l : List eF} {W x n : Nat} : ∀ {k y : Nat} {acc : Acc},(Dx l W x n y k acc).1 = acc.1 + k * n
 | 0,y,acc => by rw [Nat.zero_mul]; rfl
 | k + 1,y,acc => by rw [wY,Ur,BF,Nat.add_mul]; omega
def FP (a : Acc) : Prop := a.1 <= 1000 ∧ (0 <= a.2.1 ∧ a.2.1 <= 255 * a.1) ∧ (0 <= a.2.2.1 ∧ a.2.2.1 <= 255 * a.1) ∧ (0 <= a.2.2.2.1 ∧ a.2.2.2.1 <= 255 * a.1) ∧ (0 <= a.2.2.2.2 ∧ a.2.2.2.2 <= 255 * a.1)
theorem adh {a : Acc} {p : eF} (h : FP a) (hp : gu p = true) (hn : a.1 < 1000) : FP (Vu a p) := by
 obtain ⟨n,r,g,b,e⟩ := a
 obtain ⟨h1,h2,h3,h4⟩ := kF.1 hp
 obtain ⟨k0,k1,k2,k3,k4⟩ := h
 dsimp only at k0 k1 k2 k3 k4 hn
 unfold Vu FP
 dsimp only
 rw [aK (x := r + p.1) (by omega) (by omega),aK (x := g + p.2.1) (by omega) (by omega),aK (x := b + p.2.2.1) (by omega) (by omega),aK (x := e + p.2.2.2) (by omega) (by omega)]
 omega
theorem Y1 {l : List eF} {W H y : Nat} (hl : l.length = H * W) (hp : l.all gu = true) (hy : y < H) : ∀ {k x : Nat} {acc : Acc},x + k <= W -> acc.1 + k <= 1000 -> FP acc -> FP (rowA l W y x k acc)
 | 0,x,acc,_,_,h => h
 | k + 1,x,acc,hx,hn,h => by
  rw [KT]
  have hm : y * W + W <= H * W := by rw [<- bG]; exact Nat.mul_le_mul_right W hy
  exact Y1 hl hp hy (by omega) (by show acc.1 + 1 + k <= _; omega) (adh h (nJ hp (by omega)) (by omega))
theorem rows_ok {l : List eF} {W H x n : Nat} (hl : l.length = H * W) (hp : l.all gu = true) (hx : x + n <= W) (hn : n <= 6) : ∀ {k y : Nat} {acc : Acc},y + k <= H -> acc.1 + 6 * k <= 1000 -> FP acc -> FP (Dx l W x n y k acc)
 | 0,y,acc,_,_,h => h
 | k + 1,y,acc,hy,hk,h => by
  rw [wY]
  exact rows_ok hl hp hx hn (by omega) (by rw [BF]; omega) (Y1 hl hp (by omega) hx (by omega) h)
theorem zU {x W : Nat} (hx : x < W) (hW : W <= 6) : x - 1 + wide x W <= W ∧ 1 <= wide x W ∧ wide x W <= 6 ∧ x - 1 + wide x W = min (x + 1) (W - 1) + 1 := by
 unfold wide; omega
theorem Nv {s : Int} {n : Nat} (h0 : 0 <= s) (h1 : s <= 255 * n) (hn : 1 <= n) (h2 : n <= 1000) : 0 <= wi (s.tdiv n) ∧ wi (s.tdiv n) <= 255 := by
 rw [td h0]
 have a : 0 <= s / (n : Int) := Int.ediv_nonneg h0 (by omega)
 have b : s / (n : Int) <= 255 := Int.ediv_le_of_le_mul (by omega) h1
 rw [aK (by omega) (by omega)]
 exact ⟨a,b⟩
theorem Nw {l : List eF} {W H x y : Nat} (hl : l.length = H * W) (hp : l.all gu = true) (hx : x < W) (hy : y < H) (hW : W <= 6) (hH : H <= 6) : gu (Dy l W H x y) = true := by
 obtain ⟨a1,a2,a3,a4⟩ := zU hx hW
 obtain ⟨b1,b2,b3,b4⟩ := zU hy hH
 have h := rows_ok hl hp a1 a3 b1 (acc := (0,0,0,0,0)) (by show 0 + _ <= _; omega) (by unfold FP; dsimp only; omega)
 have hn := Ur (l := l) (W := W) (x := x - 1) (n := wide x W) (k := wide y H) (y := y - 1) (acc := (0,0,0,0,0))
 have h1 : 1 <= wide y H * wide x W := Nat.mul_le_mul b2 a2
 unfold Dy
 generalize Dx l W (x - 1) (wide x W) (y - 1) (wide y H) (0,0,0,0,0) = a at *
 obtain ⟨k0,k1,k2,k3,k4⟩ := h
 have hn : 1 <= a.1 := by rw [hn]; show 1 <= 0 + _; omega
 exact kF.2 ⟨Nv k1.1 k1.2 hn k0,Nv k2.1 k2.2 hn k0,Nv k3.1 k3.2 hn k0,Nv k4.1 k4.2 hn k0⟩
theorem lo1 {x : Nat} (h : x < 1000) : (if wi ((x : Int) - 1) > 0 then wi ((x : Int) - 1) else 0) = ((x - 1 : Nat) : Int) := by
 rw [aK (by omega) (by omega)]; split <;> omega
theorem lo2 {x : Nat} (h : x < 1000) : (if 0 > wi ((x : Int) - 1) then 0 else wi ((x : Int) - 1)) = ((x - 1 : Nat) : Int) := by
 rw [aK (by omega) (by omega)]; split <;> omega
theorem hi1 {x W : Nat} (h : x < 1000) (hW : 1 <= W) (h6 : W <= 6) : (if wi ((x : Int) + 1) < wi ((W : Int) - 1) then wi ((x : Int) + 1) else wi ((W : Int) - 1)) = ((min (x + 1) (W - 1) : Nat) : Int) := by
 rw [aK (x := (x : Int) + 1) (by omega) (by omega),aK (x := (W : Int) - 1) (by omega) (by omega)]; split <;> omega
theorem hi2 {x W : Nat} (h : x < 1000) (hW : 1 <= W) (h6 : W <= 6) : (if wi ((W : Int) - 1) < wi ((x : Int) + 1) then wi ((W : Int) - 1) else wi ((x : Int) + 1)) = ((min (x + 1) (W - 1) : Nat) : Int) := by
 rw [aK (x := (x : Int) + 1) (by omega) (by omega),aK (x := (W : Int) - 1) (by omega) (by omega)]; split <;> omega
section spec
variable {l : List eF} {W H x y : Nat}
theorem abV (hl : l.length = H * W) (hx : x < W) (hW : W <= 6) (hH : H <= 6) (w y' : Nat) (hy' : w < H) (z0 z1 z2 z3 : Int) {v : eF} : ∀ (k xx : Nat) (a : Acc),xx + k = min (x + 1) (W - 1) + 1 -> a.1 + k <= 1000 ->
  PI (IZ x y' ((rowA l W w xx k a).1 : Nat) ((w + 1 : Nat) : Int) W H l z0 z1 z2 z3 (rowA l W w xx k a).2.1 (rowA l W w xx k a).2.2.1 (rowA l W w xx k a).2.2.2.1 (rowA l W w xx k a).2.2.2.2) = some v ->
  PI (MQ x y' (a.1 : Nat) w (xx : Nat) W H l z0 z1 z2 z3 a.2.1 a.2.2.1 a.2.2.2.1 a.2.2.2.2) = some v
 | 0,xx,a,hk,hn,h => by
  refine eL ((Yj dd PI ..).trans ?_)
  rw [hi1 (by omega) (by omega) hW,aC (by omega),bg (by omega)]
  exact h
 | k + 1,xx,a,hk,hn,h => by
  have hm := l9 hy' hH hW
  have hln := gG l
  refine eL ((Yj dd PI ..).trans ?_)
  rw [hi1 (by omega) (by omega) hW,au (by omega),wV,aK (x := ((w * W : Nat) : Int)) (by omega) (by omega),show ((w * W : Nat) : Int) + (xx : Int) = ((w * W + xx : Nat) : Int) by omega,aK (x := ((w * W + xx : Nat) : Int)) (by omega) (by omega),if_pos (by omega),if_pos (by omega),bg (by omega),bg (by omega)]
  exact abV hl hx hW hH w y' hy' z0 z1 z2 z3 k (xx + 1) (Vu a (at' l W xx w)) (by omega) (by show a.1 + 1 + k <= _; omega) h
theorem abW (hl : l.length = H * W) (hx : x < W) (hy : y < H) (hW : W <= 6) (hH : H <= 6) (z0 z1 z2 z3 : Int) : ∀ (k yy : Nat) (a : Acc),yy + k = min (y + 1) (H - 1) + 1 -> a.1 + 6 * k <= 1000 -> 1 <= a.1 + k ->
  PI (IZ x y (a.1 : Nat) yy W H l z0 z1 z2 z3 a.2.1 a.2.2.1 a.2.2.2.1 a.2.2.2.2) = some (adg (Dx l W (x - 1) (wide x W) yy k a))
 | 0,yy,a,hk,hn,h1 => by
  refine eL ((Yi dd PI ..).trans ?_)
  rw [hi1 (by omega) (by omega) hH,aC (by omega),if_pos (by omega),if_pos (by omega),if_pos (by omega),if_pos (by omega)]
  rfl
 | k + 1,yy,a,hk,hn,h1 => by
  obtain ⟨a1,a2,a3,a4⟩ := zU hx hW
  refine eL ((Yi dd PI ..).trans ?_)
  rw [hi1 (by omega) (by omega) hH,au (by omega),lo1 (by omega)]
  refine abV hl hx hW hH yy y (by omega) z0 z1 z2 z3 (wide x W) (x - 1) a a4 (by omega) ?_
  rw [wY]
  exact abW hl hx hy hW hH z0 z1 z2 z3 k (yy + 1) _ (by omega) (by rw [BF]; omega) (by rw [BF]; omega)
theorem aiZ (hl : l.length = H * W) (hx : x < W) (hy : y < H) (hW : W <= 6) (hH : H <= 6) : aeX dd (((W : Int),(H : Int),l),(x : Int),(y : Int)) = some (Dy l W H x y) := by
 obtain ⟨b1,b2,b3,b4⟩ := zU hy hH
 refine dL rfl ((ahs dd PI ..).trans ?_)
 rw [lo1 (by omega)]
 exact abW hl hx hy hW hH 0 0 0 0 (wide y H) (y - 1) (0,0,0,0,0) b4 (by show 0 + _ <= _; omega) (by show 1 <= 0 + _; omega)
end spec
end T
end
section
namespace T
open Go Go.E Go.Proofs
section impl
variable {l : List eF} {W H : Nat}
noncomputable abbrev Q2 (l : List eF) (W H x y : Nat) (z0 z1 z2 z3 c0 c1 d0 d1 : Int) (out : List eF) (yy : Int) (a : Acc) : St :=
 TR x y (a.1 : Nat) yy W H y ((y * W : Nat) : Int) (((y + 1) * W : Nat) : Int) H y W x ((y * W : Nat) : Int) (((y + 1) * W : Nat) : Int) x W H l z0 z1 z2 z3 a.2.1 a.2.2.1 a.2.2.2.1 a.2.2.2.2 c0 c1 out d0 d1
noncomputable abbrev Q3 (l : List eF) (W H x y : Nat) (z0 z1 z2 z3 c0 c1 d0 d1 : Int) (out : List eF) (yy xx : Int) (a : Acc) : St :=
 TS x y (a.1 : Nat) yy xx W H y ((y * W : Nat) : Int) (((y + 1) * W : Nat) : Int) H y W x ((y * W : Nat) : Int) (((y + 1) * W : Nat) : Int) x W H l z0 z1 z2 z3 a.2.1 a.2.2.1 a.2.2.2.1 a.2.2.2.2 c0 c1 out d0 d1
theorem afN (hl : l.length = H * W) (hW : W <= 6) (hH : H <= 6) {x y : Nat} (hx : x < W) (yy : Nat) (hy' : yy < H) (z0 z1 z2 z3 c0 c1 d0 d1 : Int) (out : List eF) {v : jc × Bool} : ∀ (k xx : Nat) (a : Acc),xx + k = min (x + 1) (W - 1) + 1 -> a.1 + k <= 1000 ->
  RN (Q2 l W H x y z0 z1 z2 z3 c0 c1 d0 d1 out ((yy + 1 : Nat) : Int) (rowA l W yy xx k a)) = some v -> RN (Q3 l W H x y z0 z1 z2 z3 c0 c1 d0 d1 out yy xx a) = some v
 | 0,xx,a,hk,hn,h => by
  refine eL ((abg dd RN ..).trans ?_)
  rw [hi2 (by omega) (by omega) hW,aC (by omega),bg (by omega)]
  exact h
 | k + 1,xx,a,hk,hn,h => by
  refine eL ((abg dd RN ..).trans ?_)
  rw [hi2 (by omega) (by omega) hW,au (by omega),PZ hl hH hW (show xx < W by omega) hy',Option.bind_some,bg (by omega),bg (by omega)]
  exact afN hl hW hH hx yy hy' z0 z1 z2 z3 c0 c1 d0 d1 out k (xx + 1) (Vu a (at' l W xx yy)) (by omega) (by show a.1 + 1 + k <= _; omega) h
theorem afO (hl : l.length = H * W) (hW : W <= 6) (hH : H <= 6) {x y : Nat} (hx : x < W) (hy : y < H) (z0 z1 z2 z3 c0 c1 d0 d1 : Int) (out : List eF) {v : jc × Bool} : ∀ (k yy : Nat) (a : Acc),yy + k = min (y + 1) (H - 1) + 1 -> a.1 + 6 * k <= 1000 -> 1 <= a.1 + k ->
  RN (PE W H y ((y * W : Nat) : Int) (((y + 1) * W : Nat) : Int) H y W ((x + 1 : Nat) : Int) W H l c0 c1 (out.set (y * W + x) (adg (Dx l W (x - 1) (wide x W) yy k a))) d0 d1) = some v -> RN (Q2 l W H x y z0 z1 z2 z3 c0 c1 d0 d1 out yy a) = some v
 | 0,yy,a,hk,hn,h1,h => by
  have e3 := bG (y := y) (W := W)
  refine eL ((abf dd RN ..).trans ?_)
  rw [hi2 (by omega) (by omega) hH,aC (by omega),if_pos (by omega),if_pos (by omega),if_pos (by omega),if_pos (by omega),if_pos (by omega),if_pos (by omega),bg (by omega),show (((y * W : Nat) : Int) + (x : Int)).toNat = y * W + x by omega]
  exact h
 | k + 1,yy,a,hk,hn,h1,h => by
  obtain ⟨a1,a2,a3,a4⟩ := zU hx hW
  refine eL ((abf dd RN ..).trans ?_)
  rw [hi2 (by omega) (by omega) hH,au (by omega),lo2 (by omega)]
  refine afN hl hW hH hx yy (by omega) z0 z1 z2 z3 c0 c1 d0 d1 out (wide x W) (x - 1) a a4 (by omega) ?_
  rw [wY] at h
  exact afO hl hW hH hx hy z0 z1 z2 z3 c0 c1 d0 d1 out k (yy + 1) _ (by omega) (by rw [BF]; omega) (by rw [BF]; omega) h
theorem D74 (hl : l.length = H * W) (hW : W <= 6) (hH : H <= 6) : r74 dd ((W : Int),(H : Int),l) = some (((W : Int),(H : Int),fD (H * W) (mk W (Dy l W H))),true) := by
 have hm := jJ hH hW
 have hw : wi ((W : Int) * H) = ((H * W : Nat) : Int) := by rw [wV,Nat.mul_comm]; exact aK (by omega) (by omega)
 refine dL rfl ((b74 dd RN ..).trans ?_); show (_ : Option (Rs × Bool)) = some _
 rw [hw,if_pos (by omega),if_pos (by omega),if_pos (by omega),Int.toNat_natCast]
 refine jq (mk W (Dy l W H)) (fun y l' => RN (TQ W H H (y : Nat) W H l 0 0 l' 0 0) = some (((W : Int),(H : Int),fD (H * W) (mk W (Dy l W H))),true)) (fun y x l' => RN (PE W H (y : Nat) (((y : Nat) * W : Nat) : Int) ((((y : Nat) + 1) * W : Nat) : Int) H (y : Nat) W (x : Nat) W H l 0 0 l' 0 0) = some (((W : Int),(H : Int),fD (H * W) (mk W (Dy l W H))),true)) ?_ ?_ ?_ ?_
 ·intro y l' hy hl hq
  obtain ⟨w1,w2⟩ := jR hy hH hW
  have hm := l9 hy hH hW
  have e3 := bG (y := y) (W := W)
  have hln := gG l'
  refine eL ((abd dd RN ..).trans ?_); show (_ : Option (Rs × Bool)) = some _
  rw [au (by omega),w1,w2,if_pos (by omega),if_pos (by omega),if_pos (by omega),Int.toNat_natCast,Int.toNat_natCast,mP hy hl]
  exact hq
 ·intro y x l' hy hx hl' hq
  obtain ⟨b1,b2,b3,b4⟩ := zU hy hH
  rw [oq hx] at hq
  refine eL ((abe dd RN ..).trans ?_); show (_ : Option (Rs × Bool)) = some _
  rw [au (by omega),lo2 (by omega)]
  exact afO hl hW hH hx hy 0 0 0 0 0 0 0 0 l' (wide y H) (y - 1) (0,0,0,0,0) b4 (by show 0 + _ <= _; omega) (by show 1 <= 0 + _; omega) hq
 ·intro y l' hy hq
  refine eL ((abe dd RN ..).trans ?_); show (_ : Option (Rs × Bool)) = some _
  rw [aC (by omega),bg (by omega)]
  exact hq
 ·refine eL ((abd dd RN ..).trans ?_); show (_ : Option (Rs × Bool)) = some _
  rw [aC (by omega)]
end impl
end T
end
section
namespace T
open Go Go.E Go.Proofs
def xB (W H : Nat) (f : Nat -> Nat -> eF) : jc := ((W : Int),(H : Int),fD (H * W) (mk W f))
theorem Gt {l : List eF} {W H y x : Nat} (hl : l.length = y * W + x) (hy : y < H) (hx : x < W) (hH : H <= 6) (hW : W <= 6) : (l.length + 1) * 32 <= 140737488355328 := by
 have := l9 hy hH hW
 omega
theorem D83 {l : List eF} {V U W H a b : Nat} (hs : l.length = U * V) (hV : V <= 6) (hU : U <= 6) (hW : W <= 6) (hH : H <= 6) (ha : a + W <= V) (hb : b + H <= U) (k : Int) : r83 dd (((V : Int),(U : Int),l),k,(a : Int),(b : Int),(W : Int),(H : Int)) = some (xB W H fun x y => at' l V (a + x) (b + y)) := by
 refine dL rfl ((b83 dd l83 ..).trans ?_)
 refine Gs (W := W) (H := H) (mk W fun x y => at' l V (a + x) (b + y)) (fun y l' => l83 (TY (y : Nat) V U l k a b W H 0 0 W H l') = some (xB W H fun x y => at' l V (a + x) (b + y))) (fun y x l' => l83 (Ua (y : Nat) (x : Nat) V U l k a b W H 0 0 W H l') = some (xB W H fun x y => at' l V (a + x) (b + y))) ?_ ?_ ?_ ?_
 ·intro y l' hy hl hq
  refine eL ((abo dd l83 ..).trans ?_)
  rw [au (by omega)]
  exact hq
 ·intro y x l' hy hx hl hq
  have hm := l9 (show b + y < U by omega) hU hV
  have hln := gG l
  rw [oq hx] at hq
  refine eL ((abp dd l83 ..).trans ?_)
  rw [au (by omega),aK (x := (b : Int) + y) (by omega) (by omega),show (b : Int) + y = ((b + y : Nat) : Int) by omega,wV,aK (x := (((b + y) * V : Nat) : Int)) (by omega) (by omega),aK (x := (((b + y) * V : Nat) : Int) + a) (by omega) (by omega),show (((b + y) * V : Nat) : Int) + a + x = (((b + y) * V + (a + x) : Nat) : Int) by omega,aK (x := (((b + y) * V + (a + x) : Nat) : Int)) (by omega) (by omega),if_pos (by omega),if_pos (by omega),if_pos (Gt hl hy hx hH hW),bg (by omega)]
  exact hq
 ·intro y l' hy hq
  refine eL ((abp dd l83 ..).trans ?_)
  rw [aC (by omega),bg (by omega)]
  exact hq
 ·refine eL ((abo dd l83 ..).trans ?_)
  rw [aC (by omega)]
  rfl
theorem D84 {l : List eF} {W H : Nat} (hs : l.length = H * W) (hW : W <= 6) (hH : H <= 6) : r84 dd ((W : Int),(H : Int),l) = some (xB W H fun x y => at' l W (W - 1 - x) y) := by
 refine dL rfl ((b84 dd l84 ..).trans ?_)
 refine Gs (W := W) (H := H) (mk W fun x y => at' l W (W - 1 - x) y) (fun y l' => l84 (Ub (y : Nat) W H l 0 0 W H l') = some (xB W H fun x y => at' l W (W - 1 - x) y)) (fun y x l' => l84 (Uc (y : Nat) ((W : Int) - 1 - (x : Nat)) W H l 0 0 W H l') = some (xB W H fun x y => at' l W (W - 1 - x) y)) ?_ ?_ ?_ ?_
 ·intro y l' hy hl hq
  refine eL ((abq dd l84 ..).trans ?_)
  rw [au (by omega),aK (x := (W : Int) - 1) (by omega) (by omega),show (W : Int) - 1 = (W : Int) - 1 - ((0 : Nat) : Int) by omega]
  exact hq
 ·intro y x l' hy hx hl hq
  have hm := l9 hy hH hW
  have hln := gG l
  rw [oq hx] at hq
  refine eL ((abr dd l84 ..).trans ?_)
  rw [au (by omega),wV,aK (x := ((y * W : Nat) : Int)) (by omega) (by omega),show ((y * W : Nat) : Int) + ((W : Int) - 1 - (x : Int)) = ((y * W + (W - 1 - x) : Nat) : Int) by omega,aK (x := ((y * W + (W - 1 - x) : Nat) : Int)) (by omega) (by omega),if_pos (by omega),if_pos (by omega),if_pos (Gt hl hy hx hH hW),aK (x := (W : Int) - 1 - x - 1) (by omega) (by omega),show (W : Int) - 1 - x - 1 = (W : Int) - 1 - ((x + 1 : Nat) : Int) by omega]
  exact hq
 ·intro y l' hy hq
  refine eL ((abr dd l84 ..).trans ?_)
  rw [aC (by omega),bg (by omega)]
  exact hq
 ·refine eL ((abq dd l84 ..).trans ?_)
  rw [aC (by omega)]
  rfl
theorem D85 {l : List eF} {W H : Nat} (hs : l.length = W * H) (hW : W <= 6) (hH : H <= 6) : r85 dd ((H : Int),(W : Int),l) = some (xB W H fun x y => at' l H y (W - 1 - x)) := by
 refine dL rfl ((b85 dd l85 ..).trans ?_)
 refine Gs (W := W) (H := H) (mk W fun x y => at' l H y (W - 1 - x)) (fun y l' => l85 (Ud (y : Nat) H W l 0 0 W H l') = some (xB W H fun x y => at' l H y (W - 1 - x))) (fun y x l' => l85 (Ue (y : Nat) (x : Nat) H W l 0 0 W H l') = some (xB W H fun x y => at' l H y (W - 1 - x))) ?_ ?_ ?_ ?_
 ·intro y l' hy hl hq
  refine eL ((abt dd l85 ..).trans ?_)
  rw [au (by omega)]
  exact hq
 ·intro y x l' hy hx hl hq
  have hm := l9 (show W - 1 - x < W by omega) hW hH
  have hln := gG l
  rw [oq hx] at hq
  refine eL ((abu dd l85 ..).trans ?_)
  rw [au (by omega),aK (x := (W : Int) - 1) (by omega) (by omega),aK (x := (W : Int) - 1 - x) (by omega) (by omega),show (W : Int) - 1 - x = ((W - 1 - x : Nat) : Int) by omega,wV,aK (x := (((W - 1 - x) * H : Nat) : Int)) (by omega) (by omega),show (((W - 1 - x) * H : Nat) : Int) + (y : Int) = (((W - 1 - x) * H + y : Nat) : Int) by omega,aK (x := (((W - 1 - x) * H + y : Nat) : Int)) (by omega) (by omega),if_pos (by omega),if_pos (by omega),if_pos (Gt hl hy hx hH hW),bg (by omega)]
  exact hq
 ·intro y l' hy hq
  refine eL ((abu dd l85 ..).trans ?_)
  rw [aC (by omega),bg (by omega)]
  exact hq
 ·refine eL ((abt dd l85 ..).trans ?_)
  rw [aC (by omega)]
  rfl
theorem D86 {l : List eF} {V U W H : Nat} (hs : l.length = U * V) (hV1 : 1 <= V) (hV : V <= 6) (hU1 : 1 <= U) (hU : U <= 6) (hW : W <= 6) (hH : H <= 6) (k c d : Int) : r86 dd (((V : Int),(U : Int),l),k,(W : Int),(H : Int),c,d) = some (xB W H fun x y => at' l V ((2 * x + 1) * V / (2 * W)) ((2 * y + 1) * U / (2 * H))) := by
 refine dL rfl ((b86 dd l86 ..).trans ?_)
 refine Gs (W := W) (H := H) (mk W fun x y => at' l V ((2 * x + 1) * V / (2 * W)) ((2 * y + 1) * U / (2 * H))) (fun y l' => l86 (Uf (y : Nat) V U l k W H c d 0 0 W H l') = some (xB W H fun x y => at' l V ((2 * x + 1) * V / (2 * W)) ((2 * y + 1) * U / (2 * H)))) (fun y x l' => l86 (Ug (y : Nat) (x : Nat) V U l k W H c d 0 0 W H l') = some (xB W H fun x y => at' l V ((2 * x + 1) * V / (2 * W)) ((2 * y + 1) * U / (2 * H)))) ?_ ?_ ?_ ?_
 ·intro y l' hy hl hq
  refine eL ((abv dd l86 ..).trans ?_)
  rw [au (by omega)]
  exact hq
 ·intro y x l' hy hx hl hq
  obtain ⟨s1,s2,s3,s4⟩ := nK hx hW hV1 hV
  obtain ⟨t1,t2,t3,t4⟩ := nK hy hH hU1 hU
  rw [oq hx] at hq
  refine eL ((abw dd l86 ..).trans ?_)
  rw [au (by omega),s1,t1,if_pos t2,if_pos s2,s3,t3]
  generalize (2 * x + 1) * V / (2 * W) = a at *
  generalize (2 * y + 1) * U / (2 * H) = b at *
  have hm := l9 t4 hU hV
  have hln := gG l
  rw [wV,aK (x := ((b * V : Nat) : Int)) (by omega) (by omega),show ((b * V : Nat) : Int) + (a : Int) = ((b * V + a : Nat) : Int) by omega,aK (x := ((b * V + a : Nat) : Int)) (by omega) (by omega),if_pos (by omega),if_pos (by omega),if_pos (Gt hl hy hx hH hW),bg (by omega)]
  exact hq
 ·intro y l' hy hq
  refine eL ((abw dd l86 ..).trans ?_)
  rw [aC (by omega),bg (by omega)]
  exact hq
 ·refine eL ((abv dd l86 ..).trans ?_)
  rw [aC (by omega)]
  rfl
def zf (o : Op) (l : List eF) (W H x y : Nat) : eF := if o.1 = 5 then Dv (at' l W x y) else if o.1 = 6 then Dy l W H x y else Dw o (at' l W x y)
theorem L87 {l : List eF} {W H : Nat} (hs : l.length = H * W) (hW1 : 1 <= W) (hW : W <= 6) (hH : H <= 6) (o : Op) : ∀ (k i : Nat),i + k = H * W ->
  l87 (KI (i : Nat) W H l o.1 o.2.1 o.2.2.1 o.2.2.2.1 o.2.2.2.2 0 0 W H (fD i (mk W (zf o l W H)))) = some (xB W H (zf o l W H))
 | 0,i,h => by
  have hln := gG l
  refine eL ((abx dd l87 ..).trans ?_)
  have : i = H * W := by omega
  subst this
  rw [aC (by omega)]
  rfl
 | k + 1,i,h => by
  have hm := jJ hH hW
  have hln := gG l
  have hg : (fD i (mk W (zf o l W H))).length = i := jQ
  have hi : i / W * W + i % W = i := by rw [Nat.mul_comm]; exact Nat.div_add_mod i W
  have hx : i % W < W := Nat.mod_lt _ hW1
  have hy : i / W < H := Nat.div_lt_of_lt_mul (by rw [Nat.mul_comm]; omega)
  have ha : gt l (i : Int) z4 = at' l W (i % W) (i / W) := by show _ = gt l ((i / W * W + i % W : Nat) : Int) z4; rw [hi]
  have ih := L87 hs hW1 hW hH o k (i + 1) (by omega)
  rw [zS] at ih
  have hd := aiZ hs hx hy hW hH
  refine eL ((abx dd l87 ..).trans ?_)
  rw [au (by omega),bg (by omega)]
  by_cases h5 : o.1 = 5
  ·rw [bJ h5,if_pos (by omega),if_pos (by omega),aiW,Option.bind_some,if_pos (by omega)]
   have : mk W (zf o l W H) i = Dv (gt l i z4) := by unfold mk zf; rw [if_pos h5,ha]
   rw [this] at ih
   exact ih
  ·rw [aN h5]
   by_cases h6 : o.1 = 6
   ·rw [bJ h6,if_pos (by omega),if_pos (by omega),tm (by omega),td (by omega), <- Int.natCast_emod, <- Int.natCast_ediv]
    have e1 : wi ((i / W : Nat) : Int) = ((i / W : Nat) : Int) := by
     generalize i / W = q at *
     exact aK (by omega) (by omega)
    rw [e1,hd,Option.bind_some,if_pos (by omega)]
    have : mk W (zf o l W H) i = Dy l W H (i % W) (i / W) := by unfold mk zf; rw [if_neg h5,if_pos h6]
    rw [this] at ih
    exact ih
   ·rw [aN h6,if_pos (by omega),if_pos (by omega),aiX,Option.bind_some,if_pos (by omega)]
    have : mk W (zf o l W H) i = Dw o (gt l i z4) := by unfold mk zf; rw [if_neg h5,if_neg h6,ha]
    rw [this] at ih
    exact ih
theorem D87 {l : List eF} {W H : Nat} (hs : l.length = H * W) (hW1 : 1 <= W) (hW : W <= 6) (hH : H <= 6) (o : Op) : r87 dd (((W : Int),(H : Int),l),o) = some (xB W H (zf o l W H)) := by
 obtain ⟨k,a,b,c,e⟩ := o
 refine dL rfl ((b87 dd l87 ..).trans ?_)
 exact L87 hs hW1 hW hH (k,a,b,c,e) (H * W) 0 (by omega)
end T
end
section
namespace T
open Go Go.E Go.Proofs
def VD (o : Op) (l : List eF) (W H : Nat) : Option jc :=
 if o.1 = 1 then if o.2.1 + o.2.2.2.1 > (W : Int) then none else if o.2.2.1 + o.2.2.2.2 > (H : Int) then none else some (xB o.2.2.2.1.toNat o.2.2.2.2.toNat fun x y => at' l W (o.2.1.toNat + x) (o.2.2.1.toNat + y))
 else if o.1 = 2 then some (xB W H fun x y => at' l W (W - 1 - x) y)
 else if o.1 = 3 then some (xB W H fun x y => at' l W x (H - 1 - y))
 else if o.1 = 4 then some (xB H W fun x y => at' l W y (H - 1 - x))
 else if o.1 = 7 then some (xB o.2.1.toNat o.2.2.1.toNat fun x y => at' l W ((2 * x + 1) * W / (2 * o.2.1.toNat)) ((2 * y + 1) * H / (2 * o.2.2.1.toNat)))
 else some (xB W H (zf o l W H))
def tY : List Op -> jc -> Option jc
 | [],r => some r
 | o :: os,r => (VD o r.2.2 r.1.toNat r.2.1.toNat).bind (tY os)
def Ny : Option jc -> jc × Bool
 | none => ((0,0,[]),false)
 | some r => (r,true)
inductive OpC : Op -> Prop where
 | Y2 (a b c e : Nat) (ha : a <= 5) (hb : b <= 5) (hc1 : 1 <= c) (hc : c <= 6) (he1 : 1 <= e) (he : e <= 6) : OpC (1,a,b,c,e)
 | Qb : OpC (2,0,0,0,0)
 | Qc : OpC (3,0,0,0,0)
 | turn : OpC (4,0,0,0,0)
 | gray : OpC (5,0,0,0,0)
 | mean : OpC (6,0,0,0,0)
 | size (a b : Nat) (ha1 : 1 <= a) (ha : a <= 6) (hb1 : 1 <= b) (hb : b <= 6) : OpC (7,a,b,0,0)
 | flat (a b c : Int) (ha : 0 <= a ∧ a <= 255) (hb : 0 <= b ∧ b <= 255) (hc : 0 <= c ∧ c <= 255) : OpC (8,a,b,c,0)
theorem adi {o : Op} (h : sV o = true) : OpC o := by
 obtain ⟨k,a,b,c,e⟩ := o
 unfold sV at h
 dsimp only at h
 split at h
 ·rename_i hk
  simp only [Bool.and_eq_true,jI] at h
  obtain ⟨h1,h2,h3,h4⟩ := h
  have := OpC.Y2 a.toNat b.toNat c.toNat e.toNat (by omega) (by omega) (by omega) (by omega) (by omega) (by omega)
  rw [Int.toNat_of_nonneg (by omega),Int.toNat_of_nonneg (by omega),Int.toNat_of_nonneg (by omega),Int.toNat_of_nonneg (by omega)] at this
  rw [hk]; exact this
 ·split at h
  ·rename_i hk
   simp only [Bool.and_eq_true,jI,beq_iff_eq] at h
   obtain ⟨h1,h2,h3,h4⟩ := h
   have := OpC.size a.toNat b.toNat (by omega) (by omega) (by omega) (by omega)
   rw [Int.toNat_of_nonneg (by omega),Int.toNat_of_nonneg (by omega)] at this
   rw [hk,h3,h4]; exact this
  ·split at h
   ·rename_i hk
    simp only [Bool.and_eq_true,jI,beq_iff_eq] at h
    obtain ⟨h1,h2,h3,h4⟩ := h
    rw [hk,h4]; exact OpC.flat a b c h1 h2 h3
   ·simp only [Bool.and_eq_true,jI,beq_iff_eq] at h
    obtain ⟨h0,h1,h2,h3,h4⟩ := h
    subst h1 h2 h3 h4
    have : k = 2 ∨ k = 3 ∨ k = 4 ∨ k = 5 ∨ k = 6 := by omega
    rcases this with rfl | rfl | rfl | rfl | rfl
    ·exact .Qb
    ·exact .Qc
    ·exact .turn
    ·exact .gray
    ·exact .mean
theorem lF {W H : Nat} {f : Nat -> Nat -> eF} (hW1 : 1 <= W) (hW : W <= 6) (hH1 : 1 <= H) (hH : H <= 6) (hf : ∀ x y,x < W -> y < H -> gu (f x y) = true) : iq (xB W H f) W H := by
 refine ⟨rfl,rfl,hW1,hW,hH1,hH,jQ,?_⟩
 refine List.all_eq_true.2 fun p hp => ?_
 have hp : p ∈ fD (H * W) (mk W f) := hp
 unfold fD at hp
 obtain ⟨i,hi,rfl⟩ := List.mem_map.1 hp
 have hi : i < H * W := by simpa using hi
 exact hf _ _ (Nat.mod_lt _ (by omega)) (Nat.div_lt_of_lt_mul (by rw [Nat.mul_comm]; exact hi))
theorem nC {l : List eF} {W H x y : Nat} (hl : l.length = H * W) (hp : l.all gu = true) (hx : x < W) (hy : y < H) : gu (at' l W x y) = true := by
 have hm : y * W + W <= H * W := by rw [<- bG]; exact Nat.mul_le_mul_right W hy
 exact nJ hp (by omega)
section eqs
variable {l : List eF} {W H : Nat}
theorem Us {a b c e : Nat} : VD (1,a,b,c,e) l W H = if (a : Int) + c > W then none else if (b : Int) + e > H then none else some (xB c e fun x y => at' l W (a + x) (b + y)) := by
 unfold VD; rw [if_pos rfl]; rfl
end eqs
theorem abX {o : Op} {r : jc} {W H : Nat} (ho : OpC o) (hn : iq r W H) {r' : jc} (h : VD o r.2.2 W H = some r') : ∃ W' H',iq r' W' H' := by
 have hl := hn.len; have hp := hn.YR; have hW1 := hn.w1; have hW := hn.w6; have hH1 := hn.h1; have hH := hn.h6
 cases ho with
 | Y2 a b c e ha hb hc1 hc he1 he =>
  rw [Us] at h
  split at h
  ·cases h
  ·split at h
   ·cases h
   ·cases h
    exact ⟨c,e,lF hc1 hc he1 he fun x y hx hy => nC hl hp (by omega) (by omega)⟩
 | Qb => cases h; exact ⟨W,H,lF hW1 hW hH1 hH fun x y hx hy => nC hl hp (by omega) (by omega)⟩
 | Qc => cases h; exact ⟨W,H,lF hW1 hW hH1 hH fun x y hx hy => nC hl hp (by omega) (by omega)⟩
 | turn => cases h; exact ⟨H,W,lF hH1 hH hW1 hW fun x y hx hy => nC hl hp (by omega) (by omega)⟩
 | gray => cases h; exact ⟨W,H,lF hW1 hW hH1 hH fun x y hx hy => Ns (nC hl hp (by omega) (by omega))⟩
 | mean => cases h; exact ⟨W,H,lF hW1 hW hH1 hH fun x y hx hy => Nw hl hp hx hy hW hH⟩
 | size a b ha1 ha hb1 hb => cases h; exact ⟨a,b,lF ha1 ha hb1 hb fun x y hx hy => nC hl hp (nK hx ha hW1 hW).2.2.2 (nK hy hb hH1 hH).2.2.2⟩
 | flat a b c ha hb hc => cases h; exact ⟨W,H,lF hW1 hW hH1 hH fun x y hx hy => Nu (nC hl hp (by omega) (by omega)) ⟨ha,hb,hc⟩⟩
theorem D50 {o : Op} {r : jc} {W H : Nat} (ho : OpC o) (hn : iq r W H) : r50 dd (r,o) = some (Ny (VD o r.2.2 W H)) := by
 obtain ⟨w,h,l⟩ := r
 have e1 : w = W := hn.w; have e2 : h = H := hn.h
 subst e1 e2
 have hl : l.length = H * W := hn.len; have hp := hn.YR; have hW1 := hn.w1; have hW := hn.w6; have hH1 := hn.h1; have hH := hn.h6
 cases ho with
 | Y2 a b c e ha hb hc1 hc he1 he =>
  refine dL rfl ((b50 dd l50 ..).trans ?_)
  rw [bJ rfl,aK (x := (a : Int) + c) (by omega) (by omega),aK (x := (b : Int) + e) (by omega) (by omega),Us,PS,PS]
  split
  ·rfl
  ·split
   ·rfl
   ·rw [D83 hl hW hH hc he (by omega) (by omega),Option.bind_some]; rfl
 | Qb => refine dL rfl ((b50 dd l50 ..).trans ?_); rw [aN (by decide),bJ rfl,D84 hl hW hH,Option.bind_some]; rfl
 | Qc => refine dL rfl ((b50 dd l50 ..).trans ?_); rw [aN (by decide),aN (by decide),bJ rfl,D78 hn,Option.bind_some]; rfl
 | turn => refine dL rfl ((b50 dd l50 ..).trans ?_); rw [aN (by decide),aN (by decide),aN (by decide),bJ rfl,D85 (W := H) (H := W) hl hH hW,Option.bind_some]; rfl
 | gray => refine dL rfl ((b50 dd l50 ..).trans ?_); rw [aN (by decide),aN (by decide),aN (by decide),aN (by decide),aN (by decide),D87 hl hW1 hW hH,Option.bind_some]; rfl
 | mean => refine dL rfl ((b50 dd l50 ..).trans ?_); rw [aN (by decide),aN (by decide),aN (by decide),aN (by decide),aN (by decide),D87 hl hW1 hW hH,Option.bind_some]; rfl
 | size a b ha1 ha hb1 hb => refine dL rfl ((b50 dd l50 ..).trans ?_); rw [aN (by decide),aN (by decide),aN (by decide),aN (by decide),bJ rfl,D86 hl hW1 hW hH1 hH ha hb,Option.bind_some]; rfl
 | flat a b c ha hb hc => refine dL rfl ((b50 dd l50 ..).trans ?_); rw [aN (by decide),aN (by decide),aN (by decide),aN (by decide),aN (by decide),D87 hl hW1 hW hH,Option.bind_some]; rfl
theorem D49 {r : jc} {W H : Nat} (hn : iq r W H) : r49 dd r = some r := by
 obtain ⟨w,h,l⟩ := r
 have hm := jJ hn.h6 hn.w6
 have hl : l.length = H * W := hn.len
 refine dL rfl ((b49 dd l49 ..).trans ?_); show (_ : Option Rs) = some _
 rw [if_pos (by omega)]
theorem L27 {ops : List Op} (ho : ops.all sV = true) (hlen : ops.length <= 5) (x y : Int) : ∀ (k i : Nat) (r : jc) (W H : Nat),i + k = ops.length -> iq r W H ->
  l27 (TD ops i x y r.1 r.2.1 r.2.2) = some (Ny (tY (ops.drop i) r))
 | 0,i,r,W,H,hi,hn => by
  have hln := gG ops
  refine eL ((aa2 dd l27 ..).trans ?_)
  rw [aC (by omega),List.drop_eq_nil_of_le (by omega)]
  rfl
 | k + 1,i,r,W,H,hi,hn => by
  have hln := gG ops
  have hlt : i < ops.length := by omega
  have hc := adi (nJ (z := (0,0,0,0,0)) ho hlt)
  refine eL ((aa2 dd l27 ..).trans ?_)
  rw [au (by omega),if_pos (by omega),if_pos (by omega),D50 hc hn,Option.bind_some,kE (z := (0,0,0,0,0)) hlt,bg (by omega)]
  show _ = some (Ny ((VD _ r.2.2 r.1.toNat r.2.1.toNat).bind (tY _)))
  rw [hn.w,hn.h,Int.toNat_natCast,Int.toNat_natCast]
  cases hop : VD (gt ops (i : Int) (0,0,0,0,0)) r.2.2 W H with
  | none => rfl
  | some r' =>
   obtain ⟨W',H',hn'⟩ := abX hc hn hop
   exact L27 ho hlen x y k (i + 1) r' W' H' (by omega) hn'
theorem Nz : ∀ {ops : List Op} {r : jc} {W H : Nat},(∀ o ∈ ops,OpC o) -> iq r W H -> ∀ {r' : jc},tY ops r = some r' -> ∃ W' H',iq r' W' H'
 | [],r,W,H,_,hn,r',h => by cases h; exact ⟨W,H,hn⟩
 | o :: os,r,W,H,ho,hn,r',h => by
  unfold tY at h
  rw [hn.w,hn.h,Int.toNat_natCast,Int.toNat_natCast] at h
  cases hop : VD o r.2.2 W H with
  | none => rw [hop] at h; cases h
  | some r1 =>
   rw [hop] at h
   obtain ⟨W',H',hn'⟩ := abX (ho o (List.mem_cons_self ..)) hn hop
   exact Nz (fun x hx => ho x (List.mem_cons_of_mem _ hx)) hn' h
theorem D27 {r : jc} {W H : Nat} {ops : List Op} (hn : iq r W H) (ho : nZ ops = true) : r27 dd (r,ops) = some (Ny (tY ops r)) := by
 obtain ⟨h1,h2⟩ := Bool.and_eq_true _ _ ▸ ho
 have h1 : ops.length <= 5 := of_decide_eq_true h1
 have hm := jJ hn.h6 hn.w6
 have hl := hn.len
 have a1 := D48 r (by show r.2.2.length < _; omega)
 rw [nI.2 ⟨W,H,hn⟩] at a1
 have a2 := D25 ops (by show ops.length < _; omega)
 rw [ho] at a2
 have a3 := D49 hn
 have a4 := L27 h2 h1 0 0 ops.length 0 r W H (by omega) hn
 obtain ⟨w,h,l⟩ := r
 refine dL rfl ((b27 dd l27 ..).trans ?_); show (_ : Option (Rs × Bool)) = some _
 rw [a1,Option.bind_some]
 show (bif false then _ else _) = _
 rw [cond_false,a2,Option.bind_some]
 show (bif false then _ else _) = _
 rw [cond_false,a3,Option.bind_some]
 exact a4
end T
end
section
namespace T
open Go Go.E Go.Proofs
theorem BG {W H : Nat} (hW : W <= 6) (hH : H <= 6) : wi ((W : Int) * H) = ((H * W : Nat) : Int) := by
 have hm := jJ hH hW
 rw [wV,Nat.mul_comm]; exact aK (by omega) (by omega)
theorem pW {α : Type} {x : Option α} {l : List (Option α)} {r : α} (h : x = some r) (hl : ∀ y ∈ l,y = some r) : ∀ y ∈ x :: l,y = some r := fun y hy => by
 rcases List.mem_cons.1 hy with e | hy
 ·rw [e]; exact h
 ·exact hl y hy
theorem L23 {ops : List Op} (ho : ops.all sV = true) (hlen : ops.length <= 5) (x y : Int) : ∀ (k i : Nat) (r : jc) (W H : Nat),i + k = ops.length -> iq r W H ->
  gW (jd ops (ln ops) i x y r.1 r.2.1 r.2.2) = some (Ny (tY (ops.drop i) r))
 | 0,i,r,W,H,hi,hn => by
  have hln := gG ops
  refine eL ((aaT dd gW ..).trans ?_)
  rw [aC (by omega),List.drop_eq_nil_of_le (by omega)]
  rfl
 | k + 1,i,r,W,H,hi,hn => by
  have hln := gG ops
  have hlt : i < ops.length := by omega
  have hc := adi (nJ (z := (0,0,0,0,0)) ho hlt)
  have ih := fun (r' : jc) (W' H' : Nat) (hn' : iq r' W' H') => L23 ho hlen x y k (i + 1) r' W' H' (by omega) hn'
  obtain ⟨w,h,l⟩ := r
  have e1 : w = W := hn.w; have e2 : h = H := hn.h
  subst e1 e2
  have hl : l.length = H * W := hn.len; have hp := hn.YR; have hW1 := hn.w1; have hW := hn.w6; have hH1 := hn.h1; have hH := hn.h6
  have hm := jJ hH hW
  have hm' := jJ hW hH
  rw [kE (z := (0,0,0,0,0)) hlt]
  show _ = some (Ny ((VD _ l (W : Int).toNat (H : Int).toNat).bind (tY _)))
  rw [Int.toNat_natCast,Int.toNat_natCast]
  refine eL ((aaT dd gW ..).trans ?_)
  rw [au (by omega),if_pos (by omega),if_pos (by omega)]
  generalize gt ops (i : Int) (0,0,0,0,0) = o at *
  refine Sv ?_ (pW ?_ (pW ?_ (pW ?_ (pW ?_ (pW ?_ (pW ?_ (pW ?_ (fun _ h => by cases h))))))))
  all_goals first
  | (
   unfold XK
   cases hc with
   | Y2 a b c e ha hb hc1 hc he1 he =>
    dsimp only
    rw [bJ rfl,aK (x := (a : Int) + c) (by omega) (by omega),aK (x := (b : Int) + e) (by omega) (by omega),Us]
    by_cases g1 : (a : Int) + c > W
    ·rw [au g1,if_pos g1]; rfl
    ·rw [aC g1,if_neg g1]
     by_cases g2 : (b : Int) + e > H
     ·rw [au g2,if_pos g2]; rfl
     ·have hm2 := jJ he hc
      rw [aC g2,if_neg g2,BG hc he,if_pos (by omega),if_pos (by omega),if_pos (by omega),Int.toNat_natCast]
      exact afG (a := a) (b := b) hc he hW1 hW hH1 hH hl (by omega) (by omega) _ _ _ i (by omega) (h := ih (xB c e _) c e (lF hc1 hc he1 he fun x y hx hy => nC hl hp (by omega) (by omega))) ..
   | Qb =>
    dsimp only
    rw [aN (by decide),bJ rfl,D67,Option.bind_some,BG hW hH,if_pos (by omega),if_pos (by omega),if_pos (by omega),Int.toNat_natCast]
    exact afH hW hH hl i (by omega) (h := ih (xB W H _) W H (lF hW1 hW hH1 hH fun x y hx hy => nC hl hp (by omega) (by omega))) ..
   | Qc =>
    dsimp only
    rw [aN (by decide),aN (by decide),bJ rfl,D67,Option.bind_some,BG hW hH,if_pos (by omega),if_pos (by omega),if_pos (by omega),Int.toNat_natCast]
    exact afI hW hH hl i (by omega) (h := ih (xB W H _) W H (lF hW1 hW hH1 hH fun x y hx hy => nC hl hp (by omega) (by omega))) ..
   | turn =>
    dsimp only
    rw [aN (by decide),aN (by decide),aN (by decide),bJ rfl,D70,Option.bind_some,BG hH hW,if_pos (by omega),if_pos (by omega),if_pos (by omega),Int.toNat_natCast]
    exact afJ hH hW hl i (by omega) (h := ih (xB H W _) H W (lF hH1 hH hW1 hW fun x y hx hy => nC hl hp (by omega) (by omega))) ..
   | gray =>
    dsimp only
    rw [aN (by decide),aN (by decide),aN (by decide),aN (by decide),bJ rfl,BG hW hH,if_pos (by omega),if_pos (by omega),if_pos (by omega),Int.toNat_natCast]
    exact afK hW hH hl i (by omega) (h := ih (xB W H _) W H (lF hW1 hW hH1 hH fun x y hx hy => Ns (nC hl hp (by omega) (by omega)))) ..
   | mean =>
    dsimp only
    rw [aN (by decide),aN (by decide),aN (by decide),aN (by decide),aN (by decide),bJ rfl,D74 hl hW hH,Option.bind_some]
    show (bif false then _ else _) = _
    rw [cond_false,bg (by omega)]
    exact ih (xB W H _) W H (lF hW1 hW hH1 hH fun x y hx hy => Nw hl hp hx hy hW hH)
   | size a b ha1 ha hb1 hb =>
    dsimp only
    have hm2 := jJ hb ha
    rw [aN (by decide),aN (by decide),aN (by decide),aN (by decide),aN (by decide),aN (by decide),bJ rfl,BG ha hb,if_pos (by omega),if_pos (by omega),if_pos (by omega),Int.toNat_natCast]
    exact afL ha hb hW1 hW hH1 hH hl _ _ _ i (by omega) (h := ih (xB a b _) a b (lF ha1 ha hb1 hb fun x y hx hy => nC hl hp (nK hx ha hW1 hW).2.2.2 (nK hy hb hH1 hH).2.2.2)) ..
   | flat a b c ha hb hc =>
    dsimp only
    rw [aN (by decide),aN (by decide),aN (by decide),aN (by decide),aN (by decide),aN (by decide),aN (by decide),BG hW hH,if_pos (by omega),if_pos (by omega),if_pos (by omega),Int.toNat_natCast]
    exact afM hW hH hl (8,a,b,c,0) i (by omega) (h := ih (xB W H _) W H (lF hW1 hW hH1 hH fun x y hx hy => Nu (nC hl hp (by omega) (by omega)) ⟨ha,hb,hc⟩)) ..
  )
  | (
   unfold IW
   cases hc with
   | Y2 a b c e ha hb hc1 hc he1 he =>
    dsimp only
    rw [bJ rfl,aK (x := (a : Int) + c) (by omega) (by omega),aK (x := (b : Int) + e) (by omega) (by omega),Us]
    by_cases g1 : (a : Int) + c > W
    ·rw [au g1,if_pos g1]; rfl
    ·rw [aC g1,if_neg g1]
     by_cases g2 : (b : Int) + e > H
     ·rw [au g2,if_pos g2]; rfl
     ·have hm2 := jJ he hc
      rw [aC g2,if_neg g2,BG hc he,if_pos (by omega),if_pos (by omega),if_pos (by omega),Int.toNat_natCast]
      exact ac7 (a := a) (b := b) hc he hW1 hW hH1 hH hl (by omega) (by omega) _ _ _ i (by omega) (h := ih (xB c e _) c e (lF hc1 hc he1 he fun x y hx hy => nC hl hp (by omega) (by omega))) ..
   | Qb =>
    dsimp only
    rw [aN (by decide),bJ rfl,D67,Option.bind_some,BG hW hH,if_pos (by omega),if_pos (by omega),if_pos (by omega),Int.toNat_natCast]
    exact ac8 hW hH hl i (by omega) (h := ih (xB W H _) W H (lF hW1 hW hH1 hH fun x y hx hy => nC hl hp (by omega) (by omega))) ..
   | Qc =>
    dsimp only
    rw [aN (by decide),aN (by decide),bJ rfl,D67,Option.bind_some,BG hW hH,if_pos (by omega),if_pos (by omega),if_pos (by omega),Int.toNat_natCast]
    exact ac9 hW hH hl i (by omega) (h := ih (xB W H _) W H (lF hW1 hW hH1 hH fun x y hx hy => nC hl hp (by omega) (by omega))) ..
   | turn =>
    dsimp only
    rw [aN (by decide),aN (by decide),aN (by decide),bJ rfl,D70,Option.bind_some,BG hH hW,if_pos (by omega),if_pos (by omega),if_pos (by omega),Int.toNat_natCast]
    exact ada hH hW hl i (by omega) (h := ih (xB H W _) H W (lF hH1 hH hW1 hW fun x y hx hy => nC hl hp (by omega) (by omega))) ..
   | gray =>
    dsimp only
    rw [aN (by decide),aN (by decide),aN (by decide),aN (by decide),bJ rfl,BG hW hH,if_pos (by omega),if_pos (by omega),if_pos (by omega),Int.toNat_natCast]
    exact adb hW hH hl i (by omega) (h := ih (xB W H _) W H (lF hW1 hW hH1 hH fun x y hx hy => Ns (nC hl hp (by omega) (by omega)))) ..
   | mean =>
    dsimp only
    rw [aN (by decide),aN (by decide),aN (by decide),aN (by decide),aN (by decide),bJ rfl,D74 hl hW hH,Option.bind_some]
    show (bif false then _ else _) = _
    rw [cond_false,bg (by omega)]
    exact ih (xB W H _) W H (lF hW1 hW hH1 hH fun x y hx hy => Nw hl hp hx hy hW hH)
   | size a b ha1 ha hb1 hb =>
    dsimp only
    have hm2 := jJ hb ha
    rw [aN (by decide),aN (by decide),aN (by decide),aN (by decide),aN (by decide),aN (by decide),bJ rfl,BG ha hb,if_pos (by omega),if_pos (by omega),if_pos (by omega),Int.toNat_natCast]
    exact ade ha hb hW1 hW hH1 hH hl _ _ _ i (by omega) (h := ih (xB a b _) a b (lF ha1 ha hb1 hb fun x y hx hy => nC hl hp (nK hx ha hW1 hW).2.2.2 (nK hy hb hH1 hH).2.2.2)) ..
   | flat a b c ha hb hc =>
    dsimp only
    rw [aN (by decide),aN (by decide),aN (by decide),aN (by decide),aN (by decide),aN (by decide),aN (by decide),BG hW hH,if_pos (by omega),if_pos (by omega),if_pos (by omega),Int.toNat_natCast]
    exact adf hW hH hl (8,a,b,c,0) i (by omega) (h := ih (xB W H _) W H (lF hW1 hW hH1 hH fun x y hx hy => Nu (nC hl hp (by omega) (by omega)) ⟨ha,hb,hc⟩)) ..
  )
theorem D23 {r : jc} {W H : Nat} {ops : List Op} (hn : iq r W H) (ho : nZ ops = true) : r23 dd (r,ops) = some (Ny (tY ops r)) := by
 obtain ⟨h1,h2⟩ := Bool.and_eq_true _ _ ▸ ho
 have h1 : ops.length <= 5 := of_decide_eq_true h1
 have hm := jJ hn.h6 hn.w6
 have hl := hn.len
 have a1 := D39 r (by show r.2.2.length < _; omega)
 rw [nI.2 ⟨W,H,hn⟩] at a1
 have a2 := D30 ops (by show ops.length < _; omega)
 rw [ho] at a2
 have a4 := L23 h2 h1 0 0 ops.length 0 r W H (by omega) hn
 obtain ⟨w,h,l⟩ := r
 have e1 : w = W := hn.w; have e2 : h = H := hn.h
 subst e1 e2
 have hl : l.length = H * W := hn.len
 refine dL rfl ((b23 dd gW ..).trans ?_); show (_ : Option (Rs × Bool)) = some _
 rw [a1,Option.bind_some]
 show (bif false then _ else _) = _
 rw [cond_false,a2,Option.bind_some]
 show (bif false then _ else _) = _
 rw [cond_false,BG hn.w6 hn.h6,if_pos (by omega),if_pos (by omega),if_pos (by omega),Int.toNat_natCast]
 have := afF hn.w6 hn.h6 hl 0 0 0 0 ops (v := Ny (tY ops ((W : Int),(H : Int),l))) (by rw [Y0 hn.w1 hl]; exact a4)
 exact this
end T
end
section
namespace T
open Go Go.E Go.Proofs
theorem Ut {l : List Int} (h : gQ l) {i : Nat} {b : Int} (hb : 0 <= b ∧ b < 256) : gQ (l.set i b) := fun x hx => by
 rcases List.mem_or_eq_of_mem_set hx with hx | rfl
 ·exact h x hx
 ·exact hb
theorem D59 {k : Int} {s : List Int × Int} {f : List Int} (hs : Rd k s) (hk : k <= 800000000) (hb : gQ f) (hf : f.length <= 260) : ∃ f' s',r59 dd (s,f) = some (f',s') ∧ gQ f' ∧ f'.length <= 261 ∧ Rd (k + 10) s' := by
 have hln := gG f
 obtain ⟨b,p⟩ := s
 by_cases c0 : ln f = 0
 ·obtain ⟨v,s1,h1,g1,g2,r1⟩ := xK 256 hs (by omega) (by omega)
  refine ⟨[wb v],s1,?_,dI.2 ⟨yY v,iQ⟩,by simp,r1.le (by omega)⟩
  refine dL rfl ((b59 dd l59 ..).trans ?_); show (_ : Option (List Int × List Int × Int)) = some _
  rw [bJ c0,h1,Option.bind_some]
 obtain ⟨v,s1,h1,g1,g2,r1⟩ := xK (ln f) hs (by omega) (by omega)
 have g2 := g2 (by omega)
 obtain ⟨v2,s2,h2,k1,k2,r2⟩ := xK 3 r1 (by omega) (by omega)
 have ht : (f.take v.toNat).length = v.toNat := by rw [List.length_take]; omega
 have hd : (f.drop v.toNat).length = f.length - v.toNat := List.length_drop
 by_cases c1 : v2 = 0
 ·refine ⟨f.take v.toNat ++ f.drop (v + 1).toNat,s2,?_,nH.2 ⟨kW hb _,ig hb _⟩,?_,r2.le (by omega)⟩
  ·refine dL rfl ((b59 dd l59 ..).trans ?_); show (_ : Option (List Int × List Int × Int)) = some _
   rw [aN c0,h1,Option.bind_some]
   show ((qA dd (s1,3)).bind _) = _
   rw [h2,Option.bind_some]
   show (bif v2 == 0 then _ else _) = _
   rw [bJ c1]
   show (if 0 <= v then if v <= ln f then if 0 <= wi (v + 1) then if wi (v + 1) <= ln f then if (0 + (List.take v.toNat f).length) * 1 <= 140737488355328 then if ((List.take v.toNat f).length + (List.drop (wi (v + 1)).toNat f).length) * 1 <= 140737488355328 then some ((List.take v.toNat f).append (List.drop (wi (v + 1)).toNat f),s2) else none else none else none else none else none else none) = _
   rw [aK (x := v + 1) (by omega) (by omega)]
   have hd' : (f.drop (v + 1).toNat).length = f.length - (v + 1).toNat := List.length_drop
   rw [if_pos (by omega),if_pos (by omega),if_pos (by omega),if_pos (by omega),if_pos (by omega),if_pos (by omega)]
   rfl
  ·rw [List.length_append,ht,List.length_drop]; omega
 by_cases c2 : v2 = 1
 ·obtain ⟨v3,s3,h3,l1,l2,r3⟩ := xK 9 r2 (by omega) (by omega)
  refine ⟨(f.take v.toNat ++ [wb v3]) ++ f.drop v.toNat,s3,?_,nH.2 ⟨nH.2 ⟨kW hb _,dI.2 ⟨yY _,iQ⟩⟩,ig hb _⟩,?_,r3.le (by omega)⟩
  ·refine dL rfl ((b59 dd l59 ..).trans ?_); show (_ : Option (List Int × List Int × Int)) = some _
   rw [aN c0,h1,Option.bind_some]
   show ((qA dd (s1,3)).bind _) = _
   rw [h2,Option.bind_some]
   show (bif v2 == 0 then _ else bif v2 == 1 then _ else _) = _
   rw [aN c1,bJ c2]
   show (if 0 <= v then if v <= ln f then if 0 <= v then if v <= ln f then if (0 + (List.take v.toNat f).length) * 1 <= 140737488355328 then ((qA dd (s2,9)).bind fun (kQ : Int × List Int × Int) => if ((List.take v.toNat f).length + 1) * 1 <= 140737488355328 then if (((List.take v.toNat f).append [wb kQ.fst]).length + (List.drop v.toNat f).length) * 1 <= 140737488355328 then some (((List.take v.toNat f).append [wb kQ.fst]).append (List.drop v.toNat f),kQ.snd) else none else none) else none else none else none else none else none) = _
   rw [if_pos (by omega),if_pos (by omega),if_pos (by omega),if_pos (by omega),if_pos (by omega),h3,Option.bind_some,if_pos (by omega)]
   have e : ((List.take v.toNat f).append [wb v3]).length = v.toNat + 1 := by show (List.take v.toNat f ++ [wb v3]).length = _; rw [List.length_append,ht]; rfl
   have : (((List.take v.toNat f).append [wb v3]).length + (List.drop v.toNat f).length) * 1 <= 140737488355328 := by rw [e,hd]; omega
   exact if_pos this
  ·rw [List.length_append,List.length_append,ht,hd]; simp; omega
 obtain ⟨v3,s3,h3,l1,l2,r3⟩ := xK 255 r2 (by omega) (by omega)
 refine ⟨f.set v.toNat (wb (↑(BitVec.ofInt IntKind.u8.bits (gt f v 0) ^^^ BitVec.ofInt IntKind.u8.bits (wb (wi (1 + v3)))).toNat : Int)),s3,?_,Ut hb (yY _),by rw [List.length_set]; omega,r3.le (by omega)⟩
 refine dL rfl ((b59 dd l59 ..).trans ?_); show (_ : Option (List Int × List Int × Int)) = some _
 rw [aN c0,h1,Option.bind_some]
 show ((qA dd (s1,3)).bind _) = _
 rw [h2,Option.bind_some]
 show (bif v2 == 0 then _ else bif v2 == 1 then _ else _) = _
 rw [aN c1,aN c2]
 show (if (0 + f.length) * 1 <= 140737488355328 then if 0 <= v then if v < ln f then ((qA dd (s2,255)).bind fun (kQ : Int × List Int × Int) => if 0 <= v then if v < ln f then some (f.set v.toNat (wb (↑(BitVec.ofInt IntKind.u8.bits (gt f v 0) ^^^ BitVec.ofInt IntKind.u8.bits (wb (wi (1 + kQ.fst)))).toNat : Int)),kQ.snd) else none else none) else none else none else none) = _
 rw [if_pos (by omega),if_pos (by omega),if_pos (by omega),h3,Option.bind_some,if_pos (by omega),if_pos (by omega)]
theorem D33 {k : Int} {s : List Int × Int} (hs : Rd k s) (hk : k <= 700000000) : ∃ f s',r33 dd (s,5) = some (f,s') ∧ gQ f ∧ f.length <= 300 ∧ Rd (k + 3000) s' := by
 obtain ⟨kd,s1,h1,g1,r1⟩ := D54 hs (by omega)
 obtain ⟨note,s2,h2,g2,n2,r2⟩ := D55 9 r1 (by omega) (by omega)
 obtain ⟨ras,s3,h3,g3,r3⟩ := D56 r2 (by omega)
 obtain ⟨W,H,hn⟩ := nI.1 g3
 have hm := jJ hn.h6 hn.w6
 have hl := hn.len
 have h4 := D53 kd note (by omega) ras (by show ras.2.2.length < _; omega)
 have e4 : wW kd note ras = iO kd note ras := by unfold wW; rw [if_pos ⟨g1,n2,g3⟩]
 rw [e4] at h4
 obtain ⟨fb,fl⟩ := KR g1 g2 n2 hn
 obtain ⟨v5,s5,h5,r5,g5⟩ := D57 5 r3 (by omega) (by omega)
 obtain ⟨b,p⟩ := s
 have start : ∀ {x : List Int × List Int × Int},(bif v5 then (qA dd (s5,4)).bind fun (IX : Int × List Int × Int) => bif IX.fst == 0 then (r59 dd (IX.snd,iO kd note ras)).bind fun (r : List Int × List Int × Int) => some r else bif IX.fst == 1 then (r55 dd (IX.snd,12)).bind fun (r : List Int × List Int × Int) => some r else bif IX.fst == 2 then (qA dd (IX.snd,256)).bind fun (Vj : Int × List Int × Int) => if 0 < ln (iO kd note ras) then some ((iO kd note ras).set 0 (wb Vj.fst),Vj.snd) else none else some (0 :: List.replicate 220 0,IX.snd) else some (iO kd note ras,s5)) = some x -> r33 dd ((b,p),5) = some x := by
  intro x h
  refine dL rfl ((b33 dd l33 ..).trans ?_)
  rw [h1,Option.bind_some]
  show ((r55 dd (s1,9)).bind _) = _
  have h2' : r55 dd (s1,9) = some (note,s2) := h2
  rw [h2',Option.bind_some]
  show ((r56 dd (s2,0)).bind _) = _
  rw [h3,Option.bind_some]
  show ((r53 dd (kd,note,ras)).bind _) = _
  rw [h4,Option.bind_some]
  show ((r57 dd (s3,5)).bind _) = _
  rw [h5,Option.bind_some]
  exact h
 cases v5 with
 | false => exact ⟨iO kd note ras,s5,start rfl,fb,by omega,r5.le (by omega)⟩
 | true =>
  obtain ⟨v6,s6,h6,l1,l2,r6⟩ := xK 4 r5 (by omega) (by omega)
  by_cases c0 : v6 = 0
  ·obtain ⟨f',s7,h7,b7,n7,r7⟩ := D59 r6 (by omega) fb (by omega)
   refine ⟨f',s7,start ?_,b7,by omega,r7.le (by omega)⟩
   rw [cond_true,h6,Option.bind_some,bJ c0,h7,Option.bind_some]
  by_cases c1 : v6 = 1
  ·obtain ⟨f',s7,h7,b7,n7,r7⟩ := D55 12 r6 (by omega) (by omega)
   refine ⟨f',s7,start ?_,b7,by omega,r7.le (by omega)⟩
   have h7' : r55 dd (s6,12) = some (f',s7) := h7
   rw [cond_true,h6,Option.bind_some,aN c0,bJ c1,h7',Option.bind_some]
  by_cases c2 : v6 = 2
  ·obtain ⟨v7,s7,h7,_,_,r7⟩ := xK 256 r6 (by omega) (by omega)
   refine ⟨(iO kd note ras).set 0 (wb v7),s7,start ?_,Ut fb (yY _),by rw [List.length_set]; omega,r7.le (by omega)⟩
   have : 0 < ln (iO kd note ras) := by
    rw [gG]; unfold iO; rw [List.length_cons]; omega
   rw [cond_true,h6,Option.bind_some,aN c0,aN c1,bJ c2,h7,Option.bind_some,if_pos this]
  ·refine ⟨0 :: List.replicate 220 0,s6,start ?_,?_,by rw [List.length_cons,List.length_replicate]; omega,r6.le (by omega)⟩
   ·rw [cond_true,h6,Option.bind_some,aN c0,aN c1,aN c2]
   ·refine dI.2 ⟨by omega,fun x hx => ?_⟩
    rw [List.eq_of_mem_replicate hx]; omega
theorem D17 {a : List Int} (hb : gQ a) (hs : Sh a) : ∃ f ops,r17 dd a = some (f,ops) ∧ gQ f ∧ f.length <= 300 ∧ yZ ops ∧ ops.length <= 20 := by
 have hln := gG a
 have main : ∀ b : List Int,gQ b -> b.length <= 2000 -> ∃ f s1 ops s2,r33 dd ((b,0),5) = some (f,s1) ∧ r34 dd (s1,16) = some (ops,s2) ∧ gQ f ∧ f.length <= 300 ∧ yZ ops ∧ ops.length <= 20 := by
  intro b hb hl
  have hs : Rd 0 (b,0) := ⟨hb,hl,by show (0 : Int) <= 0; omega,by show (0 : Int) <= 0; omega⟩
  obtain ⟨f,s1,h1,g1,g2,r1⟩ := D33 hs (by omega)
  obtain ⟨ops,s2,h2,g3,g4,r2⟩ := D34 16 (by omega) r1 (by omega)
  exact ⟨f,s1,ops,s2,h1,h2,g1,g2,g3,g4⟩
 by_cases c : ln a > 2000
 ·obtain ⟨f,s1,ops,s2,h1,h2,k1,k2,k3,k4⟩ := main (a.take 2000) (kW hb _) (by rw [List.length_take]; omega)
  refine ⟨f,ops,?_,k1,k2,k3,k4⟩
  refine dL rfl ((b17 dd l17 ..).trans ?_); show (_ : Option (List Int × List I5)) = some _
  rw [au c,if_pos (by omega),h1,Option.bind_some]
  show ((r34 dd (s1,16)).bind _) = _
  rw [h2,Option.bind_some]
 ·obtain ⟨f,s1,ops,s2,h1,h2,k1,k2,k3,k4⟩ := main a hb (by omega)
  refine ⟨f,ops,?_,k1,k2,k3,k4⟩
  refine dL rfl ((b17 dd l17 ..).trans ?_); show (_ : Option (List Int × List I5)) = some _
  rw [aC c,h1,Option.bind_some]
  show ((r34 dd (s1,16)).bind _) = _
  rw [h2,Option.bind_some]
end T
end
section
namespace T
open Go Go.E Go.Proofs
def Dz (f : List Int) (ops : List Op) : List Int × Int :=
 if f.length > 220 then ([],413) else if nZ ops = false then ([],422) else if (lG f).2 = 2 then ([],415) else if (lG f).2 = 3 then ([],422) else match tY ops (lG f).1 with | none => ([],422) | some r => (wX r,200)
theorem NC {ops : List Op} (h : nZ ops = true) : ∀ o ∈ ops,OpC o := by
 obtain ⟨h1,h2⟩ := Bool.and_eq_true _ _ ▸ h
 exact fun o ho => adi (List.all_eq_true.1 h2 o ho)
theorem Y3 {r : jc} {W H : Nat} (hn : iq r W H) : Sh r.2.2 := by
 have hm := jJ hn.h6 hn.w6
 have hl := hn.len
 show r.2.2.length < _
 omega
theorem KU (f : List Int) (ops : List Op) (hb : gQ f) (hs : Sh f)
  (F : Option Bool) (G : Option (jc × Int)) (O : jc -> Option (jc × Bool)) (P : jc -> Option (List Int))
  (hF : F = some (nZ ops)) (hG : f.length <= 220 -> G = some (lG f)) (hO : ∀ r W H,iq r W H -> nZ ops = true -> O r = some (Ny (tY ops r))) (hP : ∀ r W H,iq r W H -> P r = some (wX r)) :
  (bif decide (ln f > 220) then some ([],413) else F.bind fun (r : Bool) => bif !r then some ([],422) else G.bind fun (r : jc × Int) => bif r.snd == 2 then some ([],415) else bif r.snd == 3 then some ([],422) else (O r.fst).bind fun (r : jc × Bool) => bif !r.snd then some ([],422) else (P r.fst).bind fun (r : List Int) => some (r,(200 : Int))) = some (Dz f ops) := by
 have hln := gG f
 unfold Dz
 by_cases c0 : f.length > 220
 ·rw [au (by omega),if_pos c0]
 rw [aC (by omega),if_neg c0,hF,Option.bind_some]
 cases ho : nZ ops with
 | false => rfl
 | true =>
  rw [Bool.not_true,cond_false,if_neg (by decide),hG (by omega),Option.bind_some]
  by_cases c2 : (lG f).2 = 2
  ·rw [bJ c2,if_pos c2]
  rw [aN c2,if_neg c2]
  by_cases c3 : (lG f).2 = 3
  ·rw [bJ c3,if_pos c3]
  rw [aN c3,if_neg c3]
  have c1 : (lG f).2 = 1 := by rcases Jk f with h | h | h; exact h; exact absurd h c2; exact absurd h c3
  obtain ⟨W,H,hn⟩ := YZ hb c1
  rw [hO _ W H hn ho,Option.bind_some]
  cases hp : tY ops (lG f).1 with
  | none => rfl
  | some r' =>
   obtain ⟨W',H',hn'⟩ := Nz (NC ho) hn hp
   show (bif false then _ else _) = _
   rw [cond_false]
   show ((P r').bind _) = _
   rw [hP r' W' H' hn',Option.bind_some]
theorem D8 (f : List Int) (ops : List Op) (hb : gQ f) (hs : Sh f) (ho : Sh ops) : r8 dd (f,ops) = some (Dz f ops) := by
 refine dL rfl ((b8 dd l8 ..).trans ?_)
 exact KU f ops hb hs (r25 dd ops) (r26 dd f) (fun r => r27 dd (r,ops)) (fun r => r28 dd r) (D25 ops ho) (fun h => D26 f hb (by omega)) (fun r W H hn h => D27 hn h) (fun r W H hn => D28 r (Y3 hn))
theorem D11 (f : List Int) (ops : List Op) (hb : gQ f) (hs : Sh f) (ho : Sh ops) : r11 dd (f,ops) = some (Dz f ops) := by
 refine dL rfl ((b11 dd l11 ..).trans ?_)
 exact KU f ops hb hs (r30 dd ops) (r20 dd f) (fun r => r23 dd (r,ops)) (fun r => r24 dd r) (D30 ops ho) (fun h => D20 f hb (by omega)) (fun r W H hn h => D23 hn h) (fun r W H hn => D24 r (Y3 hn))
theorem D18 : r18 dd () = some true := by
 refine dL rfl ((b18 dd l18 ..).trans ?_)
 rw [D35,Option.bind_some]; rfl
end T
end
section
namespace T
open Go Go.E Go.Proofs
section
variable (a0 : List Int) (a1 : List Op)
end
end T
end
