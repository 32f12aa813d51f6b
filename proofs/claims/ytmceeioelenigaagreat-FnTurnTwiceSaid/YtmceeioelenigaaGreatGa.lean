/- Plain laws: numbers, what is drawn, bits, blocks. -/
import Derived.Test.YtmceeioelenigaaGreatFb
import Derived.Test.YtmceeioelenigaaGreatFc
import Derived.Test.YtmceeioelenigaaGreatFd
import Derived.Test.YtmceeioelenigaaGreatFe
section
namespace T
open Go Go.E Go.Proofs
abbrev eF := Int × Int × Int × Int
abbrev jc := Int × Int × List eF
abbrev Op := Int × Int × Int × Int × Int
theorem PS {α : Type} {p : Prop} [Decidable p] {a b : α} : (bif decide p then a else b) = if p then a else b := by
 by_cases h : p <;> simp [h]
theorem au {α : Type} {p : Prop} [Decidable p] {a b : α} (h : p) : (bif decide p then a else b) = a := by simp [h]
theorem aC {α : Type} {p : Prop} [Decidable p] {a b : α} (h : ¬ p) : (bif decide p then a else b) = b := by simp [h]
def nR (a lo hi : Int) : Bool := decide (lo <= a ∧ a <= hi)
theorem jI {a lo hi : Int} : nR a lo hi = true ↔ lo <= a ∧ a <= hi := by unfold nR; simp
theorem D36 (a b c : Int) : KG dd (a,b,c) = some (nR a b c) := by
 refine dL rfl ((b36 dd l36 ..).trans ?_); show (_ : Option Bool) = some _; unfold nR
 by_cases h : b <= a <;> simp [h]
theorem D89 (a b c : Int) : r89 dd (a,b,c) = some (nR a b c) := by
 refine dL rfl ((b89 dd l89 ..).trans ?_); show (_ : Option Bool) = some _; unfold nR
 by_cases h : b <= a <;> simp [h]
theorem D61 (a : Int) : r61 dd a = some (nR a 0 255) := by
 refine dL rfl ((b61 dd l61 ..).trans ?_); show (_ : Option Bool) = some _; unfold nR
 by_cases h : 0 <= a <;> simp [h]
theorem D62 (a : Int) : XH dd a = some (nR a 1 6) := by
 refine dL rfl ((b62 dd l62 ..).trans ?_); show (_ : Option Bool) = some _; unfold nR
 by_cases h : 1 <= a <;> simp [h]
def gu (p : eF) : Bool := nR p.1 0 255 && (nR p.2.1 0 255 && (nR p.2.2.1 0 255 && nR p.2.2.2 0 255))
theorem D35 (p : eF) : r35 dd p = some (gu p) := by
 obtain ⟨a,b,c,e⟩ := p
 refine dL rfl ((b35 dd l35 ..).trans ?_); unfold gu
 simp only [D61,Option.bind_some]
 cases nR a 0 255 <;> cases nR b 0 255 <;> cases nR c 0 255 <;> rfl
theorem D82 (p : eF) : r82 dd p = some (gu p) := by
 obtain ⟨a,b,c,e⟩ := p
 refine dL rfl ((b82 dd l82 ..).trans ?_); unfold gu
 simp only [D36,Option.bind_some]
 cases nR a 0 255 <;> cases nR b 0 255 <;> cases nR c 0 255 <;> rfl
def qF (r : jc) : Bool := nR r.1 1 6 && (nR r.2.1 1 6 && (decide (ln r.2.2 = r.1 * r.2.1) && r.2.2.all gu))
theorem iW {α : Type} {l : List α} {i : Nat} {z : α} (h : i < l.length) : gt l (i : Int) z = l[i] := by
 show l.getD ((i : Int).toNat) z = _
 rw [Int.toNat_natCast,List.getD_eq_getElem?_getD,List.getElem?_eq_getElem h]; rfl
theorem kE {α : Type} {l : List α} {i : Nat} {z : α} (h : i < l.length) : l.drop i = gt l (i : Int) z :: l.drop (i + 1) := by
 rw [iW h,List.drop_eq_getElem_cons h]
theorem bg {i : Nat} (h : i < 1000000000000000000) : wi ((i : Int) + 1) = ((i + 1 : Nat) : Int) := by
 rw [aK (by omega) (by omega)]; omega
section loops
abbrev Sh {α : Type} (l : List α) : Prop := l.length < 1000000000000000000
theorem L39 (l : List eF) (hl : Sh l) : ∀ (k i : Nat),i + k = l.length -> l39 (TL l (ln l) i) = some ((l.drop i).all gu)
 | 0,i,h => by
  refine eL ((aa5 dd l39 ..).trans ?_); show (_ : Option Bool) = some _
  rw [aC (by show ¬ (i : Int) < (l.length : Int); omega),List.drop_eq_nil_of_le (by omega)]; rfl
 | k + 1,i,h => by
  have hi : i < l.length := by omega
  refine eL ((aa5 dd l39 ..).trans ?_); show (_ : Option Bool) = some _
  rw [au (by show (i : Int) < (l.length : Int); omega),if_pos (by omega),if_pos (by show (i : Int) < (l.length : Int); omega),D35,Option.bind_some,kE (z := (0,0,0,0)) hi,bg (by have := hl; omega),L39 l hl k (i + 1) (by omega)]
  cases hp : gu (gt l (i : Int) (0,0,0,0)) <;> simp [hp]
theorem L48 (l : List eF) (hl : Sh l) (w h : Int) : ∀ (k i : Nat),i + k = l.length -> l48 (TM i w h l) = some ((l.drop i).all gu)
 | 0,i,h => by
  refine eL ((aa6 dd l48 ..).trans ?_); show (_ : Option Bool) = some _
  rw [aC (by show ¬ (i : Int) < (l.length : Int); omega),List.drop_eq_nil_of_le (by omega)]; rfl
 | k + 1,i,h' => by
  have hi : i < l.length := by omega
  refine eL ((aa6 dd l48 ..).trans ?_); show (_ : Option Bool) = some _
  rw [au (by show (i : Int) < (l.length : Int); omega),if_pos (by omega),if_pos (by show (i : Int) < (l.length : Int); omega),D82,Option.bind_some,kE (z := (0,0,0,0)) hi,bg (by have := hl; omega),L48 l hl w h k (i + 1) (by omega)]
  cases hp : gu (gt l (i : Int) (0,0,0,0)) <;> simp [hp]
theorem D39 (r : jc) (hl : Sh r.2.2) : r39 dd r = some (qF r) := by
 obtain ⟨w,h,l⟩ := r
 refine dL rfl ((b39 dd l39 ..).trans ?_); show (_ : Option Bool) = some _; unfold qF
 simp only [D62,Option.bind_some]
 cases hw : nR w 1 6 with
 | false => rfl
 | true =>
  cases hh : nR h 1 6 with
  | false => rfl
  | true =>
   rw [jI] at hw hh
   have hb : 0 <= w * h ∧ w * h <= 36 := by
    obtain ⟨a,b⟩ := hw; obtain ⟨c,d⟩ := hh
    refine ⟨Int.mul_nonneg (by omega) (by omega),?_⟩
    have := Int.mul_le_mul b d (by omega) (by omega)
    omega
   rw [aK (by omega) (by omega)]
   have := L39 l hl l.length 0 (by omega)
   by_cases e : ln l = w * h
   ·simp only [Bool.not_true,cond_false,e,bne_self_eq_false]
    rw [<- e]
    exact this.trans (by simp)
   ·have e' : (ln l != w * h) = true := bne_iff_ne.2 e
    simp only [Bool.not_true,cond_false,e',cond_true,e,decide_false,Bool.false_and,Bool.and_false]
theorem D48 (r : jc) (hl : Sh r.2.2) : r48 dd r = some (qF r) := by
 obtain ⟨w,h,l⟩ := r
 refine dL rfl ((b48 dd l48 ..).trans ?_); show (_ : Option Bool) = some _; unfold qF
 simp only [D36,Option.bind_some]
 cases hw : nR w 1 6 with
 | false => rfl
 | true =>
  cases hh : nR h 1 6 with
  | false => rfl
  | true =>
   rw [jI] at hw hh
   have hb : 0 <= w * h ∧ w * h <= 36 := by
    obtain ⟨a,b⟩ := hw; obtain ⟨c,d⟩ := hh
    refine ⟨Int.mul_nonneg (by omega) (by omega),?_⟩
    have := Int.mul_le_mul b d (by omega) (by omega)
    omega
   rw [aK (by omega) (by omega)]
   have := L48 l hl w h l.length 0 (by omega)
   by_cases e : ln l = w * h
   ·simp only [Bool.not_true,cond_false,e,bne_self_eq_false]
    exact this.trans (by simp)
   ·have e' : (ln l != w * h) = true := bne_iff_ne.2 e
    simp only [Bool.not_true,cond_false,e',cond_true,e,decide_false,Bool.false_and,Bool.and_false]
def sV : Op -> Bool := fun (k,a,b,c,e) =>
 if k = 1 then nR a 0 5 && (nR b 0 5 && (nR c 1 6 && nR e 1 6))
 else if k = 7 then nR a 1 6 && (nR b 1 6 && (c == 0 && e == 0))
 else if k = 8 then nR a 0 255 && (nR b 0 255 && (nR c 0 255 && e == 0))
 else nR k 2 6 && (a == 0 && (b == 0 && (c == 0 && e == 0)))
theorem D19 (o : Op) : r19 dd o = some (sV o) := by
 obtain ⟨k,a,b,c,e⟩ := o
 refine dL rfl ((b19 dd l19 ..).trans ?_); unfold sV
 simp only [D36,Option.bind_some]
 by_cases h1 : k = 1
 ·simp only [h1,beq_self_eq_true,cond_true,if_true]
  cases nR a 0 5 <;> cases nR b 0 5 <;> cases nR c 1 6 <;> rfl
 ·by_cases h7 : k = 7
  ·simp only [h7,beq_self_eq_true,cond_true,if_true,show ((7 : Int) == 1) = false by decide,cond_false,show ¬ (7 : Int) = 1 by decide,if_false]
   cases nR a 1 6 <;> cases nR b 1 6 <;> cases c == 0 <;> rfl
  ·by_cases h8 : k = 8
   ·simp only [h8,beq_self_eq_true,cond_true,if_true,show ((8 : Int) == 1) = false by decide,show ((8 : Int) == 7) = false by decide,cond_false,show ¬ (8 : Int) = 1 by decide,show ¬ (8 : Int) = 7 by decide,if_false]
    cases nR a 0 255 <;> cases nR b 0 255 <;> cases nR c 0 255 <;> rfl
   ·simp only [show (k == 1) = false by simpa using h1,show (k == 7) = false by simpa using h7,show (k == 8) = false by simpa using h8,cond_false,h1,h7,h8,if_false]
    cases nR k 2 6 <;> cases a == 0 <;> cases b == 0 <;> cases c == 0 <;> rfl
theorem D52 (o : Op) : r52 dd o = some (sV o) := by
 obtain ⟨k,a,b,c,e⟩ := o
 refine dL rfl ((b52 dd l52 ..).trans ?_); unfold sV
 simp only [D89,D61,D62,Option.bind_some,beq_self_eq_true,Bool.true_and,Bool.and_true]
 by_cases h1 : k = 1
 ·simp only [h1,beq_self_eq_true,cond_true,if_true]
  cases nR a 0 5 <;> cases nR b 0 5 <;> cases nR c 1 6 <;> rfl
 ·simp only [show (k == 1) = false by simpa using h1,cond_false,h1,if_false]
  by_cases h2 : k = 2
  ·subst h2; rfl
  by_cases h3 : k = 3
  ·subst h3; rfl
  by_cases h4 : k = 4
  ·subst h4; rfl
  by_cases h5 : k = 5
  ·subst h5; rfl
  by_cases h6 : k = 6
  ·subst h6; rfl
  simp only [show (k == 2) = false by simpa using h2,show (k == 3) = false by simpa using h3,show (k == 4) = false by simpa using h4,show (k == 5) = false by simpa using h5,show (k == 6) = false by simpa using h6,cond_false]
  by_cases h7 : k = 7
  ·subst h7
   simp only [beq_self_eq_true,cond_true,if_true]
   cases nR a 1 6 <;> cases nR b 1 6 <;> cases c == 0 <;> rfl
  ·simp only [show (k == 7) = false by simpa using h7,cond_false,h7,if_false]
   by_cases h8 : k = 8
   ·subst h8
    simp only [beq_self_eq_true,cond_true,if_true]
    cases nR a 0 255 <;> cases nR b 0 255 <;> cases nR c 0 255 <;> rfl
   ·simp only [show (k == 8) = false by simpa using h8,cond_false,h8,if_false]
    have : nR k 2 6 = false := by
     cases hk : nR k 2 6 with
     | false => rfl
     | true => rw [jI] at hk; omega
    rw [this]; rfl
theorem L30 (l : List Op) (hl : Sh l) : ∀ (k i : Nat),i + k = l.length -> l30 (TF l (ln l) i) = some ((l.drop i).all sV)
 | 0,i,h => by
  refine eL ((aa3 dd l30 ..).trans ?_); show (_ : Option Bool) = some _
  rw [aC (by show ¬ (i : Int) < (l.length : Int); omega),List.drop_eq_nil_of_le (by omega)]; rfl
 | k + 1,i,h => by
  have hi : i < l.length := by omega
  refine eL ((aa3 dd l30 ..).trans ?_); show (_ : Option Bool) = some _
  rw [au (by show (i : Int) < (l.length : Int); omega),if_pos (by omega),if_pos (by show (i : Int) < (l.length : Int); omega),D52,Option.bind_some,kE (z := (0,0,0,0,0)) hi,bg (by have := hl; omega),L30 l hl k (i + 1) (by omega)]
  cases hp : sV (gt l (i : Int) (0,0,0,0,0)) <;> simp [hp]
theorem L25 (l : List Op) (hl : Sh l) : ∀ (k i : Nat),i + k = l.length -> l25 (TB l i) = some ((l.drop i).all sV && decide (l.length <= 5))
 | 0,i,h => by
  refine eL ((aa1 dd l25 ..).trans ?_); show (_ : Option Bool) = some _
  rw [aC (by show ¬ (i : Int) < (l.length : Int); omega),List.drop_eq_nil_of_le (by omega)]
  have : ((l.length : Int) <= 5) ↔ l.length <= 5 := by omega
  simp [ln,this]
 | k + 1,i,h => by
  have hi : i < l.length := by omega
  refine eL ((aa1 dd l25 ..).trans ?_); show (_ : Option Bool) = some _
  rw [au (by show (i : Int) < (l.length : Int); omega),if_pos (by omega),if_pos (by show (i : Int) < (l.length : Int); omega),D19,Option.bind_some,kE (z := (0,0,0,0,0)) hi,bg (by have := hl; omega),L25 l hl k (i + 1) (by omega)]
  cases hp : sV (gt l (i : Int) (0,0,0,0,0)) <;> simp [hp]
def nZ (l : List Op) : Bool := decide (l.length <= 5) && l.all sV
theorem D30 (l : List Op) (hl : Sh l) : r30 dd l = some (nZ l) := by
 refine dL rfl ((b30 dd l30 ..).trans ?_); show (_ : Option Bool) = some _; unfold nZ
 by_cases h : l.length <= 5
 ·rw [aC (by show ¬ (l.length : Int) > 5; omega)]
  have := L30 l hl l.length 0 (by omega)
  exact this.trans (by simp [h])
 ·rw [au (by show (l.length : Int) > 5; omega)]; simp [h]
theorem D25 (l : List Op) (hl : Sh l) : r25 dd l = some (nZ l) := by
 refine dL rfl ((b25 dd l25 ..).trans ?_); show (_ : Option Bool) = some _; unfold nZ
 have := L25 l hl l.length 0 (by omega)
 exact this.trans (by simp [Bool.and_comm])
end loops
end T
end
section
namespace T
open Go Go.E Go.Proofs
theorem tm {a b : Int} (h : 0 <= a) : a.tmod b = a % b := Int.tmod_eq_emod_of_nonneg h
theorem td {a b : Int} (h : 0 <= a) : a.tdiv b = a / b := Int.tdiv_eq_ediv_of_nonneg h
theorem fd {a b : Int} (h : 0 <= b) : a.fdiv b = a / b := Int.fdiv_eq_ediv_of_nonneg a h
theorem gG {α : Type} (l : List α) : ln l = (l.length : Int) := rfl
theorem gy {l : List Int} (h : gQ l) (i : Int) : 0 <= gt l i 0 ∧ gt l i 0 < 256 := by
 unfold gt
 rw [List.getD_eq_getElem?_getD]
 cases e : l[i.toNat]? with
 | none => exact ⟨by decide,by decide⟩
 | some b => exact h b (List.mem_of_getElem? e)
theorem iI {l : List Int} (h : gQ l) (i : Nat) : 0 <= l.getD i 0 ∧ l.getD i 0 < 256 := by
 have := gy h i
 unfold gt at this
 rwa [Int.toNat_natCast] at this
theorem dI {b : Int} {l : List Int} : gQ (b :: l) ↔ (0 <= b ∧ b < 256) ∧ gQ l := by
 unfold gQ; simp
theorem nH {l m : List Int} : gQ (l ++ m) ↔ gQ l ∧ gQ m := by
 unfold gQ
 constructor
 ·intro h; exact ⟨fun b hb => h b (List.mem_append.2 (.inl hb)),fun b hb => h b (List.mem_append.2 (.inr hb))⟩
 ·intro ⟨h,k⟩ b hb
  rcases List.mem_append.1 hb with x | x
  ·exact h b x
  ·exact k b x
theorem iQ : gQ [] := fun _ h => by cases h
theorem kW {l : List Int} (h : gQ l) (n : Nat) : gQ (l.take n) := fun b hb => h b (List.mem_of_mem_take hb)
theorem ig {l : List Int} (h : gQ l) (n : Nat) : gQ (l.drop n) := fun b hb => h b (List.mem_of_mem_drop hb)
theorem oU {x : Int} (h : 0 <= x ∧ x < 256) : wi x = x := aK (by omega) (by omega)
def xw : List Int -> Int -> Int -> Int
 | [],a,b => b * 65536 + a
 | v :: l,a,b => xw l ((a + v) % 65521) ((b + (a + v) % 65521) % 65521)
def sumP (l : List Int) : Int := xw l 1 0
theorem PU : ∀ (l : List Int) (a b : Int),gQ l -> 0 <= a -> a < 65521 -> 0 <= b -> b < 65521 -> 0 <= xw l a b ∧ xw l a b < 4294967296
 | [],a,b,_,h1,h2,h3,h4 => by unfold xw; omega
 | v :: l,a,b,h,h1,h2,h3,h4 => by
  unfold xw
  exact PU l _ _ (dI.1 h).2 (by omega) (by omega) (by omega) (by omega)
theorem Gn {l : List Int} (h : gQ l) : 0 <= sumP l ∧ sumP l < 4294967296 := PU l 1 0 h (by decide) (by decide) (by decide) (by decide)
theorem L63 (l : List Int) (hl : Sh l) (hb : gQ l) : ∀ (k i : Nat) (a b : Int),i + k = l.length -> 0 <= a -> a < 65521 -> 0 <= b -> b < 65521 -> l63 (TP a b l (ln l) i) = some (xw (l.drop i) a b)
 | 0,i,a,b,h,h1,h2,h3,h4 => by
  refine eL ((abb dd l63 ..).trans ?_); show (_ : Option Int) = some _
  have hln := gG l
  rw [List.drop_eq_nil_of_le (by omega)]
  simp (disch := omega) only [aC,aK,xw]
 | k + 1,i,a,b,h,h1,h2,h3,h4 => by
  have hi : i < l.length := by omega
  have hln := gG l
  have hg := gy hb (i : Int)
  refine eL ((abb dd l63 ..).trans ?_); show (_ : Option Int) = some _
  rw [kE (z := 0) hi]
  simp (disch := omega) only [au,if_pos,aK,tm,xw]
  exact L63 l hl hb k (i + 1) _ _ (by omega) (by omega) (by omega) (by omega) (by omega)
theorem L81 (l : List Int) (hl : Sh l) (hb : gQ l) : ∀ (k i : Nat) (a b : Int),i + k = l.length -> 0 <= a -> a < 65521 -> 0 <= b -> b < 65521 -> l81 (TW l a b i) = some (xw (l.drop i) a b)
 | 0,i,a,b,h,h1,h2,h3,h4 => by
  refine eL ((abn dd l81 ..).trans ?_); show (_ : Option Int) = some _
  have hln := gG l
  rw [List.drop_eq_nil_of_le (by omega)]
  simp (disch := omega) only [aC,aK,xw]
 | k + 1,i,a,b,h,h1,h2,h3,h4 => by
  have hi : i < l.length := by omega
  have hln := gG l
  have hg := gy hb (i : Int)
  refine eL ((abn dd l81 ..).trans ?_); show (_ : Option Int) = some _
  rw [kE (z := 0) hi]
  simp (disch := omega) only [au,if_pos,aK,tm,xw]
  exact L81 l hl hb k (i + 1) _ _ (by omega) (by omega) (by omega) (by omega) (by omega)
theorem D63 (l : List Int) (hl : Sh l) (hb : gQ l) : r63 dd l = some (sumP l) := by
 refine dL rfl ((b63 dd l63 ..).trans ?_)
 exact L63 l hl hb l.length 0 1 0 (by omega) (by decide) (by decide) (by decide) (by decide)
theorem D81 (l : List Int) (hl : Sh l) (hb : gQ l) : r81 dd l = some (sumP l) := by
 refine dL rfl ((b81 dd l81 ..).trans ?_)
 exact L81 l hl hb l.length 0 1 0 (by omega) (by decide) (by decide) (by decide) (by decide)
def xJ (n : Int) : List Int := [n / 16777216,n / 65536 % 256,n / 256 % 256,n % 256]
theorem D40 (l : List Int) (hl : Sh l) (hb : gQ l) : Vz dd l = some (sumP l / 16777216,sumP l / 65536 % 256,sumP l / 256 % 256,sumP l % 256) := by
 refine dL rfl ((b40 dd l40 ..).trans ?_)
 rw [D63 l hl hb,Option.bind_some]
 have := Gn hb
 generalize sumP l = n at *
 have e : ∀ x : Int,0 <= x -> wb x = x % 256 := fun x hx => by
  unfold wb IntKind.wrap
  simp only [IntKind.bits,IntKind.signed,Bool.false_and,Bool.false_eq_true,if_false]
  omega
 simp (disch := omega) only [fd,e]
 congr 2
 omega
theorem D47 (l : List Int) (hl : Sh l) (hb : gQ l) : r47 dd l = some (xJ (sumP l)) := by
 refine dL rfl ((b47 dd l47 ..).trans ?_); show (_ : Option (List Int)) = some _; unfold xJ
 rw [D81 l hl hb,Option.bind_some]
 have := Gn hb
 generalize sumP l = n at *
 simp (disch := omega) only [td,aK,tm,jT]
end T
end
section
namespace T
open Go Go.E Go.Proofs
theorem bJ {α : Type} {a b : Int} {x y : α} (h : a = b) : (bif a == b then x else y) = x := by rw [h,beq_self_eq_true]; rfl
theorem aN {α : Type} {a b : Int} {x y : α} (h : ¬ a = b) : (bif a == b then x else y) = y := by rw [beq_eq_false_iff_ne.2 h]; rfl
theorem uN {α : Type} {a b : Int} {x y : α} (h : ¬ a = b) : (bif a != b then x else y) = x := by rw [bne_iff_ne.2 h]; rfl
theorem tN {α : Type} {a b : Int} {x y : α} (h : a = b) : (bif a != b then x else y) = y := by rw [h,bne_self_eq_false]; rfl
def Rd (k : Int) (s : List Int × Int) : Prop := gQ s.1 ∧ s.1.length <= 2000 ∧ 0 <= s.2 ∧ s.2 <= k
theorem Rd.le {k k' : Int} {s : List Int × Int} (h : Rd k s) (hk : k <= k') : Rd k' s := ⟨h.1,h.2.1,h.2.2.1,by have := h.2.2.2; omega⟩
theorem ac0 (x y : Int) (h1 : 0 <= x) (h2 : x < 4611686018427387904) (h3 : 0 <= y) (h4 : y < 4611686018427387904) : 0 <= wi (↑(BitVec.ofInt IntKind.i64.bits x ^^^ BitVec.ofInt IntKind.i64.bits y).toNat : Int) := by
 have e : ∀ x : Int,0 <= x -> x < 4611686018427387904 -> (BitVec.ofInt IntKind.i64.bits x).toNat < 2 ^ 62 := fun x h h' => by
  rw [BitVec.toNat_ofInt]
  show (x % ((2 ^ 64 : Nat) : Int)).toNat < _
  omega
 have := Nat.xor_lt_two_pow (e x h1 h2) (e y h3 h4)
 rw [<- BitVec.toNat_xor] at this
 rw [aK (by omega) (by omega)]
 omega
def RU (b : List Int) (p : Int) : Int := gt b (p % ln b) 0 * 131 + gt b ((p * 7 + 3) % ln b) 0 * 1117 + p * 29 + p / ln b * 53
def ac1 (b : List Int) (p : Int) : Int := wi (↑(BitVec.ofInt IntKind.i64.bits (RU b p) ^^^ BitVec.ofInt IntKind.i64.bits (RU b p / 64)).toNat : Int)
theorem xK {k : Int} {s : List Int × Int} (n : Int) (hs : Rd k s) (hk : k <= 1000000000) (hn : n <= 1000000000) : ∃ v s',qA dd (s,n) = some (v,s') ∧ 0 <= v ∧ (1 <= n -> v < n) ∧ Rd (k + 1) s' := by
 obtain ⟨b,p⟩ := s
 obtain ⟨hb,hl,h0,h1⟩ := hs
 have h0 : 0 <= p := h0
 have hb : gQ b := hb
 have h1 : p <= k := h1
 have hl : b.length <= 2000 := hl
 have hln := gG b
 have hr : Rd (k + 1) (b,p + 1) := ⟨hb,hl,by show 0 <= p + 1; omega,by show p + 1 <= k + 1; omega⟩
 by_cases c1 : n < 1
 ·refine ⟨0,_,?_,by omega,by omega,hr⟩
  refine dL rfl ((b58 dd l58 ..).trans ?_); show (_ : Option (Int × List Int × Int)) = some _
  rw [au c1,aK (by omega) (by omega)]
 have w2 : wi (p + 1) = p + 1 := aK (by omega) (by omega)
 have w1 : wi (wi (p + 1) - 1) = p := by rw [w2,aK (by omega) (by omega)]; omega
 by_cases c2 : b.length = 0
 ·refine ⟨0,_,?_,by omega,by omega,hr⟩
  refine dL rfl ((b58 dd l58 ..).trans ?_); show (_ : Option (Int × List Int × Int)) = some _
  rw [aC c1,bJ (by omega),w2]
 by_cases c3 : p < b.length
 ·have hg := gy hb p
  refine ⟨gt b p 0 % n,_,?_,Int.emod_nonneg _ (by omega),fun _ => Int.emod_lt_of_pos _ (by omega),hr⟩
  refine dL rfl ((b58 dd l58 ..).trans ?_); show (_ : Option (Int × List Int × Int)) = some _
  rw [aC c1,aN (by omega),w1,w2,au (by omega)]
  simp (disch := omega) only [aK,if_pos,tm]
 ·have m1 := Int.emod_nonneg p (b := ln b) (by omega)
  have m2 := Int.emod_lt_of_pos p (b := ln b) (by omega)
  have m3 := Int.emod_nonneg (p * 7 + 3) (b := ln b) (by omega)
  have m4 := Int.emod_lt_of_pos (p * 7 + 3) (b := ln b) (by omega)
  have m5 := Int.ediv_nonneg (a := p) (b := ln b) (by omega) (by omega)
  have m6 := Int.ediv_le_self (b := ln b) h0
  have g1 := gy hb (p % ln b)
  have g2 := gy hb ((p * 7 + 3) % ln b)
  have hx : 0 <= RU b p ∧ RU b p < 1000000000000 := by unfold RU; omega
  have hm : 0 <= ac1 b p := ac0 _ _ (by omega) (by omega) (by omega) (by omega)
  refine ⟨(ac1 b p).tmod n,_,?_,Int.tmod_nonneg _ hm,fun _ => ?_,hr⟩
  ·refine dL rfl ((b58 dd l58 ..).trans ?_); show (_ : Option (Int × List Int × Int)) = some _
   rw [aC c1,aN (by omega),w1,w2,aC (by omega),aK (x := p * 7) (by omega) (by omega),aK (x := p * 7 + 3) (by omega) (by omega),tm (a := p) (by omega),tm (a := p * 7 + 3) (by omega),td (a := p) (by omega)]
   simp (disch := omega) only [↓if_pos]
   unfold ac1 RU
   unfold RU at hx
   simp (disch := omega) only [aK,td]
  ·rw [tm hm]
   exact Int.emod_lt_of_pos _ (by omega)
theorem D57 {k : Int} {s : List Int × Int} (n : Int) (hs : Rd k s) (hk : k <= 1000000000) (hn : n <= 1000000000) : ∃ v s',r57 dd (s,n) = some (v,s') ∧ Rd (k + 1) s' ∧ (n <= 0 -> v = false) := by
 obtain ⟨b,p⟩ := s
 by_cases c : n > 0
 ·obtain ⟨v,s',h1,h2,h3,h4⟩ := xK n hs hk hn
  refine ⟨v == wi (n - 1),s',?_,h4,by omega⟩
  refine dL rfl ((b57 dd l57 ..).trans ?_); show (_ : Option (Bool × List Int × Int)) = some _
  rw [au c,h1]; rfl
 ·refine ⟨false,_,?_,hs.le (by omega),fun _ => rfl⟩
  refine dL rfl ((b57 dd l57 ..).trans ?_); show (_ : Option (Bool × List Int × Int)) = some _
  simp (disch := omega) only [aC]
end T
end
section
namespace T
open Go Go.E Go.Proofs
theorem yY (x : Int) : 0 <= wb x ∧ wb x < 256 := by
 unfold wb IntKind.wrap
 simp only [IntKind.bits,IntKind.signed,Bool.false_and,Bool.false_eq_true,if_false]
 omega
theorem L55 : ∀ (j : Nat) (b : List Int) (p k : Int) (l : List Int),Rd k (b,p) -> k + 3 * j <= 1000000000 -> gQ l -> l.length + j <= 1000 -> ∃ l' s',l55 (TN j b p l) = some (l',s') ∧ gQ l' ∧ l'.length = l.length + j ∧ Rd (k + 3 * j) s'
 | 0,b,p,k,l,hs,hk,hb,hl => by
  refine ⟨l,(b,p),?_,hb,rfl,hs.le (by omega)⟩
  refine eL ((aa9 dd l55 ..).trans ?_); show (_ : Option (List Int × List Int × Int)) = some _
  rw [aC (by omega)]
 | j + 1,b,p,k,l,hs,hk,hb,hl => by
  obtain ⟨v1,s1,h1,_,_,r1⟩ := xK 256 hs (by omega) (by omega)
  obtain ⟨v2,s2,h2,_,_,r2⟩ := xK 4 r1 (by omega) (by omega)
  obtain ⟨v3,s3,h3,g1,g2,r3⟩ := xK 3 r2 (by omega) (by omega)
  have g2 := g2 (by omega)
  obtain ⟨b3,p3⟩ := s3
  obtain ⟨l',s',i1,i2,i3,i4⟩ := L55 j b3 p3 _ (l ++ [wb (gt [v1,v2,255] v3 0)]) r3 (by omega) (nH.2 ⟨hb,dI.2 ⟨yY _,iQ⟩⟩) (by simp; omega)
  refine ⟨l',s',?_,i2,by rw [i3]; simp; omega,i4.le (by omega)⟩
  refine eL ((aa9 dd l55 ..).trans ?_); show (_ : Option (List Int × List Int × Int)) = some _
  rw [au (by omega),h1,Option.bind_some,h2,Option.bind_some,h3,Option.bind_some,if_pos g1,if_pos g2,if_pos (by omega),aK (by omega) (by omega),show ((j + 1 : Nat) : Int) - 1 = (j : Int) by omega]
  exact i1
theorem D55 {k : Int} {s : List Int × Int} (n : Nat) (hs : Rd k s) (hk : k <= 900000000) (hn : n <= 100) : ∃ l s',r55 dd (s,n) = some (l,s') ∧ gQ l ∧ l.length <= n ∧ Rd (k + 301) s' := by
 obtain ⟨v,s1,h1,g1,g2,r1⟩ := xK ((n : Int) + 1) hs (by omega) (by omega)
 have g2 := g2 (by omega)
 obtain ⟨b,p⟩ := s
 obtain ⟨b1,p1⟩ := s1
 obtain ⟨l',s',i1,i2,i3,i4⟩ := L55 v.toNat b1 p1 _ [] r1 (by omega) iQ (by simp; omega)
 refine ⟨l',s',?_,i2,by rw [i3]; simp; omega,i4.le (by omega)⟩
 refine dL rfl ((b55 dd l55 ..).trans ?_)
 rw [aK (by omega) (by omega),h1,Option.bind_some]
 rw [Int.toNat_of_nonneg g1] at i1
 exact i1
theorem gt4 {a b c d v : Int} (h0 : 0 <= v) (h1 : v < 4) : gt [a,b,c,d] v 0 = a ∨ gt [a,b,c,d] v 0 = b ∨ gt [a,b,c,d] v 0 = c ∨ gt [a,b,c,d] v 0 = d := by
 have : v = 0 ∨ v = 1 ∨ v = 2 ∨ v = 3 := by omega
 rcases this with rfl | rfl | rfl | rfl
 ·exact .inl rfl
 ·exact .inr (.inl rfl)
 ·exact .inr (.inr (.inl rfl))
 ·exact .inr (.inr (.inr rfl))
theorem gt3 {a b c v : Int} (h0 : 0 <= v) (h1 : v < 3) : gt [a,b,c] v 0 = a ∨ gt [a,b,c] v 0 = b ∨ gt [a,b,c] v 0 = c := by
 have : v = 0 ∨ v = 1 ∨ v = 2 := by omega
 rcases this with rfl | rfl | rfl
 ·exact .inl rfl
 ·exact .inr (.inl rfl)
 ·exact .inr (.inr rfl)
theorem gt2 {a b v : Int} (h0 : 0 <= v) (h1 : v < 2) : gt [a,b] v 0 = a ∨ gt [a,b] v 0 = b := by
 have : v = 0 ∨ v = 1 := by omega
 rcases this with rfl | rfl
 ·exact .inl rfl
 ·exact .inr rfl
def kindOk (k : Int) : Prop := k = 68 ∨ k = 85 ∨ k = 82 ∨ k = 80
theorem D54 {k : Int} {s : List Int × Int} (hs : Rd k s) (hk : k <= 900000000) : ∃ v s',r54 dd s = some (v,s') ∧ kindOk v ∧ Rd (k + 1) s' := by
 obtain ⟨v,s1,h1,g1,g2,r1⟩ := xK 4 hs (by omega) (by omega)
 have g2 := g2 (by omega)
 obtain ⟨b,p⟩ := s
 refine ⟨gt [68,85,82,80] v 0,s1,?_,gt4 g1 g2,r1⟩
 refine dL rfl ((b54 dd l54 ..).trans ?_); show (_ : Option (Int × List Int × Int)) = some _
 rw [h1,Option.bind_some,if_pos g1,if_pos g2]
theorem D90 {k : Int} {s : List Int × Int} (hs : Rd k s) (hk : k <= 900000000) : ∃ v s',r90 dd s = some (v,s') ∧ gu v = true ∧ Rd (k + 8) s' := by
 obtain ⟨v1,s1,h1,a1,b1,r1⟩ := xK 256 hs (by omega) (by omega)
 obtain ⟨v2,s2,h2,a2,b2,r2⟩ := xK 3 r1 (by omega) (by omega)
 obtain ⟨v3,s3,h3,a3,b3,r3⟩ := xK 256 r2 (by omega) (by omega)
 obtain ⟨v4,s4,h4,a4,b4,r4⟩ := xK 2 r3 (by omega) (by omega)
 obtain ⟨v5,s5,h5,a5,b5,r5⟩ := xK 256 r4 (by omega) (by omega)
 obtain ⟨v6,s6,h6,a6,b6,r6⟩ := xK 2 r5 (by omega) (by omega)
 obtain ⟨v7,s7,h7,a7,b7,r7⟩ := xK 256 r6 (by omega) (by omega)
 obtain ⟨v8,s8,h8,a8,b8,r8⟩ := xK 4 r7 (by omega) (by omega)
 have b1 := b1 (by omega); have b2 := b2 (by omega); have b3 := b3 (by omega); have b4 := b4 (by omega)
 have b5 := b5 (by omega); have b6 := b6 (by omega); have b7 := b7 (by omega); have b8 := b8 (by omega)
 have n1 := gt3 (a := 0) (b := 255) (c := v1) a2 b2
 have n2 := gt2 (a := gt [0,255,v1] v2 0) (b := v3) a4 b4
 have n3 := gt2 (a := gt [0,255,v1] v2 0) (b := v5) a6 b6
 have n4 := gt4 (a := 255) (b := 255) (c := 0) (d := v7) a8 b8
 obtain ⟨b,p⟩ := s
 refine ⟨(gt [0,255,v1] v2 0,gt [gt [0,255,v1] v2 0,v3] v4 0,gt [gt [0,255,v1] v2 0,v5] v6 0,gt [255,255,0,v7] v8 0),s8,?_,?_,r8.le (by omega)⟩
 ·refine dL rfl ((b90 dd l90 ..).trans ?_); show (_ : Option (I4 × List Int × Int)) = some _
  rw [h1,Option.bind_some,h2,Option.bind_some,if_pos a2,if_pos b2,h3,Option.bind_some,h4,Option.bind_some,if_pos a4,if_pos b4,h5,Option.bind_some,h6,Option.bind_some,if_pos a6,if_pos b6,h7,Option.bind_some,h8,Option.bind_some,if_pos a8,if_pos b8]
 ·unfold gu
  simp only [Bool.and_eq_true,jI]
  omega
end T
end
section
namespace T
open Go Go.E Go.Proofs
theorem PV {α : Type} {l : List α} {x : α} {f : α -> Bool} (h : l.all f = true) (hx : f x = true) : (l ++ [x]).all f = true := by
 rw [List.all_append,h]; simp [hx]
theorem L56 (w h : Int) (N : Nat) (hN : w * h = N) (hN2 : N <= 36) : ∀ (j i : Nat) (b : List Int) (p k : Int) (l : List eF) (x : eF),i + j = N -> Rd k (b,p) -> k + 9 * j <= 900000000 -> l.length = i -> l.all gu = true -> gu x = true ->
  ∃ l' s',l56 (Pz 0 i b p 0 0 w h l x.1 x.2.1 x.2.2.1 x.2.2.2) = some ((w,h,l'),s') ∧ l'.length = N ∧ l'.all gu = true ∧ Rd (k + 9 * j + 1) s'
 | 0,i,b,p,k,l,x,hi,hs,hk,hl,ha,hx => by
  obtain ⟨v,s1,h1,r1,hv⟩ := D57 0 hs (by omega) (by omega)
  have hv := hv (by omega)
  subst hv
  refine ⟨l,s1,?_,by omega,ha,r1.le (by omega)⟩
  refine eL ((Yf dd l56 ..).trans ?_)
  rw [hN,aK (x := (N : Int)) (by omega) (by omega),aC (by omega),h1,Option.bind_some]
  rfl
 | j + 1,i,b,p,k,l,x,hi,hs,hk,hl,ha,hx => by
  obtain ⟨v1,s1,h1,a1,b1,r1⟩ := xK 3 hs (by omega) (by omega)
  have hc : (l.length + 1) * 32 <= 140737488355328 := by omega
  have hw : wi (w * h) = N := by rw [hN]; exact aK (by omega) (by omega)
  have hi1 : wi ((i : Int) + 1) = ((i + 1 : Nat) : Int) := bg (by omega)
  by_cases c : v1 > 0
  ·obtain ⟨y,s2,h2,py,r2⟩ := D90 r1 (by omega)
   obtain ⟨b2,p2⟩ := s2
   obtain ⟨l',s',i1,i2,i3,i4⟩ := L56 w h N hN hN2 j (i + 1) b2 p2 _ (l ++ [y]) y (by omega) r2 (by omega) (by simp; omega) (PV ha py) py
   refine ⟨l',s',?_,i2,i3,i4.le (by omega)⟩
   refine eL ((Yf dd l56 ..).trans ?_)
   rw [hw,au (by omega),h1,Option.bind_some,au c,h2,Option.bind_some,if_pos hc,hi1]
   exact i1
  ·obtain ⟨b1,p1⟩ := s1
   obtain ⟨l',s',i1,i2,i3,i4⟩ := L56 w h N hN hN2 j (i + 1) b1 p1 _ (l ++ [x]) x (by omega) r1 (by omega) (by simp; omega) (PV ha hx) hx
   refine ⟨l',s',?_,i2,i3,i4.le (by omega)⟩
   refine eL ((Yf dd l56 ..).trans ?_)
   rw [hw,au (by omega),h1,Option.bind_some,aC c,if_pos hc,hi1]
   exact i1
theorem D56 {k : Int} {s : List Int × Int} (hs : Rd k s) (hk : k <= 800000000) : ∃ r s',r56 dd (s,0) = some (r,s') ∧ qF r = true ∧ Rd (k + 335) s' := by
 obtain ⟨v1,s1,h1,a1,b1,r1⟩ := xK 6 hs (by omega) (by omega)
 obtain ⟨v2,s2,h2,a2,b2,r2⟩ := xK 6 r1 (by omega) (by omega)
 obtain ⟨y,s3,h3,py,r3⟩ := D90 r2 (by omega)
 have b1 := b1 (by omega); have b2 := b2 (by omega)
 obtain ⟨b,p⟩ := s
 obtain ⟨b3,p3⟩ := s3
 have hm : 0 <= (1 + v1) * (1 + v2) ∧ (1 + v1) * (1 + v2) <= 36 := by
  refine ⟨Int.mul_nonneg (by omega) (by omega),?_⟩
  have := Int.mul_le_mul (show 1 + v1 <= 6 by omega) (show 1 + v2 <= 6 by omega) (by omega) (by omega)
  omega
 obtain ⟨l',s',i1,i2,i3,i4⟩ := L56 (1 + v1) (1 + v2) ((1 + v1) * (1 + v2)).toNat (by omega) (by omega) ((1 + v1) * (1 + v2)).toNat 0 b3 p3 _ [] y (by omega) r3 (by omega) rfl rfl py
 refine ⟨(1 + v1,1 + v2,l'),s',?_,?_,i4.le (by omega)⟩
 ·refine dL rfl ((b56 dd l56 ..).trans ?_)
  rw [h1,Option.bind_some,h2,Option.bind_some,h3,Option.bind_some,aK (by omega) (by omega),aK (by omega) (by omega)]
  exact i1
 ·unfold qF
  simp only [Bool.and_eq_true,jI,decide_eq_true_eq]
  exact ⟨by omega,by omega,by rw [gG,i2]; omega,i3⟩
def JD (o : Op) : Prop := (-1 <= o.1 ∧ o.1 <= 256) ∧ (-1 <= o.2.1 ∧ o.2.1 <= 256) ∧ (-1 <= o.2.2.1 ∧ o.2.2.1 <= 256) ∧ (-1 <= o.2.2.2.1 ∧ o.2.2.2.1 <= 256) ∧ (-1 <= o.2.2.2.2 ∧ o.2.2.2.2 <= 256)
theorem L60 {k : Int} {b : List Int} {p : Int} (n : Int) (o : Op) (hn : n <= 1000) (ho : JD o) (hs : Rd k (b,p)) (hk : k <= 800000000) (z0 z1 z2 z3 z4 : Int) :
  ∃ o' s',Zn (KH n b p z0 z1 z2 z3 z4 o.1 o.2.1 o.2.2.1 o.2.2.2.1 o.2.2.2.2) = some (o',s') ∧ JD o' ∧ Rd (k + 3) s' := by
 obtain ⟨o1,o2,o3,o4,o5⟩ := o
 obtain ⟨q1,q2,q3,q4,q5⟩ := ho
 dsimp only at q1 q2 q3 q4 q5
 obtain ⟨v,s1,h1,r1,_⟩ := D57 n hs (by omega) (by omega)
 cases v with
 | false =>
  refine ⟨(o1,o2,o3,o4,o5),s1,?_,⟨q1,q2,q3,q4,q5⟩,r1.le (by omega)⟩
  refine eL ((PD dd Zn ..).trans ?_); show (_ : Option ((I5) × List Int × Int)) = some _
  rw [h1,Option.bind_some]; rfl
 | true =>
  obtain ⟨v2,s2,h2,a2,b2,r2⟩ := xK 4 r1 (by omega) (by omega)
  obtain ⟨v3,s3,h3,a3,b3,r3⟩ := xK 2 r2 (by omega) (by omega)
  have b3 := b3 (by omega)
  by_cases c0 : v2 = 0
  ·refine ⟨(gt [0,9] v3 0,o2,o3,o4,o5),s3,?_,⟨?_,q2,q3,q4,q5⟩,r3.le (by omega)⟩
   ·refine eL ((PD dd Zn ..).trans ?_); show (_ : Option ((I5) × List Int × Int)) = some _
    rw [h1,Option.bind_some,cond_true,h2,Option.bind_some,bJ c0,h3,Option.bind_some,if_pos a3,if_pos b3]
   ·have := gt2 (a := 0) (b := 9) a3 b3; dsimp only; omega
  by_cases c1 : v2 = 1
  ·refine ⟨(o1,gt [-1,256] v3 0,o3,o4,o5),s3,?_,⟨q1,?_,q3,q4,q5⟩,r3.le (by omega)⟩
   ·refine eL ((PD dd Zn ..).trans ?_); show (_ : Option ((I5) × List Int × Int)) = some _
    rw [h1,Option.bind_some,cond_true,h2,Option.bind_some,aN c0,bJ c1,h3,Option.bind_some,if_pos a3,if_pos b3]
   ·have := gt2 (a := -1) (b := 256) a3 b3; dsimp only; omega
  by_cases c2 : v2 = 2
  ·refine ⟨(o1,o2,o3,gt [-1,256] v3 0,o5),s3,?_,⟨q1,q2,q3,?_,q5⟩,r3.le (by omega)⟩
   ·refine eL ((PD dd Zn ..).trans ?_); show (_ : Option ((I5) × List Int × Int)) = some _
    rw [h1,Option.bind_some,cond_true,h2,Option.bind_some,aN c0,aN c1,bJ c2,h3,Option.bind_some,if_pos a3,if_pos b3]
   ·have := gt2 (a := -1) (b := 256) a3 b3; dsimp only; omega
  ·refine ⟨(o1,o2,o3,o4,gt [1,7] v3 0),s3,?_,⟨q1,q2,q3,q4,?_⟩,r3.le (by omega)⟩
   ·refine eL ((PD dd Zn ..).trans ?_); show (_ : Option ((I5) × List Int × Int)) = some _
    rw [h1,Option.bind_some,cond_true,h2,Option.bind_some,aN c0,aN c1,aN c2,h3,Option.bind_some,if_pos a3,if_pos b3]
   ·have := gt2 (a := 1) (b := 7) a3 b3; dsimp only; omega
theorem D60 {k : Int} {s : List Int × Int} (n : Int) (hn : n <= 1000) (hs : Rd k s) (hk : k <= 700000000) : ∃ o s',r60 dd (s,n) = some (o,s') ∧ JD o ∧ Rd (k + 8) s' := by
 obtain ⟨b,p⟩ := s
 obtain ⟨v,s0,h0,a0,b0,r0⟩ := xK 8 hs (by omega) (by omega)
 have b0 := b0 (by omega)
 have e0 : wi (1 + v) = 1 + v := aK (by omega) (by omega)
 by_cases c1 : 1 + v = 1
 ·obtain ⟨v1,s1,h1,a1,b1,r1⟩ := xK 3 r0 (by omega) (by omega)
  obtain ⟨v2,s2,h2,a2,b2,r2⟩ := xK 3 r1 (by omega) (by omega)
  obtain ⟨v3,s3,h3,a3,b3,r3⟩ := xK 4 r2 (by omega) (by omega)
  obtain ⟨v4,s4,h4,a4,b4,r4⟩ := xK 4 r3 (by omega) (by omega)
  have b1 := b1 (by omega); have b2 := b2 (by omega); have b3 := b3 (by omega); have b4 := b4 (by omega)
  obtain ⟨b',p'⟩ := s4
  obtain ⟨o',s',i1,i2,i3⟩ := L60 n (1,v1,v2,1 + v3,1 + v4) hn (by unfold JD; dsimp only; omega) r4 (by omega) 0 0 0 0 0
  refine ⟨o',s',?_,i2,i3.le (by omega)⟩
  refine dL rfl ((b60 dd Zn ..).trans ?_)
  rw [h0,Option.bind_some,e0,bJ c1,h1,Option.bind_some,h2,Option.bind_some,h3,Option.bind_some,h4,Option.bind_some,aK (x := 1 + v3) (by omega) (by omega),aK (x := 1 + v4) (by omega) (by omega)]
  exact i1
 by_cases c7 : 1 + v = 7
 ·obtain ⟨v1,s1,h1,a1,b1,r1⟩ := xK 6 r0 (by omega) (by omega)
  obtain ⟨v2,s2,h2,a2,b2,r2⟩ := xK 6 r1 (by omega) (by omega)
  have b1 := b1 (by omega); have b2 := b2 (by omega)
  obtain ⟨b',p'⟩ := s2
  obtain ⟨o',s',i1,i2,i3⟩ := L60 n (7,1 + v1,1 + v2,0,0) hn (by unfold JD; dsimp only; omega) r2 (by omega) 0 0 0 0 0
  refine ⟨o',s',?_,i2,i3.le (by omega)⟩
  refine dL rfl ((b60 dd Zn ..).trans ?_)
  rw [h0,Option.bind_some,e0,aN c1,bJ c7,h1,Option.bind_some,h2,Option.bind_some,aK (x := 1 + v1) (by omega) (by omega),aK (x := 1 + v2) (by omega) (by omega)]
  exact i1
 by_cases c8 : 1 + v = 8
 ·obtain ⟨v1,s1,h1,a1,b1,r1⟩ := xK 256 r0 (by omega) (by omega)
  obtain ⟨v2,s2,h2,a2,b2,r2⟩ := xK 256 r1 (by omega) (by omega)
  obtain ⟨v3,s3,h3,a3,b3,r3⟩ := xK 256 r2 (by omega) (by omega)
  have b1 := b1 (by omega); have b2 := b2 (by omega); have b3 := b3 (by omega)
  obtain ⟨b',p'⟩ := s3
  obtain ⟨o',s',i1,i2,i3⟩ := L60 n (8,v1,v2,v3,0) hn (by unfold JD; dsimp only; omega) r3 (by omega) 0 0 0 0 0
  refine ⟨o',s',?_,i2,i3.le (by omega)⟩
  refine dL rfl ((b60 dd Zn ..).trans ?_)
  rw [h0,Option.bind_some,e0,aN c1,aN c7,bJ c8,h1,Option.bind_some,h2,Option.bind_some,h3,Option.bind_some]
  exact i1
 ·obtain ⟨b',p'⟩ := s0
  obtain ⟨o',s',i1,i2,i3⟩ := L60 n (1 + v,0,0,0,0) hn (by unfold JD; dsimp only; omega) r0 (by omega) 0 0 0 0 0
  refine ⟨o',s',?_,i2,i3.le (by omega)⟩
  refine dL rfl ((b60 dd Zn ..).trans ?_)
  rw [h0,Option.bind_some,e0,aN c1,aN c7,aN c8]
  exact i1
def yZ (l : List Op) : Prop := ∀ o ∈ l,JD o
theorem Bz {l : List Op} {o : Op} (h : yZ l) (ho : JD o) : yZ (l ++ [o]) := fun x hx => by
 rcases List.mem_append.1 hx with q | q
 ·exact h x q
 ·rw [List.mem_singleton.1 q]; exact ho
theorem aff : ∀ (j : Nat) (b : List Int) (p k : Int) (l : List Op),Rd k (b,p) -> yZ l -> l.length <= 20 -> l.length + j ≥ 6 -> ∃ l' s',VA (TK b p l) = some (l',s') ∧ yZ l' ∧ l'.length <= 20 ∧ Rd k s'
 | 0,b,p,k,l,hs,ho,hl,hj => by
  refine ⟨l,(b,p),?_,ho,hl,hs⟩
  refine eL ((Yc dd VA ..).trans ?_); show (_ : Option (List I5 × List Int × Int)) = some _
  have := gG l
  rw [aC (by omega)]
 | j + 1,b,p,k,l,hs,ho,hl,hj => by
  have hln := gG l
  by_cases c : ln l <= 5
  ·obtain ⟨l',s',i1,i2⟩ := aff j b p k (l ++ [(4,0,0,0,0)]) hs (Bz ho (by unfold JD; dsimp only; omega)) (by simp; omega) (by simp; omega)
   refine ⟨l',s',?_,i2⟩
   refine eL ((Yc dd VA ..).trans ?_); show (_ : Option (List I5 × List Int × Int)) = some _
   rw [au c,if_pos (by omega)]
   exact i1
  ·refine ⟨l,(b,p),?_,ho,hl,hs⟩
   refine eL ((Yc dd VA ..).trans ?_); show (_ : Option (List I5 × List Int × Int)) = some _
   rw [aC c]
theorem afg (n : Int) (hn : n <= 1000) {b : List Int} {p k : Int} {l : List Op} (hs : Rd k (b,p)) (hk : k <= 600000000) (ho : yZ l) (hl : l.length <= 20) : ∃ l' s',VA (TJ n b p l) = some (l',s') ∧ yZ l' ∧ l'.length <= 20 ∧ Rd (k + 1) s' := by
 obtain ⟨v,s1,h1,r1,_⟩ := D57 n hs (by omega) (by omega)
 cases v with
 | false =>
  refine ⟨l,s1,?_,ho,hl,r1⟩
  refine eL ((aa4 dd VA ..).trans ?_)
  rw [h1,Option.bind_some]; rfl
 | true =>
  obtain ⟨b1,p1⟩ := s1
  obtain ⟨l',s',i1,i2⟩ := aff 6 b1 p1 _ l r1 ho hl (by omega)
  refine ⟨l',s',?_,i2⟩
  refine eL ((aa4 dd VA ..).trans ?_)
  rw [h1,Option.bind_some]
  exact i1
theorem afh (n : Int) (hn : n <= 1000) : ∀ (j : Nat) (b : List Int) (p k : Int) (l : List Op),Rd k (b,p) -> k + 8 * j <= 500000000 -> yZ l -> l.length + j <= 10 -> ∃ l' s',VA (TG n j b p l) = some (l',s') ∧ yZ l' ∧ l'.length <= 20 ∧ Rd (k + 8 * j + 10) s'
 | 0,b,p,k,l,hs,hk,ho,hl => by
  obtain ⟨v,s1,h1,r1,_⟩ := D57 n hs (by omega) (by omega)
  cases v with
  | false =>
   obtain ⟨b1,p1⟩ := s1
   obtain ⟨l',s',i1,i2,i3,i4⟩ := afg n hn r1 (by omega) ho (by omega)
   refine ⟨l',s',?_,i2,i3,i4.le (by omega)⟩
   refine eL ((Yb dd VA ..).trans ?_)
   rw [aC (by omega),h1,Option.bind_some]
   exact i1
  | true =>
   obtain ⟨o,s2,h2,po,r2⟩ := D60 1 (by omega) r1 (by omega)
   obtain ⟨b2,p2⟩ := s2
   obtain ⟨l',s',i1,i2,i3,i4⟩ := afg n hn r2 (by omega) (Bz ho po) (by simp; omega)
   refine ⟨l',s',?_,i2,i3,i4.le (by omega)⟩
   refine eL ((Yb dd VA ..).trans ?_)
   rw [aC (by omega),h1,Option.bind_some,cond_true,h2,Option.bind_some,if_pos (by omega)]
   exact i1
 | j + 1,b,p,k,l,hs,hk,ho,hl => by
  obtain ⟨o,s2,h2,po,r2⟩ := D60 0 (by omega) hs (by omega)
  obtain ⟨b2,p2⟩ := s2
  obtain ⟨l',s',i1,i2,i3,i4⟩ := afh n hn j b2 p2 _ (l ++ [o]) r2 (by omega) (Bz ho po) (by simp; omega)
  refine ⟨l',s',?_,i2,i3,i4.le (by omega)⟩
  refine eL ((Yb dd VA ..).trans ?_)
  rw [au (by omega),h2,Option.bind_some,if_pos (by omega),aK (by omega) (by omega),show ((j + 1 : Nat) : Int) - 1 = (j : Int) by omega]
  exact i1
theorem D34 {k : Int} {s : List Int × Int} (n : Int) (hn : n <= 1000) (hs : Rd k s) (hk : k <= 400000000) : ∃ l s',r34 dd (s,n) = some (l,s') ∧ yZ l ∧ l.length <= 20 ∧ Rd (k + 100) s' := by
 obtain ⟨b,p⟩ := s
 obtain ⟨v,s0,h0,a0,b0,r0⟩ := xK 6 hs (by omega) (by omega)
 have b0 := b0 (by omega)
 obtain ⟨b1,p1⟩ := s0
 obtain ⟨l',s',i1,i2,i3,i4⟩ := afh n hn v.toNat b1 p1 _ [] r0 (by omega) (fun _ h => by cases h) (by simp; omega)
 refine ⟨l',s',?_,i2,i3,i4.le (by omega)⟩
 refine dL rfl ((b34 dd VA ..).trans ?_)
 rw [h0,Option.bind_some]
 rw [Int.toNat_of_nonneg a0] at i1
 exact i1
end T
end
section
namespace T
open Go Go.E Go.Proofs
def ny (o : List Int) (t : Nat) (v : Int) : List Int := if t % 8 = 0 then o ++ [v] else o.set (t / 8) (gt o ((t / 8 : Nat) : Int) 0 + v * 2 ^ (t % 8))
def oC (N : Int) : Nat -> Nat -> List Int -> Nat -> List Int
 | 0,_,o,_ => o
 | c + 1,j,o,t => oC N c (j + 1) (ny o t (N / 2 ^ j % 2)) (t + 1)
def mD : List (Int × Int) -> List Int -> Nat -> List Int
 | [],o,_ => o
 | c :: l,o,t => mD l (oC c.1 9 0 o t) (t + 9)
structure BI (o : List Int) (t : Nat) : Prop where
 len : o.length = (t + 7) / 8
 byt : gQ o
 top : t % 8 ≠ 0 -> gt o ((t / 8 : Nat) : Int) 0 < 2 ^ (t % 8)
theorem JE : ∀ {m : Nat},m < 8 -> (2 : Int) ^ m * 2 <= 256 ∧ 1 <= (2 : Int) ^ m := by decide
theorem PW {o : List Int} {y x : Int} : (o ++ [y]).set o.length x = o ++ [x] := by simp
theorem RV {o : List Int} {i : Nat} {x : Int} (h : i < o.length) : gt (o.set i x) (i : Int) 0 = x := by
 rw [iW (by simpa using h)]; simp
theorem Gp {o : List Int} {x : Int} : gt (o ++ [x]) ((o.length : Nat) : Int) 0 = x := by
 rw [iW (by simp)]; simp
theorem BI.step {o : List Int} {t : Nat} {v : Int} (h : BI o t) (hv : v = 0 ∨ v = 1) : BI (ny o t v) (t + 1) := by
 unfold ny
 have hl := h.len
 by_cases c : t % 8 = 0
 ·rw [if_pos c]
  refine ⟨by simp; omega,nH.2 ⟨h.byt,dI.2 ⟨by omega,iQ⟩⟩,fun _ => ?_⟩
  have : (t + 1) / 8 = o.length := by omega
  rw [this,Gp,show (t + 1) % 8 = 1 by omega]
  omega
 ·rw [if_neg c]
  have hlt : t / 8 < o.length := by omega
  have ht := h.top c
  have hg := gy h.byt ((t / 8 : Nat) : Int)
  have hp := JE (m := t % 8) (by omega)
  have hx : gt o ((t / 8 : Nat) : Int) 0 + v * 2 ^ (t % 8) < 2 ^ (t % 8) * 2 ∧ 0 <= gt o ((t / 8 : Nat) : Int) 0 + v * 2 ^ (t % 8) := by
   rcases hv with rfl | rfl <;> omega
  refine ⟨by simp; omega,fun b hb => ?_,fun c' => ?_⟩
  ·rcases List.mem_or_eq_of_mem_set hb with q | q
   ·exact h.byt b q
   ·rw [q]; omega
  ·have e1 : (t + 1) / 8 = t / 8 := by omega
   have e2 : (t + 1) % 8 = t % 8 + 1 := by omega
   rw [e1,e2,RV hlt,Int.pow_succ]
   exact hx.1
theorem Uh (N : Int) (j : Nat) : N / 2 ^ j % 2 = 0 ∨ N / 2 ^ j % 2 = 1 := by omega
theorem BI.oC {N : Int} : ∀ (c j : Nat) {o : List Int} {t : Nat},BI o t -> BI (oC N c j o t) (t + c)
 | 0,j,o,t,h => h
 | c + 1,j,o,t,h => by
  have := BI.oC (N := N) c (j + 1) (h.step (Uh N j))
  rw [show t + 1 + c = t + (c + 1) by omega] at this
  exact this
theorem BI.bits : ∀ {l : List (Int × Int)} {o : List Int} {t : Nat},BI o t -> BI (mD l o t) (t + 9 * l.length)
 | [],o,t,h => h
 | c :: l,o,t,h => by
  have := BI.bits (l := l) (BI.oC (N := c.1) 9 0 h)
  rw [show t + 9 + 9 * l.length = t + 9 * (c :: l).length by simp; omega] at this
  exact this
theorem BI.nil : BI [] 0 := ⟨rfl,iQ,fun h => absurd rfl h⟩
def Je (l : List (Int × Int)) : Prop := ∀ c ∈ l,(0 <= c.1 ∧ c.1 < 512) ∧ c.2 = 9
theorem Dl {l : List (Int × Int)} (h : Je l) {i : Nat} (hi : i < l.length) : (0 <= (gt l (i : Int) (0,0)).1 ∧ (gt l (i : Int) (0,0)).1 < 512) ∧ (gt l (i : Int) (0,0)).2 = 9 := by
 rw [iW hi]; exact h _ (List.getElem_mem hi)
theorem pw (j : Nat) (h : j <= 8) : (1 : Int) <= 2 ^ j ∧ (2 : Int) ^ j <= 256 := by
 have : ∀ m : Nat,m < 9 -> (1 : Int) <= 2 ^ m ∧ (2 : Int) ^ m <= 256 := by decide
 exact this j (by omega)
theorem JF {j : Nat} {K : IntKind} (h : j <= K.bits) : min ((j : Int)).toNat K.bits = j := by rw [Int.toNat_natCast]; omega
theorem aiv (N : Int) : ae2 dd (N,9) = some (nR N 0 511) := by
 refine dL rfl ((ahz dd ahA ..).trans ?_)
 rw [D36,Option.bind_some]
 show (if (0 : Int) <= 9 then _ else none) = _
 rw [if_pos (by decide),D36]
 rfl
theorem aiw (N : Int) : ae6 dd (N,9) = some (nR N 0 511) := by
 refine dL rfl ((ah2 dd ah3 ..).trans ?_); show (_ : Option Bool) = some _; unfold nR
 rw [au (by decide),au (by decide),if_pos (by decide)]
 have e : wi (1 * 2 ^ min (Int.toNat 9) IntKind.i64.bits) = 512 := by decide
 rw [e]
 by_cases h : 0 <= N
 ·rw [au (by omega)]
  have : (N < 512) ↔ (0 <= N ∧ N <= 511) := by omega
  simp only [this]
 ·rw [aC (by omega)]
  have : ¬ (0 <= N ∧ N <= 511) := by omega
  simp [this]
theorem abD (xs : List (Int × Int)) (hx : Je xs) (hl : xs.length <= 300) (i : Nat) (hi : i < xs.length) (r : List Int) : ∀ (c j : Nat) (o : List Int) (t : Nat),j + c = 9 -> BI o t -> t + c <= 2700 ->
  JA (Ej xs ((t + c : Nat) : Int) ((i + 1 : Nat) : Int) (oC (gt xs (i : Int) (0,0)).1 c j o t)) = some r -> JA (Em xs t i j o) = some r
 | 0,j,o,t,h,hb,ht,hk => by
  obtain ⟨_,h9⟩ := Dl hx hi
  have hln := gG xs
  refine eL ((Yq dd JA ..).trans ?_)
  rw [if_pos (by omega),if_pos (by omega),h9,aC (by omega),bg (by omega)]
  exact hk
 | c + 1,j,o,t,h,hb,ht,hk => by
  obtain ⟨hN,h9⟩ := Dl hx hi
  have hln := gG xs
  have hlo := gG o
  have hlen := hb.len
  have e8 : ((t : Int)).tdiv 8 = ((t / 8 : Nat) : Int) := by rw [td (by omega)]; omega
  have m8 : ((t : Int)).tmod 8 = ((t % 8 : Nat) : Int) := by rw [tm (by omega)]; omega
  have w8 : wi ((t / 8 : Nat) : Int) = ((t / 8 : Nat) : Int) := aK (by omega) (by omega)
  have hp := JE (m := t % 8) (by omega)
  have hv : (Int.fdiv (gt xs (i : Int) (0,0)).1 (2 ^ j)).tmod 2 = (gt xs (i : Int) (0,0)).1 / 2 ^ j % 2 := by
   have := pw j (by omega)
   rw [fd (by omega),tm (Int.ediv_nonneg hN.1 (by omega))]
  have h01 := Uh (gt xs (i : Int) (0,0)).1 j
  generalize hV : (gt xs (i : Int) (0,0)).1 / 2 ^ j % 2 = v at hv h01
  have hw1 : wi (v * 2 ^ (t % 8)) = v * 2 ^ (t % 8) := by rcases h01 with rfl | rfl <;> exact aK (by omega) (by omega)
  have hw2 : wb (v * 2 ^ (t % 8)) = v * 2 ^ (t % 8) := by rcases h01 with rfl | rfl <;> exact jT (by omega) (by omega)
  have hbs := hb.step h01
  have next := abD xs hx hl i hi r c (j + 1) (ny o t v) (t + 1) (by omega) hbs (by omega)
  have hk' : JA (Ej xs ((t + 1 + c : Nat) : Int) ((i + 1 : Nat) : Int) (oC (gt xs (i : Int) (0,0)).1 c (j + 1) (ny o t v) (t + 1))) = some r := by
   rw [show t + 1 + c = t + (c + 1) by omega]
   unfold oC at hk
   rw [hV] at hk
   exact hk
  have next := next hk'
  have mt : min (((t % 8 : Nat) : Int)).toNat IntKind.i64.bits = t % 8 := JF (by show t % 8 <= 64; omega)
  have mj : min ((j : Int)).toNat IntKind.i64.bits = j := JF (by show j <= 64; omega)
  refine eL ((Yq dd JA ..).trans ?_)
  rw [if_pos (by omega),if_pos (by omega),h9,au (by omega),e8,m8,w8,mt,mj,hv,hw1,hw2,bg (by omega),bg (by omega)]
  by_cases c8 : t % 8 = 0
  ·have hol : t / 8 = o.length := by omega
   have hlo2 : ln (o.append [0]) = (o.length : Int) + 1 := by show ((o ++ [0]).length : Int) = _; simp
   rw [bJ (by omega),if_pos (by omega)]
   simp (disch := omega) only [↓if_pos]
   have e1 : gt (o.append [0]) ((t / 8 : Nat) : Int) 0 = 0 := by rw [hol]; exact Gp
   rw [e1,c8]
   have e2 : wb (0 + v * 2 ^ 0) = v := by rcases h01 with rfl | rfl <;> decide
   rw [e2,Int.toNat_natCast,hol]
   have e3 : (o.append [0]).set o.length v = ny o t v := by
    unfold ny
    rw [if_pos c8]; exact PW
   rw [e3]
   exact next
  ·rw [aN (by omega)]
   simp (disch := omega) only [↓if_pos]
   have htop := hb.top c8
   have hg := gy hb.byt ((t / 8 : Nat) : Int)
   have e2 : wb (gt o ((t / 8 : Nat) : Int) 0 + v * 2 ^ (t % 8)) = gt o ((t / 8 : Nat) : Int) 0 + v * 2 ^ (t % 8) := by rcases h01 with rfl | rfl <;> exact jT (by omega) (by omega)
   rw [e2,Int.toNat_natCast]
   have e3 : o.set (t / 8) (gt o ((t / 8 : Nat) : Int) 0 + v * 2 ^ (t % 8)) = ny o t v := by
    unfold ny
    rw [if_neg c8]
   rw [e3]
   exact next
theorem abE (xs : List (Int × Int)) (hx : Je xs) (hl : xs.length <= 300) : ∀ (k i : Nat) (o : List Int),i + k = xs.length -> BI o (9 * i) -> JA (Ej xs ((9 * i : Nat) : Int) i o) = some (mD (xs.drop i) o (9 * i))
 | 0,i,o,h,hb => by
  have hln := gG xs
  have hlo := gG o
  have hlen := hb.len
  refine eL ((Yp dd JA ..).trans ?_)
  rw [aC (by omega),aC (by omega),List.drop_eq_nil_of_le (by omega)]
  rfl
 | k + 1,i,o,h,hb => by
  have hi : i < xs.length := by omega
  have hln := gG xs
  have hlo := gG o
  have hlen := hb.len
  obtain ⟨hN,h9⟩ := Dl hx hi
  refine eL ((Yp dd JA ..).trans ?_)
  rw [au (by omega),if_pos (by omega),if_pos (by omega)]
  have e : gt xs (i : Int) (0,0) = ((gt xs (i : Int) (0,0)).1,9) := by rw [<- h9]
  rw [e,aiv,Option.bind_some]
  have hin : nR (gt xs (i : Int) (0,0)).1 0 511 = true := jI.2 (by omega)
  rw [hin]
  show (bif decide (ln o > 400) then some [] else JA (Em xs ((9 * i : Nat) : Int) i 0 o)) = _
  rw [aC (by omega),kE (z := (0,0)) hi]
  refine abD xs hx hl i hi _ 9 0 o (9 * i) (by omega) hb (by omega) ?_
  have := abE xs hx hl k (i + 1) (oC (gt xs (i : Int) (0,0)).1 9 0 o (9 * i)) (by omega) (by
   have := BI.oC (N := (gt xs (i : Int) (0,0)).1) 9 0 hb
   rw [show 9 * i + 9 = 9 * (i + 1) by omega] at this
   exact this)
  rw [show 9 * i + 9 = 9 * (i + 1) by omega,this]
  show _ = some (mD (xs.drop (i + 1)) (oC (gt xs (i : Int) (0,0)).1 9 0 o (9 * i)) (9 * i + 9))
  rw [show 9 * i + 9 = 9 * (i + 1) by omega]
theorem aix (xs : List (Int × Int)) (hx : Je xs) (hl : xs.length <= 300) : XI dd xs = some (mD xs [] 0) := by
 refine dL rfl ((ahx dd JA ..).trans ?_)
 exact abE xs hx hl xs.length 0 [] (by omega) BI.nil
theorem and1 (y : Int) (h1 : 0 <= y) : wi (↑(BitVec.ofInt IntKind.i64.bits y &&& BitVec.ofInt IntKind.i64.bits 1).toNat : Int) = y % 2 := by
 have e : (BitVec.ofInt IntKind.i64.bits y &&& BitVec.ofInt IntKind.i64.bits 1).toNat = (y % 18446744073709551616).toNat % 2 := by
  rw [BitVec.toNat_and,BitVec.toNat_ofInt,BitVec.toNat_ofInt]
  show (y % 18446744073709551616).toNat &&& 1 = _
  exact Nat.and_one_is_mod _
 rw [e,aK (by omega) (by omega)]
 omega
theorem afi (y : Int) (h1 : 0 <= y) : wb (↑(BitVec.ofInt IntKind.u8.bits y &&& BitVec.ofInt IntKind.u8.bits 1).toNat : Int) = y % 2 := by
 have e : (BitVec.ofInt IntKind.u8.bits y &&& BitVec.ofInt IntKind.u8.bits 1).toNat = (y % 256).toNat % 2 := by
  rw [BitVec.toNat_and,BitVec.toNat_ofInt,BitVec.toNat_ofInt]
  show (y % 256).toNat &&& 1 = _
  exact Nat.and_one_is_mod _
 rw [e,jT (by omega) (by omega)]
 omega
theorem or_bit (g v : Int) (m : Nat) (hm : m < 8) (h0 : 0 <= g) (h1 : g < 2 ^ m) (hv : v = 0 ∨ v = 1) : wb (↑(BitVec.ofInt IntKind.u8.bits g ||| BitVec.ofInt IntKind.u8.bits (v * 2 ^ m)).toNat : Int) = g + v * 2 ^ m := by
 have hp := JE hm
 have hpn : ((2 ^ m : Nat) : Int) = 2 ^ m := by simp
 have e : (BitVec.ofInt IntKind.u8.bits g ||| BitVec.ofInt IntKind.u8.bits (v * 2 ^ m)).toNat = g.toNat + v.toNat * 2 ^ m := by
  rw [BitVec.toNat_or,BitVec.toNat_ofInt,BitVec.toNat_ofInt]
  show (g % 256).toNat ||| (v * 2 ^ m % 256).toNat = _
  have e1 : (g % 256).toNat = g.toNat := by omega
  have e2 : (v * 2 ^ m % 256).toNat = 2 ^ m * v.toNat := by
   rcases hv with rfl | rfl
   ·simp
   ·rw [Int.one_mul,Int.emod_eq_of_lt (by omega) (by omega), <- hpn,Int.toNat_natCast]; simp
  rw [e1,e2,Nat.or_comm, <- Nat.two_pow_add_eq_or_of_lt (by omega),Nat.mul_comm]
  omega
 rw [e]
 have : ((g.toNat + v.toNat * 2 ^ m : Nat) : Int) = g + v * 2 ^ m := by
  rcases hv with rfl | rfl
  ·simp; omega
  ·simp; omega
 rw [this]
 rcases hv with rfl | rfl <;> exact jT (by omega) (by omega)
theorem afj (N : Int) (hN : 0 <= N ∧ N < 512) : ∀ (c j : Nat) (o : List Int) (t : Nat),j + c = 9 -> BI o t -> t + c <= 2700 -> YK (Ep 9 j t false o N 9) = some (oC N c j o t,((t + c : Nat) : Int),false)
 | 0,j,o,t,h,hb,ht => by
  refine eL ((YJ dd YK ..).trans ?_)
  rw [aC (by omega)]
  rfl
 | c + 1,j,o,t,h,hb,ht => by
  have hlo := gG o
  have hlen := hb.len
  have e8 : ((t : Int)).tdiv 8 = ((t / 8 : Nat) : Int) := by rw [td (by omega)]; omega
  have m8 : ((t : Int)).tmod 8 = ((t % 8 : Nat) : Int) := by rw [tm (by omega)]; omega
  have w8 : wi ((t / 8 : Nat) : Int) = ((t / 8 : Nat) : Int) := aK (by omega) (by omega)
  have hp := JE (m := t % 8) (by omega)
  have hpj := pw j (by omega)
  have h01 := Uh N j
  have hnn : 0 <= N / 2 ^ j := Int.ediv_nonneg hN.1 (by omega)
  have hv : wi (↑(BitVec.ofInt IntKind.i64.bits (N.fdiv (2 ^ j)) &&& BitVec.ofInt IntKind.i64.bits 1).toNat : Int) = N / 2 ^ j % 2 := by
   rw [fd (by omega)]; exact and1 _ hnn
  have next := afj N hN c (j + 1) (ny o t (N / 2 ^ j % 2)) (t + 1) (by omega) (hb.step h01) (by omega)
  have goal : oC N (c + 1) j o t = oC N c (j + 1) (ny o t (N / 2 ^ j % 2)) (t + 1) := rfl
  rw [goal,show t + (c + 1) = t + 1 + c by omega]
  generalize N / 2 ^ j % 2 = v at *
  have hw0 : wb v = v := jT (by omega) (by omega)
  have hw2 : wb (v * 2 ^ (t % 8)) = v * 2 ^ (t % 8) := by rcases h01 with rfl | rfl <;> exact jT (by omega) (by omega)
  have mt : min (((t % 8 : Nat) : Int)).toNat IntKind.u8.bits = t % 8 := JF (by show t % 8 <= 8; omega)
  have mj : min ((j : Int)).toNat IntKind.i64.bits = j := JF (by show j <= 64; omega)
  refine eL ((YJ dd YK ..).trans ?_)
  rw [au (by omega),e8,m8,w8,mt,mj,hv,hw0,hw2,bg (by omega),bg (by omega)]
  by_cases c8 : t % 8 = 0
  ·have hol : t / 8 = o.length := by omega
   have hlo2 : ln (o.append [0]) = (o.length : Int) + 1 := by show ((o ++ [0]).length : Int) = _; simp
   rw [bJ (by omega),if_pos (by omega)]
   simp (disch := omega) only [↓if_pos]
   have e1 : gt (o.append [0]) ((t / 8 : Nat) : Int) 0 = 0 := by rw [hol]; exact Gp
   rw [e1,or_bit 0 v (t % 8) (by omega) (by omega) (by omega) h01,c8]
   have e2 : 0 + v * 2 ^ 0 = v := by omega
   rw [e2,Int.toNat_natCast,hol]
   have e3 : (o.append [0]).set o.length v = ny o t v := by
    unfold ny
    rw [if_pos c8]; exact PW
   rw [e3]
   exact next
  ·rw [aN (by omega)]
   simp (disch := omega) only [↓if_pos]
   have htop := hb.top c8
   have hg := gy hb.byt ((t / 8 : Nat) : Int)
   rw [or_bit _ v (t % 8) (by omega) hg.1 htop h01,Int.toNat_natCast]
   have e3 : o.set (t / 8) (gt o ((t / 8 : Nat) : Int) 0 + v * 2 ^ (t % 8)) = ny o t v := by
    unfold ny
    rw [if_neg c8]
   rw [e3]
   exact next
theorem aiy (N : Int) (hN : 0 <= N ∧ N < 512) (o : List Int) (t : Nat) (hb : BI o t) (ht : t <= 2690) : ae5 dd ((o,(t : Int),false),N,9) = some (oC N 9 0 o t,((t + 9 : Nat) : Int),false) := by
 refine dL rfl ((ah1 dd YK ..).trans ?_)
 rw [aiw,Option.bind_some,jI.2 (show 0 <= N ∧ N <= 511 by omega)]
 show (bif decide (wi ((t : Int) + 9) > 3200) then some (o,(t : Int),true) else YK (Ep 9 0 t false o N 9)) = _
 rw [aK (by omega) (by omega),aC (by omega)]
 exact afj N hN 9 0 o t (by omega) hb (by omega)
theorem afk (xs : List (Int × Int)) (hx : Je xs) (hl : xs.length <= 290) : ∀ (k i : Nat) (o : List Int),i + k = xs.length -> BI o (9 * i) -> YI (Jd xs (ln xs) i ((9 * i : Nat) : Int) false o) = some (mD (xs.drop i) o (9 * i))
 | 0,i,o,h,hb => by
  have hln := gG xs
  refine eL ((YH dd YI ..).trans ?_)
  rw [aC (by omega),List.drop_eq_nil_of_le (by omega)]
  rfl
 | k + 1,i,o,h,hb => by
  have hi : i < xs.length := by omega
  have hln := gG xs
  obtain ⟨hN,h9⟩ := Dl hx hi
  refine eL ((YH dd YI ..).trans ?_)
  have e : gt xs (i : Int) (0,0) = ((gt xs (i : Int) (0,0)).1,9) := by rw [<- h9]
  rw [au (by omega),if_pos (by omega),if_pos (by omega),e,aiy _ hN o (9 * i) hb (by omega),Option.bind_some,bg (by omega),kE (z := (0,0)) hi]
  have := afk xs hx hl k (i + 1) (oC (gt xs (i : Int) (0,0)).1 9 0 o (9 * i)) (by omega) (by
   have := BI.oC (N := (gt xs (i : Int) (0,0)).1) 9 0 hb
   rw [show 9 * i + 9 = 9 * (i + 1) by omega] at this
   exact this)
  show YI (Jd xs (ln xs) ((i + 1 : Nat) : Int) ((9 * i + 9 : Nat) : Int) false (oC (gt xs (i : Int) (0,0)).1 9 0 o (9 * i))) = some (mD (xs.drop (i + 1)) (oC (gt xs (i : Int) (0,0)).1 9 0 o (9 * i)) (9 * i + 9))
  rw [show 9 * i + 9 = 9 * (i + 1) by omega]
  exact this
theorem aiz (xs : List (Int × Int)) (hx : Je xs) (hl : xs.length <= 290) : Vh dd xs = some (mD xs [] 0) := by
 refine dL rfl ((ah0 dd YI ..).trans ?_)
 exact afk xs hx hl xs.length 0 [] (by omega) BI.nil
end T
end
section
namespace T
open Go Go.E Go.Proofs
theorem aan (bs : ByteArray) : ∀ (k i : Nat) (r : List UInt8),i + k = bs.data.size -> ByteArray.toList.loop bs i r = r.reverse ++ bs.data.toList.drop i := by
 intro k
 induction k with
 | zero =>
  intro i r h
  unfold ByteArray.toList.loop
  have hs : bs.size = bs.data.size := rfl
  have hl : bs.data.toList.length = bs.data.size := Array.length_toList
  rw [if_neg (by omega),List.drop_eq_nil_of_le (by omega),List.append_nil]
 | succ k ih =>
  intro i r h
  unfold ByteArray.toList.loop
  have hs : bs.size = bs.data.size := rfl
  have hi : i < bs.data.size := by omega
  have hl : bs.data.toList.length = bs.data.size := Array.length_toList
  have hg : bs.get! i = bs.data.toList[i]'(by omega) := by
   show bs.data[i]! = _
   rw [getElem!_pos bs.data i hi,Array.getElem_toList]
  rw [if_pos (by omega),ih (i + 1) _ (by omega),List.drop_eq_getElem_cons (i := i) (by omega),hg,List.reverse_cons,List.append_assoc]
  rfl
theorem Vp (bs : ByteArray) : bs.toList = bs.data.toList := by
 unfold ByteArray.toList
 rw [aan bs bs.data.size 0 [] (by omega)]
 rfl
theorem Ui (l : List Int) : (jr l).toList = l.map fun n => UInt8.ofNat n.toNat := by
 rw [Vp]; rfl
theorem abG : ∀ {l m : List Int},gQ l -> gQ m -> ((jr l).toList == (jr m).toList) = decide (l = m) := by
 have inj : ∀ {l m : List Int},gQ l -> gQ m -> (l.map fun n => UInt8.ofNat n.toNat) = (m.map fun n => UInt8.ofNat n.toNat) -> l = m := by
  intro l
  induction l with
  | nil => intro m _ _ h; cases m with
   | nil => rfl
   | cons b m => cases h
  | cons a l ih =>
   intro m hl hm h
   cases m with
   | nil => cases h
   | cons b m =>
    rw [List.map_cons,List.map_cons,List.cons.injEq] at h
    obtain ⟨ha,hl⟩ := dI.1 hl
    obtain ⟨hb,hm⟩ := dI.1 hm
    have h1 := congrArg UInt8.toNat h.1
    rw [UInt8.toNat_ofNat',UInt8.toNat_ofNat'] at h1
    rw [ih hl hm h.2,show a = b by omega]
 intro l m hl hm
 rw [Ui,Ui]
 by_cases e : l = m
 ·subst e; simp
 ·have : ¬ (l.map fun n => UInt8.ofNat n.toNat) = (m.map fun n => UInt8.ofNat n.toNat) := fun h => e (inj hl hm h)
  rw [beq_eq_false_iff_ne.2 this,decide_eq_false e]
theorem same_eq {R : Type} {x : Option R} {l : List (Option R)} (h : ∀ y ∈ l,y = x) : sameAll x l = x := by
 cases l with
 | nil => rfl
 | cons a l =>
  have key : ∀ l : List (Option R),(∀ y ∈ l,y = x) -> pX x l := by
   intro l
   induction l with
   | nil => intro _; trivial
   | cons a l ih => intro h; exact ⟨h a List.mem_cons_self,ih fun y hy => h y (List.mem_cons_of_mem _ hy)⟩
  exact if_pos (key (a :: l) h)
def Jf (l : List (List Int)) : Prop := ∀ s ∈ l,gQ s
theorem afl (met : List (List Int)) (s : List Int) (hm : Jf met) (hs : gQ s) (hl : Sh met) : ∀ (k i : Nat),i + k = met.length -> (∀ j : Nat,∀ h : j < met.length,j < i -> met[j] ≠ s) -> aaj (I7 met s i) = some (if s ∈ met then (met.idxOf s : Int) else -1)
 | 0,i,h,hn => by
  have hln := gG met
  refine eL ((Yr dd aaj ..).trans ?_); show (_ : Option Int) = some _
  rw [aC (by omega)]
  have : s ∉ met := fun hx => by
   obtain ⟨j,hj,e⟩ := List.getElem_of_mem hx
   exact hn j hj (by omega) e
  rw [if_neg this]
 | k + 1,i,h,hn => by
  have hln := gG met
  have hi : i < met.length := by omega
  refine eL ((Yr dd aaj ..).trans ?_); show (_ : Option Int) = some _
  rw [au (by omega),same_eq (fun y hy => List.mem_singleton.1 hy),if_pos (by omega),if_pos (by omega)]
  simp only [Int.toNat_natCast,List.getElem?_eq_getElem hi]
  rw [abG (hm _ (List.getElem_mem hi)) hs]
  by_cases e : met[i] = s
  ·rw [au e]
   have hx : s ∈ met := by rw [<- e]; exact List.getElem_mem hi
   have : met.idxOf s = i := by
    have h1 : met.idxOf s < met.length := List.idxOf_lt_length_iff.2 hx
    have h2 : met[met.idxOf s] = s := List.getElem_idxOf h1
    rcases Nat.lt_trichotomy (met.idxOf s) i with q | q | q
    ·exact absurd h2 (hn _ h1 q)
    ·exact q
    ·have := List.not_of_lt_findIdx (p := (· == s)) (xs := met) (i := i) (by unfold List.idxOf at q; exact q)
     simp [e] at this
   rw [if_pos hx,this]
  ·rw [aC e,bg (by have := hl; omega)]
   refine afl met s hm hs hl k (i + 1) (by omega) fun j hj hji => ?_
   rcases Nat.lt_or_ge j i with q | q
   ·exact hn j hj q
   ·have : j = i := by omega
    subst this; exact e
theorem aiA (met : List (List Int)) (s : List Int) (hm : Jf met) (hs : gQ s) (hl : Sh met) : ae1 dd (met,s) = some (if s ∈ met then (met.idxOf s : Int) else -1) := by
 refine dL rfl ((ahy dd aaj ..).trans ?_)
 exact afl met s hm hs hl met.length 0 (by omega) fun j _ h => absurd h (Nat.not_lt_zero _)
theorem Uj {s : List Int} (hs : gQ s) (h1 : s.length = 1) : s ∈ Ey 256 := by
 match s,h1 with
 | [b],_ =>
  have := (dI.1 hs).1
  exact qE.2 ⟨b.toNat,by omega,by rw [Int.toNat_of_nonneg this.1]⟩
theorem afm (met : List (List Int)) (s : List Int) (hm : Jf met) (hs : gQ s) (hl : met.length <= 1000) (h1 : 1 <= s.length) : (s ∈ jC met -> Ph dd (met,s) = some (iE met s) ∧ 0 <= iE met s) ∧ (s ∉ jC met -> Ph dd (met,s) = some (-1)) := by
 have hln := gG s
 by_cases c : s.length = 1
 ·have hin : s ∈ jC met := List.mem_append.2 (.inl (Uj hs c))
  refine ⟨fun _ => ?_,fun h => absurd hin h⟩
  have hg := iI hs 0
  have hc : iE met s = s.getD 0 0 := by
   unfold iE
   match s,c with
   | [b],_ => rfl
  refine ⟨?_,by rw [hc]; exact hg.1⟩
  refine dL rfl ((acT dd acU ..).trans ?_); show (_ : Option Int) = some _
  rw [bJ (by omega),if_pos (by omega),oU hg,hc]
 ·have hno : s ∉ Ey 256 := fun h => by
   obtain ⟨b,_,e⟩ := qE.1 h
   rw [e] at c; exact c rfl
  have hiff : s ∈ jC met ↔ s ∈ met := by
   unfold jC
   rw [List.mem_append]
   exact ⟨fun h => h.resolve_left hno,.inr⟩
  have hD := aiA met s hm hs (by show met.length < _; omega)
  refine ⟨fun h => ?_,fun h => ?_⟩
  ·have h := hiff.1 h
   have hi : met.idxOf s < met.length := List.idxOf_lt_length_iff.2 h
   rw [if_pos h] at hD
   have hc : iE met s = 257 + (met.idxOf s : Int) := by
    unfold iE; rw [if_neg (by omega)]
   refine ⟨?_,by rw [hc]; omega⟩
   refine dL rfl ((acT dd acU ..).trans ?_); show (_ : Option Int) = some _
   rw [aN (by omega),hD,Option.bind_some,aC (by omega),aK (by omega) (by omega),hc]
  ·have h := fun x => h (hiff.2 x)
   rw [if_neg h] at hD
   refine dL rfl ((acT dd acU ..).trans ?_); show (_ : Option Int) = some _
   rw [aN (by omega),hD,Option.bind_some,au (by omega)]
end T
end
section
namespace T
open Go Go.E Go.Proofs
theorem wS {α : Type} {l : List α} {a n : Nat} : (l.take (a + n)).drop a = (l.drop a).take n := by
 rw [List.drop_take,Nat.add_sub_cancel_left]
theorem Vq {met : List (List Int)} {s : List Int} (h : Jf met) (hs : gQ s) : Jf (met ++ [s]) := fun x hx => by
 rcases List.mem_append.1 hx with q | q
 ·exact h x q
 ·rw [List.mem_singleton.1 q]; exact hs
def Dn (met : List (List Int)) (rest : List Int) (n : Nat) : List (List Int) := if n < rest.length ∧ met.length < 255 then met ++ [rest.take (n + 1)] else met
theorem Uk (l : List Int) (hb : gQ l) (hl : l.length <= 200) (met : List (List Int)) (hm : Jf met) (hm2 : met.length <= 255) (codes : List (Int × Int)) (hc : codes.length <= 300) (a n : Nat) (h1 : 1 <= n) (hn : a + n <= l.length) (out : List Int) (hd : (l.drop a).take n ∈ jC met)
  (hk : Ei (nP l ((a + n : Nat) : Int) (Dn met (l.drop a) n) (codes ++ [(iE met ((l.drop a).take n),9)])) = some out) :
  (if (0 : Int) <= a then if (a : Int) <= wi ((a : Int) + n) then if wi ((a : Int) + n) <= ln l then (Ph dd (met,List.drop ((a : Int)).toNat (List.take (wi ((a : Int) + n)).toNat l))).bind fun (iy : Int) => if (codes.length + 1) * 16 <= 140737488355328 then bif decide (wi ((a : Int) + n) < ln l) then bif decide (wi (257 + ln met) < 512) then if (0 : Int) <= a then if (a : Int) <= wi (wi ((a : Int) + n) + 1) then if wi (wi ((a : Int) + n) + 1) <= ln l then if (0 + (List.drop ((a : Int)).toNat (List.take (wi (wi ((a : Int) + n) + 1)).toNat l)).length) * 1 <= 140737488355328 then if (met.length + 1) * 24 <= 140737488355328 then Ei (nP l (wi ((a : Int) + n)) (met.append [List.drop ((a : Int)).toNat (List.take (wi (wi ((a : Int) + n) + 1)).toNat l)]) (codes.append [(iy,9)])) else none else none else none else none else none else Ei (nP l (wi ((a : Int) + n)) met (codes.append [(iy,9)])) else Ei (nP l (wi ((a : Int) + n)) met (codes.append [(iy,9)])) else none else none else none else none) = some out := by
 have hln := gG l
 have hlm := gG met
 have w1 : wi ((a : Int) + n) = ((a + n : Nat) : Int) := by rw [aK (by omega) (by omega)]; omega
 have w2 : wi (((a + n : Nat) : Int) + 1) = ((a + (n + 1) : Nat) : Int) := by rw [aK (by omega) (by omega)]; omega
 have w3 : wi (257 + ln met) = 257 + ln met := aK (by omega) (by omega)
 have hdl : (l.drop a).length = l.length - a := by simp
 obtain ⟨hD,_⟩ := (afm met ((l.drop a).take n) hm (kW (ig hb a) n) (by omega) (by simp; omega)).1 hd
 rw [w1,w2,w3,if_pos (by omega),if_pos (by omega),if_pos (by omega),Int.toNat_natCast,Int.toNat_natCast,Int.toNat_natCast,wS,wS,hD,Option.bind_some,if_pos (by omega)]
 unfold Dn at hk
 by_cases c1 : a + n < l.length
 ·rw [au (by omega)]
  by_cases c2 : met.length < 255
  ·rw [if_pos ⟨by omega,c2⟩] at hk
   rw [au (by omega),if_pos (by omega),if_pos (by omega),if_pos (by omega),if_pos (by simp; omega),if_pos (by omega)]
   exact hk
  ·rw [if_neg (fun h => c2 h.2)] at hk
   rw [aC (by omega)]
   exact hk
 ·rw [if_neg (fun h => by omega)] at hk
  rw [aC (by omega)]
  exact hk
theorem abH (l : List Int) (hb : gQ l) (hl : l.length <= 200) (met : List (List Int)) (hm : Jf met) (hm2 : met.length <= 255) (codes : List (Int × Int)) (hc : codes.length <= 300) (a : Nat) (out : List Int) : ∀ (k n : Nat),a + n + k = l.length -> 1 <= n -> (l.drop a).take n ∈ jC met ->
  Ei (nP l ((a + xI (jC met) (l.drop a) k n : Nat) : Int) (Dn met (l.drop a) (xI (jC met) (l.drop a) k n)) (codes ++ [(iE met ((l.drop a).take (xI (jC met) (l.drop a) k n)),9)])) = some out -> Ei (MV l a n met codes) = some out
 | 0,n,h,h1,hd,hk => by
  have hln := gG l
  refine eL ((Yo dd Ei ..).trans ?_)
  have w1 : wi ((a : Int) + n) = ((a + n : Nat) : Int) := by rw [aK (by omega) (by omega)]; omega
  rw [aC (by rw [w1]; omega)]
  exact Uk l hb hl met hm hm2 codes hc a n h1 (by omega) out hd hk
 | k + 1,n,h,h1,hd,hk => by
  have hln := gG l
  have w1 : wi ((a : Int) + n) = ((a + n : Nat) : Int) := by rw [aK (by omega) (by omega)]; omega
  have w2 : wi (((a + n : Nat) : Int) + 1) = ((a + (n + 1) : Nat) : Int) := by rw [aK (by omega) (by omega)]; omega
  have hDD := afm met ((l.drop a).take (n + 1)) hm (kW (ig hb a) _) (by omega) (by simp; omega)
  unfold xI at hk
  refine eL ((Yo dd Ei ..).trans ?_)
  rw [au (by rw [w1]; omega),if_pos (by omega),if_pos (by rw [w1,w2]; omega),if_pos (by rw [w1,w2]; omega)]
  have e1 : List.drop ((a : Int)).toNat (List.take (wi (wi ((a : Int) + n) + 1)).toNat l) = (l.drop a).take (n + 1) := by
   rw [w1,w2,Int.toNat_natCast,Int.toNat_natCast,wS]
  by_cases hin : (l.drop a).take (n + 1) ∈ jC met
  ·rw [if_pos hin] at hk
   obtain ⟨hD,h0⟩ := hDD.1 hin
   have hD' : Ph dd (met,List.drop ((a : Int)).toNat (List.take (wi (wi ((a : Int) + n) + 1)).toNat l)) = some (iE met ((l.drop a).take (n + 1))) := by rw [e1]; exact hD
   rw [hD',Option.bind_some,au h0,bg (by omega)]
   exact abH l hb hl met hm hm2 codes hc a out k (n + 1) (by omega) (by omega) hin hk
  ·rw [if_neg hin] at hk
   have hD := hDD.2 hin
   have hD' : Ph dd (met,List.drop ((a : Int)).toNat (List.take (wi (wi ((a : Int) + n) + 1)).toNat l)) = some (-1) := by rw [e1]; exact hD
   rw [hD',Option.bind_some,aC (by omega)]
   exact Uk l hb hl met hm hm2 codes hc a n h1 (by omega) out hd hk
theorem Jg {rest : List Int} (hb : gQ rest) (h : 0 < rest.length) {met : List (List Int)} : rest.take 1 ∈ jC met :=
 List.mem_append.2 (.inl (Uj (kW hb 1) (by simp; omega)))
theorem KN {rest : List Int} (hb : gQ rest) (h : 0 < rest.length) {met : List (List Int)} : xI (jC met) rest rest.length 0 = xI (jC met) rest (rest.length - 1) 1 := by
 obtain ⟨q,hq⟩ : ∃ q,rest.length = q + 1 := ⟨rest.length - 1,by omega⟩
 rw [hq]
 show (if rest.take (0 + 1) ∈ jC met then xI (jC met) rest q (0 + 1) else 0) = _
 rw [if_pos (Jg hb h)]; rfl
theorem Np {rest : List Int} (hb : gQ rest) (h : 0 < rest.length) {met : List (List Int)} : 1 <= xI (jC met) rest rest.length 0 ∧ xI (jC met) rest rest.length 0 <= rest.length ∧ rest.take (xI (jC met) rest rest.length 0) ∈ jC met := by
 rw [KN hb h]
 obtain ⟨a,b,c,_⟩ := Gm (nY := jC met) (rest := rest) (rest.length - 1) 1 (by omega) (.inr (Jg hb h))
 refine ⟨c,b,?_⟩
 rcases a with a | a
 ·have := congrArg List.length a
  rw [List.length_take,List.length_nil] at this
  omega
 ·exact a
theorem Ez {f : Nat} {met : List (List Int)} {rest : List Int} (h : rest ≠ []) : qL (f + 1) met rest = (iE met (rest.take (xI (jC met) rest rest.length 0)),9) :: qL f (Dn met rest (xI (jC met) rest rest.length 0)) (rest.drop (xI (jC met) rest rest.length 0)) := by
 show (if rest = [] then [] else _) = _
 rw [if_neg h]; rfl
theorem PX {met : List (List Int)} {rest : List Int} {n : Nat} (h : met.length <= 255) : (Dn met rest n).length <= 255 := by
 unfold Dn; split
 ·simp; omega
 ·exact h
theorem PY {met : List (List Int)} {rest : List Int} {n : Nat} (h : Jf met) (hr : gQ rest) : Jf (Dn met rest n) := by
 unfold Dn; split
 ·exact Vq h (kW hr _)
 ·exact h
theorem afn (l : List Int) (hb : gQ l) (hl : l.length <= 200) (out : List Int) : ∀ (f : Nat) (met : List (List Int)) (a : Nat) (codes : List (Int × Int)),l.length - a <= f -> a <= l.length -> Jf met -> met.length <= 255 -> codes.length + f <= 300 ->
  XI dd (codes ++ qL f met (l.drop a) ++ [(256,9)]) = some out -> Ei (nP l a met codes) = some out := by
 have hln := gG l
 intro f
 have fin : ∀ (met : List (List Int)) (codes : List (Int × Int)),codes.length <= 300 -> XI dd (codes ++ [(256,9)]) = some out -> Ei (nP l (l.length : Nat) met codes) = some out := by
  intro met codes hc hk
  refine eL ((Yn dd Ei ..).trans ?_)
  rw [aC (by omega),if_pos (by omega)]
  show (XI dd (codes ++ [(256,9)])).bind _ = _
  rw [hk]; rfl
 induction f with
 | zero =>
  intro met a codes hf ha _ _ hc hk
  have : a = l.length := by omega
  subst this
  exact fin met codes (by omega) (by unfold qL at hk; simpa using hk)
 | succ f ih =>
  intro met a codes hf ha hm hm2 hc hk
  by_cases e : a = l.length
  ·subst e
   refine fin met codes (by omega) ?_
   rw [List.drop_eq_nil_of_le (Nat.le_refl _)] at hk
   simpa [qL] using hk
  have hdl : (l.drop a).length = l.length - a := by simp
  have hne : l.drop a ≠ [] := fun x => by rw [x] at hdl; simp at hdl; omega
  have hrb := ig hb a
  rw [Ez hne] at hk
  obtain ⟨g1,g2,g3⟩ := Np hrb (by omega) (met := met)
  refine eL ((Yn dd Ei ..).trans ?_)
  rw [au (by omega)]
  refine abH l hb hl met hm hm2 codes (by omega) a out (l.length - a - 1) 1 (by omega) (Nat.le_refl _) (Jg hrb (by omega)) ?_
  have hlf := KN hrb (by omega) (met := met)
  rw [hdl] at hlf g1 g2 g3
  rw [hdl] at hk
  rw [<- hlf]
  generalize xI (jC met) (l.drop a) (l.length - a) 0 = n at *
  refine ih _ _ _ (by omega) (by omega) (PY hm hrb) (PX hm2) (by simp; omega) ?_
  rw [List.drop_drop] at hk
  simp only [List.append_assoc,List.cons_append,List.nil_append] at hk ⊢
  exact hk
theorem vV : ∀ (f : Nat) (met : List (List Int)) (rest : List Int),gQ rest -> Jf met -> met.length <= 255 -> Je (qL f met rest) ∧ (qL f met rest).length <= f
 | 0,_,_,_,_,_ => ⟨fun c h => absurd (show c ∈ ([] : List (Int × Int)) from h) (by simp),Nat.le_refl _⟩
 | f + 1,met,rest,hb,hm,hm2 => by
  by_cases e : rest = []
  ·subst e
   exact ⟨fun c h => absurd (show c ∈ ([] : List (Int × Int)) from h) (by simp),Nat.zero_le _⟩
  rw [Ez e]
  have hpos := List.length_pos_iff.2 e
  obtain ⟨g1,g2,g3⟩ := Np hb hpos (met := met)
  generalize xI (jC met) rest rest.length 0 = n at *
  obtain ⟨i1,i2⟩ := vV f (Dn met rest n) (rest.drop n) (ig hb n) (PY hm hb) (PX hm2)
  refine ⟨fun c hc => ?_,by simp; omega⟩
  rcases List.mem_cons.1 hc with q | q
  ·subst q
   refine ⟨?_,rfl⟩
   show 0 <= iE met (rest.take n) ∧ iE met (rest.take n) < 512
   unfold iE
   have hs := kW hb n
   have hlen : (rest.take n).length = n := by simp; omega
   split
   ·rename_i h1
    have hone : (rest.take n).length = 1 := by omega
    generalize rest.take n = s at *
    match s,hone with
    | [b],_ =>
     have := (dI.1 hs).1
     show 0 <= b ∧ b < 512
     omega
   ·rename_i h1
    have hin : rest.take n ∈ met := by
     rcases List.mem_append.1 g3 with q | q
     ·obtain ⟨b,_,e'⟩ := qE.1 q
      rw [e'] at h1; exact absurd (by simp) h1
     ·exact q
    have := List.idxOf_lt_length_iff.2 hin
    omega
  ·exact i1 c q
def Dp (l : List Int) : List Int := if l.length <= 200 then mD (qL l.length [] l ++ [(256,9)]) [] 0 else []
theorem Nq {l : List (Int × Int)} (h : Je l) : Je (l ++ [(256,9)]) := fun c hc => by
 rcases List.mem_append.1 hc with q | q
 ·exact h c q
 ·rw [List.mem_singleton.1 q]; exact ⟨⟨by decide,by decide⟩,rfl⟩
theorem aiB (l : List Int) (hb : gQ l) : acO dd l = some (Dp l) := by
 refine ais l _ hb (fun h => ?_) fun h => ?_
 ·obtain ⟨h1,h2⟩ := vV l.length [] l hb (fun _ h => by cases h) (by simp)
  unfold Dp
  rw [if_pos h]
  exact aiz _ (Nq h1) (by simp; omega)
 ·unfold Dp; rw [if_neg h]
theorem aiC (l : List Int) (hb : gQ l) : ae0 dd l = some (Dp l) := by
 have hln := gG l
 refine dL rfl ((ahw dd Ei ..).trans ?_); show (_ : Option (List Int)) = some _; unfold Dp
 by_cases h : l.length <= 200
 ·rw [aC (by omega),if_pos h]
  obtain ⟨h1,h2⟩ := vV l.length [] l hb (fun _ h => by cases h) (by simp)
  exact afn l hb h _ l.length [] 0 [] (by omega) (by omega) (fun _ h => by cases h) (by simp) (by simp; omega) (aix _ (Nq h1) (by simp; omega))
 ·rw [au (by omega),if_neg h]
theorem YQ {l : List Int} (hb : gQ l) : gQ (Dp l) ∧ (Dp l).length <= 230 := by
 unfold Dp
 split
 ·obtain ⟨h1,h2⟩ := vV l.length [] l hb (fun _ h => by cases h) (by simp)
  have := BI.nil.bits (l := qL l.length [] l ++ [(256,9)])
  refine ⟨this.byt,?_⟩
  rw [this.len]
  simp
  omega
 ·exact ⟨iQ,by simp⟩
end T
end
section
namespace T
open Go Go.E Go.Proofs
structure iq (r : jc) (W H : Nat) : Prop where
 w : r.1 = W
 h : r.2.1 = H
 w1 : 1 <= W
 w6 : W <= 6
 h1 : 1 <= H
 h6 : H <= 6
 len : r.2.2.length = H * W
 YR : r.2.2.all gu = true
theorem l9 {y H W : Nat} (hy : y < H) (hH : H <= 6) (hW : W <= 6) : y * W + W <= H * W ∧ H * W <= 36 := by
 have h1 : (y + 1) * W <= H * W := Nat.mul_le_mul_right W hy
 have h2 : H * W <= 6 * 6 := Nat.mul_le_mul hH hW
 rw [Nat.add_mul,Nat.one_mul] at h1
 omega
theorem jJ {H W : Nat} (hH : H <= 6) (hW : W <= 6) : H * W <= 36 := Nat.mul_le_mul hH hW
theorem nI {r : jc} : qF r = true ↔ ∃ W H,iq r W H := by
 obtain ⟨w,h,l⟩ := r
 unfold qF
 simp only [Bool.and_eq_true,jI,decide_eq_true_eq]
 constructor
 ·rintro ⟨hw,hh,hl,hp⟩
  refine ⟨w.toNat,h.toNat,⟨by show w = _; omega,by show h = _; omega,by omega,by omega,by omega,by omega,?_,hp⟩⟩
  have hl : (l.length : Int) = w * h := hl
  have : ((h.toNat * w.toNat : Nat) : Int) = w * h := by
   rw [Int.natCast_mul,Int.toNat_of_nonneg (by omega),Int.toNat_of_nonneg (by omega),Int.mul_comm]
  show l.length = _
  omega
 ·rintro ⟨W,H,q⟩
  have h1 : w = W := q.w
  have h2 : h = H := q.h
  have := q.w1; have := q.w6; have := q.h1; have := q.h6
  refine ⟨by omega,by omega,?_,q.YR⟩
  show (l.length : Int) = w * h
  have h3 : l.length = H * W := q.len
  rw [h1,h2,h3,Int.natCast_mul,Int.mul_comm]
def qM (p : eF) : List Int := [p.1,p.2.1,p.2.2.1,p.2.2.2]
def jw (l : List eF) : List Int := l.flatMap qM
def wU (r : jc) : List Int := r.1 :: r.2.1 :: jw r.2.2
theorem kF {p : eF} : gu p = true ↔ ((0 <= p.1 ∧ p.1 <= 255) ∧ (0 <= p.2.1 ∧ p.2.1 <= 255) ∧ (0 <= p.2.2.1 ∧ p.2.2.1 <= 255) ∧ (0 <= p.2.2.2 ∧ p.2.2.2 <= 255)) := by
 unfold gu
 simp only [Bool.and_eq_true,jI]
theorem nJ {α : Type} {l : List α} {f : α -> Bool} (h : l.all f = true) {i : Nat} {z : α} (hi : i < l.length) : f (gt l (i : Int) z) = true := by
 rw [iW hi]
 exact List.all_eq_true.1 h _ (List.getElem_mem hi)
theorem RX {p : eF} (h : gu p = true) : [wb p.1,wb p.2.1,wb p.2.2.1,wb p.2.2.2] = qM p := by
 obtain ⟨h1,h2,h3,h4⟩ := kF.1 h
 unfold qM
 rw [jT (by omega) (by omega),jT (by omega) (by omega),jT (by omega) (by omega),jT (by omega) (by omega)]
theorem og {p : eF} {l : List eF} : jw (p :: l) = qM p ++ jw l := by unfold jw; simp
theorem BA (l : List eF) : (jw l).length = 4 * l.length := by
 induction l with
 | nil => rfl
 | cons p l ih => rw [og,List.length_append,ih]; simp [qM]; omega
theorem RY {l : List eF} (h : l.all gu = true) : gQ (jw l) := by
 induction l with
 | nil => exact iQ
 | cons p l ih =>
  rw [List.all_cons,Bool.and_eq_true] at h
  obtain ⟨h1,h2,h3,h4⟩ := kF.1 h.1
  rw [og]
  exact nH.2 ⟨dI.2 ⟨by omega,dI.2 ⟨by omega,dI.2 ⟨by omega,dI.2 ⟨by omega,iQ⟩⟩⟩⟩,ih h.2⟩
theorem qG {r : jc} {W H : Nat} (h : iq r W H) : gQ (wU r) ∧ (wU r).length <= 146 := by
 have := h.w1; have := h.w6; have := h.h1; have := h.h6; have e1 := h.w; have e2 := h.h
 refine ⟨dI.2 ⟨by omega,dI.2 ⟨by omega,RY h.YR⟩⟩,?_⟩
 have := jJ h.h6 h.w6
 show (jw r.2.2).length + 1 + 1 <= 146
 rw [BA,h.len]
 omega
theorem afo (l : List eF) (hl : l.length <= 36) (hp : l.all gu = true) (w h : Int) : ∀ (k i : Nat) (o : List Int),i + k = l.length -> o.length <= 1000 + 4 * i -> aai (MR i w h l o) = some (o ++ jw (l.drop i))
 | 0,i,o,hi,ho => by
  have hln := gG l
  refine eL ((Yk dd aai ..).trans ?_)
  rw [aC (by omega),List.drop_eq_nil_of_le (by omega)]
  show some o = some (o ++ [])
  rw [List.append_nil]
 | k + 1,i,o,hi,ho => by
  have hln := gG l
  have hlt : i < l.length := by omega
  refine eL ((Yk dd aai ..).trans ?_)
  rw [au (by omega),if_pos (by omega),if_pos (by omega),if_pos (by omega),RX (nJ hp hlt),bg (by omega),kE (z := (0,0,0,0)) hlt,og, <- List.append_assoc]
  exact afo l hl hp w h k (i + 1) _ (by omega) (by show (o ++ qM _).length <= _; simp [qM]; omega)
theorem afp {r : jc} {W H : Nat} (h : iq r W H) : Z8 dd r = some (wU r) := by
 obtain ⟨w,hh,l⟩ := r
 have e1 : w = W := h.w; have e2 : hh = H := h.h
 have := h.w1; have := h.w6; have := h.h1; have := h.h6
 have := jJ h.h6 h.w6
 have hl := h.len
 refine dL rfl ((ahv dd aai ..).trans ?_)
 rw [jT (by omega) (by omega),jT (by omega) (by omega)]
 exact afo l (by show l.length <= 36; dsimp only at hl; omega) h.YR w hh l.length 0 [w,hh] (by omega) (by simp)
theorem ac2 (o : List Int) (p : eF) (ho : o.length <= 100000) (hp : gu p = true) : aad dd (o,p) = some (o ++ qM p) := by
 obtain ⟨a,b,c,e⟩ := p
 refine dL rfl ((ahJ dd ahK ..).trans ?_); show (_ : Option (List Int)) = some _
 rw [if_pos (by omega)]
 show some (o ++ [wb a,wb b,wb c,wb e]) = _
 rw [RX hp]
def rowP (l : List eF) (W y : Nat) : List eF := (l.drop (y * W)).take W
theorem rX {l : List eF} {W y : Nat} : (l.take ((y + 1) * W)).drop (y * W) = rowP l W y := by
 unfold rowP
 rw [Nat.add_mul,Nat.one_mul,wS]
theorem wV {y W : Nat} : ((y : Int)) * (W : Int) = ((y * W : Nat) : Int) := (Int.natCast_mul y W).symm
theorem RZ {l m : List eF} : jw (l ++ m) = jw l ++ jw m := by unfold jw; simp
theorem YS {l : List eF} {W y : Nat} : l.drop (y * W) = rowP l W y ++ l.drop ((y + 1) * W) := by
 unfold rowP
 rw [Nat.add_mul,Nat.one_mul, <- List.drop_drop,List.take_append_drop]
theorem YT {l : List eF} {f : eF -> Bool} (h : l.all f = true) (n : Nat) : (l.take n).all f = true :=
 List.all_eq_true.2 fun x hx => List.all_eq_true.1 h x (List.mem_of_mem_take hx)
theorem YU {l : List eF} {f : eF -> Bool} (h : l.all f = true) (n : Nat) : (l.drop n).all f = true :=
 List.all_eq_true.2 fun x hx => List.all_eq_true.1 h x (List.mem_of_mem_drop hx)
theorem abI {qB x27 : Int} (row : List eF) (hr : row.length <= 36) (hp : row.all gu = true) (w h : Int) (l : List eF) (out : List Int) : ∀ (k j : Nat) (o : List Int),j + k = row.length -> o.length <= 10000 + 4 * j ->
  MZ (En qB (wi (x27 + 1)) w h l (o ++ jw (row.drop j))) = some out -> MZ (MX qB x27 row (ln row) j w h l o) = some out
 | 0,j,o,hj,ho,hk => by
  have hln := gG row
  refine eL ((Yw dd MZ ..).trans ?_)
  rw [List.drop_eq_nil_of_le (by omega)] at hk
  rw [aC (by omega)]
  have : o ++ jw [] = o := List.append_nil o
  rw [this] at hk
  exact hk
 | k + 1,j,o,hj,ho,hk => by
  have hln := gG row
  have hlt : j < row.length := by omega
  refine eL ((Yw dd MZ ..).trans ?_)
  rw [au (by omega),if_pos (by omega),if_pos (by omega),ac2 o _ (by omega) (nJ hp hlt),Option.bind_some,bg (by omega)]
  rw [kE (z := (0,0,0,0)) hlt,og, <- List.append_assoc] at hk
  exact abI row hr hp w h l out k (j + 1) _ (by omega) (by simp [qM]; omega) hk
theorem abJ {l : List eF} {W H : Nat} (hn : iq ((W : Int),(H : Int),l) W H) : ∀ (k y : Nat) (o : List Int),y + k = H -> o.length <= 1000 + 200 * y -> MZ (En H y W H l o) = some (o ++ jw (l.drop (y * W)))
 | 0,y,o,hy,ho => by
  refine eL ((Yv dd MZ ..).trans ?_)
  have : y = H := by omega
  subst this
  have hl : l.length = y * W := hn.len
  rw [aC (by omega),List.drop_eq_nil_of_le (by omega)]
  show some o = some (o ++ [])
  rw [List.append_nil]
 | k + 1,y,o,hy,ho => by
  have hm := l9 (show y < H by omega) hn.h6 hn.w6
  have hl : l.length = H * W := hn.len
  have hln := gG l
  have e1 : wi ((y : Int) * W) = ((y * W : Nat) : Int) := by rw [wV]; exact aK (by omega) (by omega)
  have e2 : wi (wi ((y : Int) + 1) * W) = (((y + 1) * W : Nat) : Int) := by
   have := hn.h6
   rw [bg (by omega),wV]
   rw [Nat.add_mul,Nat.one_mul]
   exact aK (by omega) (by omega)
  have e3 : (y + 1) * W = y * W + W := by rw [Nat.add_mul,Nat.one_mul]
  refine eL ((Yv dd MZ ..).trans ?_)
  rw [au (by omega),e1,e2,if_pos (by omega),if_pos (by omega),if_pos (by omega),Int.toNat_natCast,Int.toNat_natCast,rX]
  have hrl : (rowP l W y).length = W := by unfold rowP; simp; omega
  have hw6 := hn.w6
  refine abI (rowP l W y) (by omega) (YT (YU hn.YR _) _) W H l _ W 0 o (by omega) (by have := hn.h6; omega) ?_
  have hh6 := hn.h6
  rw [bg (by omega),List.drop_zero,YS (l := l) (y := y),RZ, <- List.append_assoc]
  exact abJ hn k (y + 1) _ (by omega) (by rw [List.length_append,BA,hrl]; omega)
theorem ac3 {r : jc} {W H : Nat} (hn : iq r W H) : aac dd r = some (wU r) := by
 have ho := D39 r (by have := jJ hn.h6 hn.w6; have := hn.len; show r.2.2.length < _; omega)
 rw [nI.2 ⟨W,H,hn⟩] at ho
 obtain ⟨w,h,l⟩ := r
 have e1 : w = W := hn.w; have e2 : h = H := hn.h
 subst e1 e2
 have := hn.w1; have := hn.w6; have := hn.h1; have := hn.h6
 have := jJ hn.h6 hn.w6
 have hl : l.length = H * W := hn.len
 have hln := gG l
 refine dL rfl ((ahG dd MZ ..).trans ?_); show (_ : Option (List Int)) = some _
 rw [ho,Option.bind_some]
 show (if 0 <= wi (2 + wi (4 * ln l)) then if wi (2 + wi (4 * ln l)) * ((1 : Nat) : Int) <= 140737488355328 then MZ (En H 0 W H l [wb W,wb H]) else none else none) = _
 rw [aK (x := 4 * ln l) (by omega) (by omega),aK (x := 2 + 4 * ln l) (by omega) (by omega),if_pos (by omega),if_pos (by omega),jT (by omega) (by omega),jT (by omega) (by omega)]
 have := abJ hn H 0 [(W : Int),(H : Int)] (by omega) (by simp)
 rw [Nat.zero_mul,List.drop_zero] at this
 exact this
end T
end
section
namespace T
open Go Go.E Go.Proofs
abbrev z4 : eF := (0,0,0,0)
def fD (N : Nat) (g : Nat -> eF) : List eF := (List.range N).map g
def mF (N n : Nat) (g : Nat -> eF) : List eF := fD n g ++ List.replicate (N - n) z4
theorem jQ {N : Nat} {g : Nat -> eF} : (fD N g).length = N := by unfold fD; simp
theorem zQ {N n : Nat} {g : Nat -> eF} (h : n <= N) : (mF N n g).length = N := by unfold mF; simp [jQ]; omega
theorem zS {n : Nat} {g : Nat -> eF} : fD (n + 1) g = fD n g ++ [g n] := by unfold fD; rw [List.range_succ,List.map_append]; rfl
theorem Jh {N n : Nat} {g : Nat -> eF} (h : n < N) : (mF N n g).set n (g n) = mF N (n + 1) g := by
 unfold mF
 rw [List.set_append_right _ _ (by rw [jQ]; omega),jQ,Nat.sub_self,zS]
 obtain ⟨m,hm⟩ : ∃ m,N - n = m + 1 := ⟨N - n - 1,by omega⟩
 rw [hm,show N - (n + 1) = m by omega,List.replicate_succ,List.append_assoc]
 rfl
theorem Si {N : Nat} {g : Nat -> eF} : mF N 0 g = List.replicate N z4 := by unfold mF fD; simp
theorem Sj {N : Nat} {g : Nat -> eF} : mF N N g = fD N g := by unfold mF; simp
theorem Nr {W x y : Nat} (hx : x < W) : (y * W + x) / W = y ∧ (y * W + x) % W = x := by
 have hW : 0 < W := by omega
 constructor
 ·rw [Nat.mul_comm,Nat.mul_add_div hW,Nat.div_eq_of_lt hx,Nat.add_zero]
 ·rw [Nat.mul_comm,Nat.mul_add_mod,Nat.mod_eq_of_lt hx]
theorem bG {y W : Nat} : (y + 1) * W = y * W + W := by rw [Nat.add_mul,Nat.one_mul]
theorem jR {y W H : Nat} (hy : y < H) (hH : H <= 6) (hW : W <= 6) : wi ((y : Int) * W) = ((y * W : Nat) : Int) ∧ wi (wi ((y : Int) + 1) * W) = (((y + 1) * W : Nat) : Int) := by
 have hm := l9 hy hH hW
 refine ⟨by rw [wV]; exact aK (by omega) (by omega),?_⟩
 rw [bg (by omega),wV,bG]
 exact aK (by omega) (by omega)
theorem PZ {l : List eF} {W H x y : Nat} (hl : l.length = H * W) (hH : H <= 6) (hW : W <= 6) (hx : x < W) (hy : y < H) (q : Int) : NH dd (((W : Int),q,l),(x : Int),(y : Int)) = some (gt l ((y * W + x : Nat) : Int) z4) := by
 obtain ⟨w1,w2⟩ := jR hy hH hW
 have hm := l9 hy hH hW
 have hln := gG l
 have e3 := bG (y := y) (W := W)
 refine dL rfl ((b43 dd l43 ..).trans ?_)
 rw [w1,w2,if_pos (by omega),if_pos (by omega),if_pos (by omega),Int.toNat_natCast,Int.toNat_natCast,rX]
 have hrl : (rowP l W y).length = W := by unfold rowP; simp; omega
 have hrn := gG (rowP l W y)
 rw [if_pos (by omega),if_pos (by omega),iW (by omega),iW (by omega)]
 congr 1
 unfold rowP
 simp
def jU (W H : Nat) (l : List eF) (i : Nat) : eF := gt l (((H - 1 - i / W) * W + i % W : Nat) : Int) z4
theorem abK {l : List eF} {W H : Nat} (hl : l.length = H * W) (hH : H <= 6) (hW : W <= 6) (y : Nat) (hy : y < H) (a b c e : Int) (out : jc) : ∀ (k x : Nat),x + k = W ->
  PN (I9 W H H ((y + 1 : Nat) : Int) W H l a b (mF (H * W) ((y + 1) * W) (jU W H l)) c e) = some out ->
  PN (Na W H y ((y * W : Nat) : Int) (((y + 1) * W : Nat) : Int) H y W x W H l a b (mF (H * W) (y * W + x) (jU W H l)) c e) = some out
 | 0,x,h,hk => by
  refine eL ((Yy dd PN ..).trans ?_)
  have : x = W := by omega
  subst this
  rw [aC (by omega),bg (by omega), <- bG]
  exact hk
 | k + 1,x,h,hk => by
  have hm := l9 hy hH hW
  have e3 := bG (y := y) (W := W)
  have w1 : wi (wi ((H : Int) - 1) - y) = ((H - 1 - y : Nat) : Int) := by
   rw [aK (x := (H : Int) - 1) (by omega) (by omega),aK (by omega) (by omega)]; omega
  refine eL ((Yy dd PN ..).trans ?_)
  rw [au (by omega),w1,PZ hl hH hW (show x < W by omega) (show H - 1 - y < H by omega),Option.bind_some,if_pos (by omega),if_pos (by omega),bg (by omega)]
  have ei : (((y * W : Nat) : Int) + (x : Int)).toNat = y * W + x := by omega
  have eg : gt l (((H - 1 - y) * W + x : Nat) : Int) z4 = jU W H l (y * W + x) := by
   unfold jU
   obtain ⟨d1,d2⟩ := Nr (y := y) (show x < W by omega)
   rw [d1,d2]
  rw [ei,eg,Jh (by omega)]
  exact abK hl hH hW y hy a b c e out k (x + 1) (by omega) hk
theorem abL {l : List eF} {W H : Nat} (hl : l.length = H * W) (hH : H <= 6) (hW : W <= 6) (a b c e : Int) : ∀ (k y : Nat),y + k = H ->
  PN (I9 W H H y W H l a b (mF (H * W) (y * W) (jU W H l)) c e) = some ((W : Int),(H : Int),fD (H * W) (jU W H l))
 | 0,y,h => by
  refine eL ((Yx dd PN ..).trans ?_); show (_ : Option Rs) = some _
  have : y = H := by omega
  subst this
  rw [aC (by omega),Sj]
 | k + 1,y,h => by
  have hy : y < H := by omega
  obtain ⟨w1,w2⟩ := jR hy hH hW
  have hm := l9 hy hH hW
  have e3 := bG (y := y) (W := W)
  have hfl := zQ (N := H * W) (n := y * W) (g := jU W H l) (by omega)
  have hln := gG (mF (H * W) (y * W) (jU W H l))
  refine eL ((Yx dd PN ..).trans ?_); show (_ : Option Rs) = some _
  rw [au (by omega),w1,w2,if_pos (by omega),if_pos (by omega),if_pos (by omega),Int.toNat_natCast,Int.toNat_natCast,rX]
  have hrl : ln (rowP (mF (H * W) (y * W) (jU W H l)) W y) = W := by
   rw [gG]; unfold rowP; simp; omega
  rw [hrl]
  exact abK hl hH hW y hy a b c e _ W 0 (by omega) (abL hl hH hW a b c e k (y + 1) (by omega))
theorem afq {r : jc} {W H : Nat} (hn : iq r W H) : acL dd r = some ((W : Int),(H : Int),fD (H * W) (jU W H r.2.2)) := by
 obtain ⟨w,h,l⟩ := r
 have e1 : w = W := hn.w; have e2 : h = H := hn.h
 subst e1 e2
 have := hn.w1; have h6 := hn.w6; have := hn.h1; have k6 := hn.h6
 have hm := jJ k6 h6
 have hw : wi ((W : Int) * H) = ((H * W : Nat) : Int) := by rw [wV,Nat.mul_comm]; exact aK (by omega) (by omega)
 refine dL rfl ((ahP dd PN ..).trans ?_)
 rw [hw,if_pos (by omega),if_pos (by omega),if_pos (by omega),Int.toNat_natCast]
 have := abL hn.len k6 h6 0 0 0 0 H 0 (by omega)
 rw [Nat.zero_mul,Si] at this
 exact this
theorem aao {l : List eF} {W y : Nat} (h : y * W + W <= l.length) : rowP l W y = (List.range W).map fun x => gt l ((y * W + x : Nat) : Int) z4 := by
 apply List.ext_getElem
 ·unfold rowP; simp; omega
 ·intro i h1 h2
  have hi : i < W := by simpa using h2
  rw [List.getElem_map,List.getElem_range,iW (by omega)]
  simp only [rowP,List.getElem_take,List.getElem_drop]
theorem aap {W j : Nat} {g : Nat -> eF} : fD ((j + 1) * W) g = fD (j * W) g ++ (List.range W).map fun x => g (j * W + x) := by
 unfold fD
 rw [bG,List.range_add,List.map_append,List.map_map]; rfl
theorem YV {l : List eF} {W H j : Nat} (hl : l.length = H * W) (hj : j < H) (hH : H <= 6) (hW : W <= 6) : fD (j * W) (jU W H l) ++ rowP l W (H - 1 - j) = fD ((j + 1) * W) (jU W H l) := by
 rw [aap,aao (by have := l9 (show H - 1 - j < H by omega) hH hW; omega)]
 congr 1
 apply List.map_congr_left
 intro x hx
 have hx : x < W := by simpa using hx
 obtain ⟨d1,d2⟩ := Nr (y := j) hx
 unfold jU
 rw [d1,d2]
theorem L78 {l : List eF} {W H : Nat} (hl : l.length = H * W) (hH : H <= 6) (hW : W <= 6) (a b : Int) : ∀ (k j : Nat),j + k = H ->
  l78 (TU ((k : Int) - 1) W H l a b W H (fD (j * W) (jU W H l))) = some ((W : Int),(H : Int),fD (H * W) (jU W H l))
 | 0,j,h => by
  refine eL ((abj dd l78 ..).trans ?_); show (_ : Option Rs) = some _
  have : j = H := by omega
  subst this
  rw [aC (by omega)]
 | k + 1,j,h => by
  have hk : k < H := by omega
  obtain ⟨w1,w2⟩ := jR hk hH hW
  have hm := l9 hk hH hW
  have e3 := bG (y := k) (W := W)
  have hln := gG l
  refine eL ((abj dd l78 ..).trans ?_); show (_ : Option Rs) = some _
  rw [show ((k + 1 : Nat) : Int) - 1 = (k : Int) by omega,au (by omega),w1,w2,if_pos (by omega),if_pos (by omega),if_pos (by omega),Int.toNat_natCast,Int.toNat_natCast,rX]
  have hjm := l9 (show j < H by omega) hH hW
  have hrl : (rowP l W k).length = W := by unfold rowP; simp; omega
  rw [if_pos (by rw [jQ,hrl]; omega),aK (by omega) (by omega)]
  have : (fD (j * W) (jU W H l)).append (rowP l W k) = fD ((j + 1) * W) (jU W H l) := by
   have := YV hl (show j < H by omega) hH hW
   rw [show H - 1 - j = k by omega] at this
   exact this
  rw [this]
  exact L78 hl hH hW a b k (j + 1) (by omega)
theorem D78 {r : jc} {W H : Nat} (hn : iq r W H) : r78 dd r = some ((W : Int),(H : Int),fD (H * W) (jU W H r.2.2)) := by
 obtain ⟨w,h,l⟩ := r
 have e1 : w = W := hn.w; have e2 : h = H := hn.h
 subst e1 e2
 have h6 := hn.w6; have k6 := hn.h6
 refine dL rfl ((b78 dd l78 ..).trans ?_)
 rw [aK (by omega) (by omega)]
 have := L78 hn.len k6 h6 0 0 H 0 (by omega)
 rw [Nat.zero_mul] at this
 exact this
theorem Sl {r : jc} {W H : Nat} (hn : iq r W H) : iq ((W : Int),(H : Int),fD (H * W) (jU W H r.2.2)) W H := by
 refine ⟨rfl,rfl,hn.w1,hn.w6,hn.h1,hn.h6,jQ,?_⟩
 refine List.all_eq_true.2 fun x hx => ?_
 unfold fD at hx
 obtain ⟨i,hi,rfl⟩ := List.mem_map.1 hx
 have hi : i < H * W := by simpa using hi
 have hw := hn.w1
 have h1 : i / W < H := Nat.div_lt_of_lt_mul (by rw [Nat.mul_comm]; exact hi)
 have h2 : i % W < W := Nat.mod_lt _ (by omega)
 unfold jU
 generalize i / W = q at *
 generalize i % W = t at *
 have hm := l9 (show H - 1 - q < H by omega) hn.h6 hn.w6
 exact nJ hn.YR (by rw [hn.len]; omega)
end T
end
