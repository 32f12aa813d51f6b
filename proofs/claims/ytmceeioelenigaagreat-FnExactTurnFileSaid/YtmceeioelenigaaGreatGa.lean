/- Plain laws: numbers, what is drawn, bits, blocks. -/
import Derived.Test.YtmceeioelenigaaGreatFb
import Derived.Test.YtmceeioelenigaaGreatFc
import Derived.Test.YtmceeioelenigaaGreatFd
import Derived.Test.YtmceeioelenigaaGreatFe
section
namespace T
open Go Go.E Go.Proofs
abbrev Pix := Int × Int × Int × Int
abbrev Ras := Int × Int × List Pix
abbrev Op := Int × Int × Int × Int × Int
theorem cond_dec {α : Type} {p : Prop} [Decidable p] {a b : α} : (bif decide p then a else b) = if p then a else b := by
 by_cases h : p <;> simp [h]
theorem cond_yes {α : Type} {p : Prop} [Decidable p] {a b : α} (h : p) : (bif decide p then a else b) = a := by simp [h]
theorem cond_no {α : Type} {p : Prop} [Decidable p] {a b : α} (h : ¬ p) : (bif decide p then a else b) = b := by simp [h]
def inR (a lo hi : Int) : Bool := decide (lo <= a ∧ a <= hi)
theorem inR_iff {a lo hi : Int} : inR a lo hi = true ↔ lo <= a ∧ a <= hi := by unfold inR; simp
theorem D36 (a b c : Int) : r36 dd (a,b,c) = some (inR a b c) := by
 refine dL rfl ((b36 dd l36 ..).trans ?_); show (_ : Option Bool) = some _; unfold inR
 by_cases h : b <= a <;> simp [h]
theorem D89 (a b c : Int) : r89 dd (a,b,c) = some (inR a b c) := by
 refine dL rfl ((b89 dd l89 ..).trans ?_); show (_ : Option Bool) = some _; unfold inR
 by_cases h : b <= a <;> simp [h]
theorem D61 (a : Int) : r61 dd a = some (inR a 0 255) := by
 refine dL rfl ((b61 dd l61 ..).trans ?_); show (_ : Option Bool) = some _; unfold inR
 by_cases h : 0 <= a <;> simp [h]
theorem D62 (a : Int) : r62 dd a = some (inR a 1 6) := by
 refine dL rfl ((b62 dd l62 ..).trans ?_); show (_ : Option Bool) = some _; unfold inR
 by_cases h : 1 <= a <;> simp [h]
def pixOk (p : Pix) : Bool := inR p.1 0 255 && (inR p.2.1 0 255 && (inR p.2.2.1 0 255 && inR p.2.2.2 0 255))
theorem D35 (p : Pix) : r35 dd p = some (pixOk p) := by
 obtain ⟨a,b,c,e⟩ := p
 refine dL rfl ((b35 dd l35 ..).trans ?_); unfold pixOk
 simp only [D61,Option.bind_some]
 cases inR a 0 255 <;> cases inR b 0 255 <;> cases inR c 0 255 <;> rfl
theorem D82 (p : Pix) : r82 dd p = some (pixOk p) := by
 obtain ⟨a,b,c,e⟩ := p
 refine dL rfl ((b82 dd l82 ..).trans ?_); unfold pixOk
 simp only [D36,Option.bind_some]
 cases inR a 0 255 <;> cases inR b 0 255 <;> cases inR c 0 255 <;> rfl
def rasOk (r : Ras) : Bool := inR r.1 1 6 && (inR r.2.1 1 6 && (decide (ln r.2.2 = r.1 * r.2.1) && r.2.2.all pixOk))
theorem gt_get {α : Type} {l : List α} {i : Nat} {z : α} (h : i < l.length) : gt l (i : Int) z = l[i] := by
 show l.getD ((i : Int).toNat) z = _
 rw [Int.toNat_natCast,List.getD_eq_getElem?_getD,List.getElem?_eq_getElem h]; rfl
theorem drop_get {α : Type} {l : List α} {i : Nat} {z : α} (h : i < l.length) : l.drop i = gt l (i : Int) z :: l.drop (i + 1) := by
 rw [gt_get h,List.drop_eq_getElem_cons h]
theorem wi_nat {i : Nat} (h : i < 1000000000000000000) : wi ((i : Int) + 1) = ((i + 1 : Nat) : Int) := by
 rw [wi_id (by omega) (by omega)]; omega
section loops
abbrev Sh {α : Type} (l : List α) : Prop := l.length < 1000000000000000000
theorem L39 (l : List Pix) (hl : Sh l) : ∀ (k i : Nat),i + k = l.length -> l39 (q39_0 l (ln l) i) = some ((l.drop i).all pixOk)
 | 0,i,h => by
  refine eL ((c39_0 dd l39 ..).trans ?_); show (_ : Option Bool) = some _
  rw [cond_no (by show ¬ (i : Int) < (l.length : Int); omega),List.drop_eq_nil_of_le (by omega)]; rfl
 | k + 1,i,h => by
  have hi : i < l.length := by omega
  refine eL ((c39_0 dd l39 ..).trans ?_); show (_ : Option Bool) = some _
  rw [cond_yes (by show (i : Int) < (l.length : Int); omega),if_pos (by omega),if_pos (by show (i : Int) < (l.length : Int); omega),D35,Option.bind_some,drop_get (z := (0,0,0,0)) hi,wi_nat (by have := hl; omega),L39 l hl k (i + 1) (by omega)]
  cases hp : pixOk (gt l (i : Int) (0,0,0,0)) <;> simp [hp]
theorem L48 (l : List Pix) (hl : Sh l) (w h : Int) : ∀ (k i : Nat),i + k = l.length -> l48 (q48_0 i w h l) = some ((l.drop i).all pixOk)
 | 0,i,h => by
  refine eL ((c48_0 dd l48 ..).trans ?_); show (_ : Option Bool) = some _
  rw [cond_no (by show ¬ (i : Int) < (l.length : Int); omega),List.drop_eq_nil_of_le (by omega)]; rfl
 | k + 1,i,h' => by
  have hi : i < l.length := by omega
  refine eL ((c48_0 dd l48 ..).trans ?_); show (_ : Option Bool) = some _
  rw [cond_yes (by show (i : Int) < (l.length : Int); omega),if_pos (by omega),if_pos (by show (i : Int) < (l.length : Int); omega),D82,Option.bind_some,drop_get (z := (0,0,0,0)) hi,wi_nat (by have := hl; omega),L48 l hl w h k (i + 1) (by omega)]
  cases hp : pixOk (gt l (i : Int) (0,0,0,0)) <;> simp [hp]
theorem D39 (r : Ras) (hl : Sh r.2.2) : r39 dd r = some (rasOk r) := by
 obtain ⟨w,h,l⟩ := r
 refine dL rfl ((b39 dd l39 ..).trans ?_); show (_ : Option Bool) = some _; unfold rasOk
 simp only [D62,Option.bind_some]
 cases hw : inR w 1 6 with
 | false => rfl
 | true =>
  cases hh : inR h 1 6 with
  | false => rfl
  | true =>
   rw [inR_iff] at hw hh
   have hb : 0 <= w * h ∧ w * h <= 36 := by
    obtain ⟨a,b⟩ := hw; obtain ⟨c,d⟩ := hh
    refine ⟨Int.mul_nonneg (by omega) (by omega),?_⟩
    have := Int.mul_le_mul b d (by omega) (by omega)
    omega
   rw [wi_id (by omega) (by omega)]
   have := L39 l hl l.length 0 (by omega)
   by_cases e : ln l = w * h
   ·simp only [Bool.not_true,cond_false,e,bne_self_eq_false]
    rw [<- e]
    exact this.trans (by simp)
   ·have e' : (ln l != w * h) = true := bne_iff_ne.2 e
    simp only [Bool.not_true,cond_false,e',cond_true,e,decide_false,Bool.false_and,Bool.and_false]
theorem D48 (r : Ras) (hl : Sh r.2.2) : r48 dd r = some (rasOk r) := by
 obtain ⟨w,h,l⟩ := r
 refine dL rfl ((b48 dd l48 ..).trans ?_); show (_ : Option Bool) = some _; unfold rasOk
 simp only [D36,Option.bind_some]
 cases hw : inR w 1 6 with
 | false => rfl
 | true =>
  cases hh : inR h 1 6 with
  | false => rfl
  | true =>
   rw [inR_iff] at hw hh
   have hb : 0 <= w * h ∧ w * h <= 36 := by
    obtain ⟨a,b⟩ := hw; obtain ⟨c,d⟩ := hh
    refine ⟨Int.mul_nonneg (by omega) (by omega),?_⟩
    have := Int.mul_le_mul b d (by omega) (by omega)
    omega
   rw [wi_id (by omega) (by omega)]
   have := L48 l hl w h l.length 0 (by omega)
   by_cases e : ln l = w * h
   ·simp only [Bool.not_true,cond_false,e,bne_self_eq_false]
    exact this.trans (by simp)
   ·have e' : (ln l != w * h) = true := bne_iff_ne.2 e
    simp only [Bool.not_true,cond_false,e',cond_true,e,decide_false,Bool.false_and,Bool.and_false]
def opOk : Op -> Bool := fun (k,a,b,c,e) =>
 if k = 1 then inR a 0 5 && (inR b 0 5 && (inR c 1 6 && inR e 1 6))
 else if k = 7 then inR a 1 6 && (inR b 1 6 && (c == 0 && e == 0))
 else if k = 8 then inR a 0 255 && (inR b 0 255 && (inR c 0 255 && e == 0))
 else inR k 2 6 && (a == 0 && (b == 0 && (c == 0 && e == 0)))
theorem D19 (o : Op) : r19 dd o = some (opOk o) := by
 obtain ⟨k,a,b,c,e⟩ := o
 refine dL rfl ((b19 dd l19 ..).trans ?_); unfold opOk
 simp only [D36,Option.bind_some]
 by_cases h1 : k = 1
 ·simp only [h1,beq_self_eq_true,cond_true,if_true]
  cases inR a 0 5 <;> cases inR b 0 5 <;> cases inR c 1 6 <;> rfl
 ·by_cases h7 : k = 7
  ·simp only [h7,beq_self_eq_true,cond_true,if_true,show ((7 : Int) == 1) = false by decide,cond_false,show ¬ (7 : Int) = 1 by decide,if_false]
   cases inR a 1 6 <;> cases inR b 1 6 <;> cases c == 0 <;> rfl
  ·by_cases h8 : k = 8
   ·simp only [h8,beq_self_eq_true,cond_true,if_true,show ((8 : Int) == 1) = false by decide,show ((8 : Int) == 7) = false by decide,cond_false,show ¬ (8 : Int) = 1 by decide,show ¬ (8 : Int) = 7 by decide,if_false]
    cases inR a 0 255 <;> cases inR b 0 255 <;> cases inR c 0 255 <;> rfl
   ·simp only [show (k == 1) = false by simpa using h1,show (k == 7) = false by simpa using h7,show (k == 8) = false by simpa using h8,cond_false,h1,h7,h8,if_false]
    cases inR k 2 6 <;> cases a == 0 <;> cases b == 0 <;> cases c == 0 <;> rfl
theorem D52 (o : Op) : r52 dd o = some (opOk o) := by
 obtain ⟨k,a,b,c,e⟩ := o
 refine dL rfl ((b52 dd l52 ..).trans ?_); unfold opOk
 simp only [D89,D61,D62,Option.bind_some,beq_self_eq_true,Bool.true_and,Bool.and_true]
 by_cases h1 : k = 1
 ·simp only [h1,beq_self_eq_true,cond_true,if_true]
  cases inR a 0 5 <;> cases inR b 0 5 <;> cases inR c 1 6 <;> rfl
 ·simp only [show (k == 1) = false by simpa using h1,cond_false,h1,if_false]
  by_cases h2 : k = 2
  ·subst h2; rfl
  by_cases h3 : k = 3
  ·subst h3; rfl
  by_cases h4 : k = 4
  ·subst h4; rfl
  by_cases h5 : k = 5
  ·subst h5; rfl
  by_cases h6 : k = 6
  ·subst h6; rfl
  simp only [show (k == 2) = false by simpa using h2,show (k == 3) = false by simpa using h3,show (k == 4) = false by simpa using h4,show (k == 5) = false by simpa using h5,show (k == 6) = false by simpa using h6,cond_false]
  by_cases h7 : k = 7
  ·subst h7
   simp only [beq_self_eq_true,cond_true,if_true]
   cases inR a 1 6 <;> cases inR b 1 6 <;> cases c == 0 <;> rfl
  ·simp only [show (k == 7) = false by simpa using h7,cond_false,h7,if_false]
   by_cases h8 : k = 8
   ·subst h8
    simp only [beq_self_eq_true,cond_true,if_true]
    cases inR a 0 255 <;> cases inR b 0 255 <;> cases inR c 0 255 <;> rfl
   ·simp only [show (k == 8) = false by simpa using h8,cond_false,h8,if_false]
    have : inR k 2 6 = false := by
     cases hk : inR k 2 6 with
     | false => rfl
     | true => rw [inR_iff] at hk; omega
    rw [this]; rfl
theorem L30 (l : List Op) (hl : Sh l) : ∀ (k i : Nat),i + k = l.length -> l30 (q30_0 l (ln l) i) = some ((l.drop i).all opOk)
 | 0,i,h => by
  refine eL ((c30_0 dd l30 ..).trans ?_); show (_ : Option Bool) = some _
  rw [cond_no (by show ¬ (i : Int) < (l.length : Int); omega),List.drop_eq_nil_of_le (by omega)]; rfl
 | k + 1,i,h => by
  have hi : i < l.length := by omega
  refine eL ((c30_0 dd l30 ..).trans ?_); show (_ : Option Bool) = some _
  rw [cond_yes (by show (i : Int) < (l.length : Int); omega),if_pos (by omega),if_pos (by show (i : Int) < (l.length : Int); omega),D52,Option.bind_some,drop_get (z := (0,0,0,0,0)) hi,wi_nat (by have := hl; omega),L30 l hl k (i + 1) (by omega)]
  cases hp : opOk (gt l (i : Int) (0,0,0,0,0)) <;> simp [hp]
theorem L25 (l : List Op) (hl : Sh l) : ∀ (k i : Nat),i + k = l.length -> l25 (q25_0 l i) = some ((l.drop i).all opOk && decide (l.length <= 5))
 | 0,i,h => by
  refine eL ((c25_0 dd l25 ..).trans ?_); show (_ : Option Bool) = some _
  rw [cond_no (by show ¬ (i : Int) < (l.length : Int); omega),List.drop_eq_nil_of_le (by omega)]
  have : ((l.length : Int) <= 5) ↔ l.length <= 5 := by omega
  simp [ln,this]
 | k + 1,i,h => by
  have hi : i < l.length := by omega
  refine eL ((c25_0 dd l25 ..).trans ?_); show (_ : Option Bool) = some _
  rw [cond_yes (by show (i : Int) < (l.length : Int); omega),if_pos (by omega),if_pos (by show (i : Int) < (l.length : Int); omega),D19,Option.bind_some,drop_get (z := (0,0,0,0,0)) hi,wi_nat (by have := hl; omega),L25 l hl k (i + 1) (by omega)]
  cases hp : opOk (gt l (i : Int) (0,0,0,0,0)) <;> simp [hp]
def opsOk (l : List Op) : Bool := decide (l.length <= 5) && l.all opOk
theorem D30 (l : List Op) (hl : Sh l) : r30 dd l = some (opsOk l) := by
 refine dL rfl ((b30 dd l30 ..).trans ?_); show (_ : Option Bool) = some _; unfold opsOk
 by_cases h : l.length <= 5
 ·rw [cond_no (by show ¬ (l.length : Int) > 5; omega)]
  have := L30 l hl l.length 0 (by omega)
  exact this.trans (by simp [h])
 ·rw [cond_yes (by show (l.length : Int) > 5; omega)]; simp [h]
theorem D25 (l : List Op) (hl : Sh l) : r25 dd l = some (opsOk l) := by
 refine dL rfl ((b25 dd l25 ..).trans ?_); show (_ : Option Bool) = some _; unfold opsOk
 have := L25 l hl l.length 0 (by omega)
 exact this.trans (by simp [Bool.and_comm])
end loops
end T
end
section
namespace T
open Go Go.E Go.Proofs
theorem tm {a b : Int} (h : 0 <= a) : a.tmod b = a % b := Int.tmod_eq_emod_of_nonneg h
theorem td {a b : Int} (h : 0 <= a) : a.tdiv b = a / b := Int.tdiv_eq_ediv_of_nonneg h
theorem fd {a b : Int} (h : 0 <= b) : a.fdiv b = a / b := Int.fdiv_eq_ediv_of_nonneg a h
theorem lnE {α : Type} (l : List α) : ln l = (l.length : Int) := rfl
theorem byt_gt {l : List Int} (h : Byt l) (i : Int) : 0 <= gt l i 0 ∧ gt l i 0 < 256 := by
 unfold gt
 rw [List.getD_eq_getElem?_getD]
 cases e : l[i.toNat]? with
 | none => exact ⟨by decide,by decide⟩
 | some b => exact h b (List.mem_of_getElem? e)
theorem byt_getD {l : List Int} (h : Byt l) (i : Nat) : 0 <= l.getD i 0 ∧ l.getD i 0 < 256 := by
 have := byt_gt h i
 unfold gt at this
 rwa [Int.toNat_natCast] at this
theorem byt_cons {b : Int} {l : List Int} : Byt (b :: l) ↔ (0 <= b ∧ b < 256) ∧ Byt l := by
 unfold Byt; simp
theorem byt_app {l m : List Int} : Byt (l ++ m) ↔ Byt l ∧ Byt m := by
 unfold Byt
 constructor
 ·intro h; exact ⟨fun b hb => h b (List.mem_append.2 (.inl hb)),fun b hb => h b (List.mem_append.2 (.inr hb))⟩
 ·intro ⟨h,k⟩ b hb
  rcases List.mem_append.1 hb with x | x
  ·exact h b x
  ·exact k b x
theorem byt_nil : Byt [] := fun _ h => by cases h
theorem byt_take {l : List Int} (h : Byt l) (n : Nat) : Byt (l.take n) := fun b hb => h b (List.mem_of_mem_take hb)
theorem byt_drop {l : List Int} (h : Byt l) (n : Nat) : Byt (l.drop n) := fun b hb => h b (List.mem_of_mem_drop hb)
theorem wi_b {x : Int} (h : 0 <= x ∧ x < 256) : wi x = x := wi_id (by omega) (by omega)
def sumGo : List Int -> Int -> Int -> Int
 | [],a,b => b * 65536 + a
 | v :: l,a,b => sumGo l ((a + v) % 65521) ((b + (a + v) % 65521) % 65521)
def sumP (l : List Int) : Int := sumGo l 1 0
theorem sumGo_le : ∀ (l : List Int) (a b : Int),Byt l -> 0 <= a -> a < 65521 -> 0 <= b -> b < 65521 -> 0 <= sumGo l a b ∧ sumGo l a b < 4294967296
 | [],a,b,_,h1,h2,h3,h4 => by unfold sumGo; omega
 | v :: l,a,b,h,h1,h2,h3,h4 => by
  unfold sumGo
  exact sumGo_le l _ _ (byt_cons.1 h).2 (by omega) (by omega) (by omega) (by omega)
theorem sumP_le {l : List Int} (h : Byt l) : 0 <= sumP l ∧ sumP l < 4294967296 := sumGo_le l 1 0 h (by decide) (by decide) (by decide) (by decide)
theorem L63 (l : List Int) (hl : Sh l) (hb : Byt l) : ∀ (k i : Nat) (a b : Int),i + k = l.length -> 0 <= a -> a < 65521 -> 0 <= b -> b < 65521 -> l63 (q63_0 a b l (ln l) i) = some (sumGo (l.drop i) a b)
 | 0,i,a,b,h,h1,h2,h3,h4 => by
  refine eL ((c63_0 dd l63 ..).trans ?_); show (_ : Option Int) = some _
  have hln := lnE l
  rw [List.drop_eq_nil_of_le (by omega)]
  simp (disch := omega) only [cond_no,wi_id,sumGo]
 | k + 1,i,a,b,h,h1,h2,h3,h4 => by
  have hi : i < l.length := by omega
  have hln := lnE l
  have hg := byt_gt hb (i : Int)
  refine eL ((c63_0 dd l63 ..).trans ?_); show (_ : Option Int) = some _
  rw [drop_get (z := 0) hi]
  simp (disch := omega) only [cond_yes,if_pos,wi_id,tm,sumGo]
  exact L63 l hl hb k (i + 1) _ _ (by omega) (by omega) (by omega) (by omega) (by omega)
theorem L81 (l : List Int) (hl : Sh l) (hb : Byt l) : ∀ (k i : Nat) (a b : Int),i + k = l.length -> 0 <= a -> a < 65521 -> 0 <= b -> b < 65521 -> l81 (q81_0 l a b i) = some (sumGo (l.drop i) a b)
 | 0,i,a,b,h,h1,h2,h3,h4 => by
  refine eL ((c81_0 dd l81 ..).trans ?_); show (_ : Option Int) = some _
  have hln := lnE l
  rw [List.drop_eq_nil_of_le (by omega)]
  simp (disch := omega) only [cond_no,wi_id,sumGo]
 | k + 1,i,a,b,h,h1,h2,h3,h4 => by
  have hi : i < l.length := by omega
  have hln := lnE l
  have hg := byt_gt hb (i : Int)
  refine eL ((c81_0 dd l81 ..).trans ?_); show (_ : Option Int) = some _
  rw [drop_get (z := 0) hi]
  simp (disch := omega) only [cond_yes,if_pos,wi_id,tm,sumGo]
  exact L81 l hl hb k (i + 1) _ _ (by omega) (by omega) (by omega) (by omega) (by omega)
theorem D63 (l : List Int) (hl : Sh l) (hb : Byt l) : r63 dd l = some (sumP l) := by
 refine dL rfl ((b63 dd l63 ..).trans ?_)
 exact L63 l hl hb l.length 0 1 0 (by omega) (by decide) (by decide) (by decide) (by decide)
theorem D81 (l : List Int) (hl : Sh l) (hb : Byt l) : r81 dd l = some (sumP l) := by
 refine dL rfl ((b81 dd l81 ..).trans ?_)
 exact L81 l hl hb l.length 0 1 0 (by omega) (by decide) (by decide) (by decide) (by decide)
def sum4 (n : Int) : List Int := [n / 16777216,n / 65536 % 256,n / 256 % 256,n % 256]
theorem D40 (l : List Int) (hl : Sh l) (hb : Byt l) : r40 dd l = some (sumP l / 16777216,sumP l / 65536 % 256,sumP l / 256 % 256,sumP l % 256) := by
 refine dL rfl ((b40 dd l40 ..).trans ?_)
 rw [D63 l hl hb,Option.bind_some]
 have := sumP_le hb
 generalize sumP l = n at *
 have e : ∀ x : Int,0 <= x -> wb x = x % 256 := fun x hx => by
  unfold wb IntKind.wrap
  simp only [IntKind.bits,IntKind.signed,Bool.false_and,Bool.false_eq_true,if_false]
  omega
 simp (disch := omega) only [fd,e]
 congr 2
 omega
theorem D47 (l : List Int) (hl : Sh l) (hb : Byt l) : r47 dd l = some (sum4 (sumP l)) := by
 refine dL rfl ((b47 dd l47 ..).trans ?_); show (_ : Option (List Int)) = some _; unfold sum4
 rw [D81 l hl hb,Option.bind_some]
 have := sumP_le hb
 generalize sumP l = n at *
 simp (disch := omega) only [td,wi_id,tm,wb_id]
end T
end
section
namespace T
open Go Go.E Go.Proofs
theorem ceq_yes {α : Type} {a b : Int} {x y : α} (h : a = b) : (bif a == b then x else y) = x := by rw [h,beq_self_eq_true]; rfl
theorem ceq_no {α : Type} {a b : Int} {x y : α} (h : ¬ a = b) : (bif a == b then x else y) = y := by rw [beq_eq_false_iff_ne.2 h]; rfl
theorem cne_yes {α : Type} {a b : Int} {x y : α} (h : ¬ a = b) : (bif a != b then x else y) = x := by rw [bne_iff_ne.2 h]; rfl
theorem cne_no {α : Type} {a b : Int} {x y : α} (h : a = b) : (bif a != b then x else y) = y := by rw [h,bne_self_eq_false]; rfl
end T
end
section
namespace T
open Go Go.E Go.Proofs
def kindOk (k : Int) : Prop := k = 68 ∨ k = 85 ∨ k = 82 ∨ k = 80
end T
end
section
namespace T
open Go Go.E Go.Proofs
end T
end
section
namespace T
open Go Go.E Go.Proofs
def bstep (o : List Int) (t : Nat) (v : Int) : List Int := if t % 8 = 0 then o ++ [v] else o.set (t / 8) (gt o ((t / 8 : Nat) : Int) 0 + v * 2 ^ (t % 8))
def putN (N : Int) : Nat -> Nat -> List Int -> Nat -> List Int
 | 0,_,o,_ => o
 | c + 1,j,o,t => putN N c (j + 1) (bstep o t (N / 2 ^ j % 2)) (t + 1)
def bitsP : List (Int × Int) -> List Int -> Nat -> List Int
 | [],o,_ => o
 | c :: l,o,t => bitsP l (putN c.1 9 0 o t) (t + 9)
structure BI (o : List Int) (t : Nat) : Prop where
 len : o.length = (t + 7) / 8
 byt : Byt o
 top : t % 8 ≠ 0 -> gt o ((t / 8 : Nat) : Int) 0 < 2 ^ (t % 8)
theorem pow8 : ∀ {m : Nat},m < 8 -> (2 : Int) ^ m * 2 <= 256 ∧ 1 <= (2 : Int) ^ m := by decide
theorem set_snoc {o : List Int} {y x : Int} : (o ++ [y]).set o.length x = o ++ [x] := by simp
theorem gt_set {o : List Int} {i : Nat} {x : Int} (h : i < o.length) : gt (o.set i x) (i : Int) 0 = x := by
 rw [gt_get (by simpa using h)]; simp
theorem gt_last {o : List Int} {x : Int} : gt (o ++ [x]) ((o.length : Nat) : Int) 0 = x := by
 rw [gt_get (by simp)]; simp
theorem BI.step {o : List Int} {t : Nat} {v : Int} (h : BI o t) (hv : v = 0 ∨ v = 1) : BI (bstep o t v) (t + 1) := by
 unfold bstep
 have hl := h.len
 by_cases c : t % 8 = 0
 ·rw [if_pos c]
  refine ⟨by simp; omega,byt_app.2 ⟨h.byt,byt_cons.2 ⟨by omega,byt_nil⟩⟩,fun _ => ?_⟩
  have : (t + 1) / 8 = o.length := by omega
  rw [this,gt_last,show (t + 1) % 8 = 1 by omega]
  omega
 ·rw [if_neg c]
  have hlt : t / 8 < o.length := by omega
  have ht := h.top c
  have hg := byt_gt h.byt ((t / 8 : Nat) : Int)
  have hp := pow8 (m := t % 8) (by omega)
  have hx : gt o ((t / 8 : Nat) : Int) 0 + v * 2 ^ (t % 8) < 2 ^ (t % 8) * 2 ∧ 0 <= gt o ((t / 8 : Nat) : Int) 0 + v * 2 ^ (t % 8) := by
   rcases hv with rfl | rfl <;> omega
  refine ⟨by simp; omega,fun b hb => ?_,fun c' => ?_⟩
  ·rcases List.mem_or_eq_of_mem_set hb with q | q
   ·exact h.byt b q
   ·rw [q]; omega
  ·have e1 : (t + 1) / 8 = t / 8 := by omega
   have e2 : (t + 1) % 8 = t % 8 + 1 := by omega
   rw [e1,e2,gt_set hlt,Int.pow_succ]
   exact hx.1
theorem bit01 (N : Int) (j : Nat) : N / 2 ^ j % 2 = 0 ∨ N / 2 ^ j % 2 = 1 := by omega
theorem BI.putN {N : Int} : ∀ (c j : Nat) {o : List Int} {t : Nat},BI o t -> BI (putN N c j o t) (t + c)
 | 0,j,o,t,h => h
 | c + 1,j,o,t,h => by
  have := BI.putN (N := N) c (j + 1) (h.step (bit01 N j))
  rw [show t + 1 + c = t + (c + 1) by omega] at this
  exact this
theorem BI.bits : ∀ {l : List (Int × Int)} {o : List Int} {t : Nat},BI o t -> BI (bitsP l o t) (t + 9 * l.length)
 | [],o,t,h => h
 | c :: l,o,t,h => by
  have := BI.bits (l := l) (BI.putN (N := c.1) 9 0 h)
  rw [show t + 9 + 9 * l.length = t + 9 * (c :: l).length by simp; omega] at this
  exact this
theorem BI.nil : BI [] 0 := ⟨rfl,byt_nil,fun h => absurd rfl h⟩
def Cod9 (l : List (Int × Int)) : Prop := ∀ c ∈ l,(0 <= c.1 ∧ c.1 < 512) ∧ c.2 = 9
theorem cod9_get {l : List (Int × Int)} (h : Cod9 l) {i : Nat} (hi : i < l.length) : (0 <= (gt l (i : Int) (0,0)).1 ∧ (gt l (i : Int) (0,0)).1 < 512) ∧ (gt l (i : Int) (0,0)).2 = 9 := by
 rw [gt_get hi]; exact h _ (List.getElem_mem hi)
theorem pw (j : Nat) (h : j <= 8) : (1 : Int) <= 2 ^ j ∧ (2 : Int) ^ j <= 256 := by
 have : ∀ m : Nat,m < 9 -> (1 : Int) <= 2 ^ m ∧ (2 : Int) ^ m <= 256 := by decide
 exact this j (by omega)
theorem minj {j : Nat} {K : IntKind} (h : j <= K.bits) : min ((j : Int)).toNat K.bits = j := by rw [Int.toNat_natCast]; omega
theorem D115 (N : Int) : r115 dd (N,9) = some (inR N 0 511) := by
 refine dL rfl ((b115 dd l115 ..).trans ?_)
 rw [D36,Option.bind_some]
 show (if (0 : Int) <= 9 then _ else none) = _
 rw [if_pos (by decide),D36]
 rfl
theorem D157 (N : Int) : r157 dd (N,9) = some (inR N 0 511) := by
 refine dL rfl ((b157 dd l157 ..).trans ?_); show (_ : Option Bool) = some _; unfold inR
 rw [cond_yes (by decide),cond_yes (by decide),if_pos (by decide)]
 have e : wi (1 * 2 ^ min (Int.toNat 9) IntKind.i64.bits) = 512 := by decide
 rw [e]
 by_cases h : 0 <= N
 ·rw [cond_yes (by omega)]
  have : (N < 512) ↔ (0 <= N ∧ N <= 511) := by omega
  simp only [this]
 ·rw [cond_no (by omega)]
  have : ¬ (0 <= N ∧ N <= 511) := by omega
  simp [this]
theorem L113b (xs : List (Int × Int)) (hx : Cod9 xs) (hl : xs.length <= 300) (i : Nat) (hi : i < xs.length) (r : List Int) : ∀ (c j : Nat) (o : List Int) (t : Nat),j + c = 9 -> BI o t -> t + c <= 2700 ->
  l113 (q113_0 xs ((t + c : Nat) : Int) ((i + 1 : Nat) : Int) (putN (gt xs (i : Int) (0,0)).1 c j o t)) = some r -> l113 (q113_1 xs t i j o) = some r
 | 0,j,o,t,h,hb,ht,hk => by
  obtain ⟨_,h9⟩ := cod9_get hx hi
  have hln := lnE xs
  refine eL ((c113_1 dd l113 ..).trans ?_)
  rw [if_pos (by omega),if_pos (by omega),h9,cond_no (by omega),wi_nat (by omega)]
  exact hk
 | c + 1,j,o,t,h,hb,ht,hk => by
  obtain ⟨hN,h9⟩ := cod9_get hx hi
  have hln := lnE xs
  have hlo := lnE o
  have hlen := hb.len
  have e8 : ((t : Int)).tdiv 8 = ((t / 8 : Nat) : Int) := by rw [td (by omega)]; omega
  have m8 : ((t : Int)).tmod 8 = ((t % 8 : Nat) : Int) := by rw [tm (by omega)]; omega
  have w8 : wi ((t / 8 : Nat) : Int) = ((t / 8 : Nat) : Int) := wi_id (by omega) (by omega)
  have hp := pow8 (m := t % 8) (by omega)
  have hv : (Int.fdiv (gt xs (i : Int) (0,0)).1 (2 ^ j)).tmod 2 = (gt xs (i : Int) (0,0)).1 / 2 ^ j % 2 := by
   have := pw j (by omega)
   rw [fd (by omega),tm (Int.ediv_nonneg hN.1 (by omega))]
  have h01 := bit01 (gt xs (i : Int) (0,0)).1 j
  generalize hV : (gt xs (i : Int) (0,0)).1 / 2 ^ j % 2 = v at hv h01
  have hw1 : wi (v * 2 ^ (t % 8)) = v * 2 ^ (t % 8) := by rcases h01 with rfl | rfl <;> exact wi_id (by omega) (by omega)
  have hw2 : wb (v * 2 ^ (t % 8)) = v * 2 ^ (t % 8) := by rcases h01 with rfl | rfl <;> exact wb_id (by omega) (by omega)
  have hbs := hb.step h01
  have next := L113b xs hx hl i hi r c (j + 1) (bstep o t v) (t + 1) (by omega) hbs (by omega)
  have hk' : l113 (q113_0 xs ((t + 1 + c : Nat) : Int) ((i + 1 : Nat) : Int) (putN (gt xs (i : Int) (0,0)).1 c (j + 1) (bstep o t v) (t + 1))) = some r := by
   rw [show t + 1 + c = t + (c + 1) by omega]
   unfold putN at hk
   rw [hV] at hk
   exact hk
  have next := next hk'
  have mt : min (((t % 8 : Nat) : Int)).toNat IntKind.i64.bits = t % 8 := minj (by show t % 8 <= 64; omega)
  have mj : min ((j : Int)).toNat IntKind.i64.bits = j := minj (by show j <= 64; omega)
  refine eL ((c113_1 dd l113 ..).trans ?_)
  rw [if_pos (by omega),if_pos (by omega),h9,cond_yes (by omega),e8,m8,w8,mt,mj,hv,hw1,hw2,wi_nat (by omega),wi_nat (by omega)]
  by_cases c8 : t % 8 = 0
  ·have hol : t / 8 = o.length := by omega
   have hlo2 : ln (o.append [0]) = (o.length : Int) + 1 := by show ((o ++ [0]).length : Int) = _; simp
   rw [ceq_yes (by omega),if_pos (by omega)]
   simp (disch := omega) only [↓if_pos]
   have e1 : gt (o.append [0]) ((t / 8 : Nat) : Int) 0 = 0 := by rw [hol]; exact gt_last
   rw [e1,c8]
   have e2 : wb (0 + v * 2 ^ 0) = v := by rcases h01 with rfl | rfl <;> decide
   rw [e2,Int.toNat_natCast,hol]
   have e3 : (o.append [0]).set o.length v = bstep o t v := by
    unfold bstep
    rw [if_pos c8]; exact set_snoc
   rw [e3]
   exact next
  ·rw [ceq_no (by omega)]
   simp (disch := omega) only [↓if_pos]
   have htop := hb.top c8
   have hg := byt_gt hb.byt ((t / 8 : Nat) : Int)
   have e2 : wb (gt o ((t / 8 : Nat) : Int) 0 + v * 2 ^ (t % 8)) = gt o ((t / 8 : Nat) : Int) 0 + v * 2 ^ (t % 8) := by rcases h01 with rfl | rfl <;> exact wb_id (by omega) (by omega)
   rw [e2,Int.toNat_natCast]
   have e3 : o.set (t / 8) (gt o ((t / 8 : Nat) : Int) 0 + v * 2 ^ (t % 8)) = bstep o t v := by
    unfold bstep
    rw [if_neg c8]
   rw [e3]
   exact next
theorem L113a (xs : List (Int × Int)) (hx : Cod9 xs) (hl : xs.length <= 300) : ∀ (k i : Nat) (o : List Int),i + k = xs.length -> BI o (9 * i) -> l113 (q113_0 xs ((9 * i : Nat) : Int) i o) = some (bitsP (xs.drop i) o (9 * i))
 | 0,i,o,h,hb => by
  have hln := lnE xs
  have hlo := lnE o
  have hlen := hb.len
  refine eL ((c113_0 dd l113 ..).trans ?_)
  rw [cond_no (by omega),cond_no (by omega),List.drop_eq_nil_of_le (by omega)]
  rfl
 | k + 1,i,o,h,hb => by
  have hi : i < xs.length := by omega
  have hln := lnE xs
  have hlo := lnE o
  have hlen := hb.len
  obtain ⟨hN,h9⟩ := cod9_get hx hi
  refine eL ((c113_0 dd l113 ..).trans ?_)
  rw [cond_yes (by omega),if_pos (by omega),if_pos (by omega)]
  have e : gt xs (i : Int) (0,0) = ((gt xs (i : Int) (0,0)).1,9) := by rw [<- h9]
  rw [e,D115,Option.bind_some]
  have hin : inR (gt xs (i : Int) (0,0)).1 0 511 = true := inR_iff.2 (by omega)
  rw [hin]
  show (bif decide (ln o > 400) then some [] else l113 (q113_1 xs ((9 * i : Nat) : Int) i 0 o)) = _
  rw [cond_no (by omega),drop_get (z := (0,0)) hi]
  refine L113b xs hx hl i hi _ 9 0 o (9 * i) (by omega) hb (by omega) ?_
  have := L113a xs hx hl k (i + 1) (putN (gt xs (i : Int) (0,0)).1 9 0 o (9 * i)) (by omega) (by
   have := BI.putN (N := (gt xs (i : Int) (0,0)).1) 9 0 hb
   rw [show 9 * i + 9 = 9 * (i + 1) by omega] at this
   exact this)
  rw [show 9 * i + 9 = 9 * (i + 1) by omega,this]
  show _ = some (bitsP (xs.drop (i + 1)) (putN (gt xs (i : Int) (0,0)).1 9 0 o (9 * i)) (9 * i + 9))
  rw [show 9 * i + 9 = 9 * (i + 1) by omega]
theorem D113 (xs : List (Int × Int)) (hx : Cod9 xs) (hl : xs.length <= 300) : r113 dd xs = some (bitsP xs [] 0) := by
 refine dL rfl ((b113 dd l113 ..).trans ?_)
 exact L113a xs hx hl xs.length 0 [] (by omega) BI.nil
theorem and1 (y : Int) (h1 : 0 <= y) : wi (↑(BitVec.ofInt IntKind.i64.bits y &&& BitVec.ofInt IntKind.i64.bits 1).toNat : Int) = y % 2 := by
 have e : (BitVec.ofInt IntKind.i64.bits y &&& BitVec.ofInt IntKind.i64.bits 1).toNat = (y % 18446744073709551616).toNat % 2 := by
  rw [BitVec.toNat_and,BitVec.toNat_ofInt,BitVec.toNat_ofInt]
  show (y % 18446744073709551616).toNat &&& 1 = _
  exact Nat.and_one_is_mod _
 rw [e,wi_id (by omega) (by omega)]
 omega
theorem and1b (y : Int) (h1 : 0 <= y) : wb (↑(BitVec.ofInt IntKind.u8.bits y &&& BitVec.ofInt IntKind.u8.bits 1).toNat : Int) = y % 2 := by
 have e : (BitVec.ofInt IntKind.u8.bits y &&& BitVec.ofInt IntKind.u8.bits 1).toNat = (y % 256).toNat % 2 := by
  rw [BitVec.toNat_and,BitVec.toNat_ofInt,BitVec.toNat_ofInt]
  show (y % 256).toNat &&& 1 = _
  exact Nat.and_one_is_mod _
 rw [e,wb_id (by omega) (by omega)]
 omega
theorem or_bit (g v : Int) (m : Nat) (hm : m < 8) (h0 : 0 <= g) (h1 : g < 2 ^ m) (hv : v = 0 ∨ v = 1) : wb (↑(BitVec.ofInt IntKind.u8.bits g ||| BitVec.ofInt IntKind.u8.bits (v * 2 ^ m)).toNat : Int) = g + v * 2 ^ m := by
 have hp := pow8 hm
 have hpn : ((2 ^ m : Nat) : Int) = 2 ^ m := by simp
 have e : (BitVec.ofInt IntKind.u8.bits g ||| BitVec.ofInt IntKind.u8.bits (v * 2 ^ m)).toNat = g.toNat + v.toNat * 2 ^ m := by
  rw [BitVec.toNat_or,BitVec.toNat_ofInt,BitVec.toNat_ofInt]
  show (g % 256).toNat ||| (v * 2 ^ m % 256).toNat = _
  have e1 : (g % 256).toNat = g.toNat := by omega
  have e2 : (v * 2 ^ m % 256).toNat = 2 ^ m * v.toNat := by
   rcases hv with rfl | rfl
   ·simp
   ·rw [Int.one_mul,Int.emod_eq_of_lt (by omega) (by omega), <- hpn,Int.toNat_natCast]; simp
  rw [e1,e2,Nat.or_comm, <- Nat.two_pow_add_eq_or_of_lt (by omega),Nat.mul_comm]
  omega
 rw [e]
 have : ((g.toNat + v.toNat * 2 ^ m : Nat) : Int) = g + v * 2 ^ m := by
  rcases hv with rfl | rfl
  ·simp; omega
  ·simp; omega
 rw [this]
 rcases hv with rfl | rfl <;> exact wb_id (by omega) (by omega)
theorem L155 (N : Int) (hN : 0 <= N ∧ N < 512) : ∀ (c j : Nat) (o : List Int) (t : Nat),j + c = 9 -> BI o t -> t + c <= 2700 -> l155 (q155_0 9 j t false o N 9) = some (putN N c j o t,((t + c : Nat) : Int),false)
 | 0,j,o,t,h,hb,ht => by
  refine eL ((c155_0 dd l155 ..).trans ?_)
  rw [cond_no (by omega)]
  rfl
 | c + 1,j,o,t,h,hb,ht => by
  have hlo := lnE o
  have hlen := hb.len
  have e8 : ((t : Int)).tdiv 8 = ((t / 8 : Nat) : Int) := by rw [td (by omega)]; omega
  have m8 : ((t : Int)).tmod 8 = ((t % 8 : Nat) : Int) := by rw [tm (by omega)]; omega
  have w8 : wi ((t / 8 : Nat) : Int) = ((t / 8 : Nat) : Int) := wi_id (by omega) (by omega)
  have hp := pow8 (m := t % 8) (by omega)
  have hpj := pw j (by omega)
  have h01 := bit01 N j
  have hnn : 0 <= N / 2 ^ j := Int.ediv_nonneg hN.1 (by omega)
  have hv : wi (↑(BitVec.ofInt IntKind.i64.bits (N.fdiv (2 ^ j)) &&& BitVec.ofInt IntKind.i64.bits 1).toNat : Int) = N / 2 ^ j % 2 := by
   rw [fd (by omega)]; exact and1 _ hnn
  have next := L155 N hN c (j + 1) (bstep o t (N / 2 ^ j % 2)) (t + 1) (by omega) (hb.step h01) (by omega)
  have goal : putN N (c + 1) j o t = putN N c (j + 1) (bstep o t (N / 2 ^ j % 2)) (t + 1) := rfl
  rw [goal,show t + (c + 1) = t + 1 + c by omega]
  generalize N / 2 ^ j % 2 = v at *
  have hw0 : wb v = v := wb_id (by omega) (by omega)
  have hw2 : wb (v * 2 ^ (t % 8)) = v * 2 ^ (t % 8) := by rcases h01 with rfl | rfl <;> exact wb_id (by omega) (by omega)
  have mt : min (((t % 8 : Nat) : Int)).toNat IntKind.u8.bits = t % 8 := minj (by show t % 8 <= 8; omega)
  have mj : min ((j : Int)).toNat IntKind.i64.bits = j := minj (by show j <= 64; omega)
  refine eL ((c155_0 dd l155 ..).trans ?_)
  rw [cond_yes (by omega),e8,m8,w8,mt,mj,hv,hw0,hw2,wi_nat (by omega),wi_nat (by omega)]
  by_cases c8 : t % 8 = 0
  ·have hol : t / 8 = o.length := by omega
   have hlo2 : ln (o.append [0]) = (o.length : Int) + 1 := by show ((o ++ [0]).length : Int) = _; simp
   rw [ceq_yes (by omega),if_pos (by omega)]
   simp (disch := omega) only [↓if_pos]
   have e1 : gt (o.append [0]) ((t / 8 : Nat) : Int) 0 = 0 := by rw [hol]; exact gt_last
   rw [e1,or_bit 0 v (t % 8) (by omega) (by omega) (by omega) h01,c8]
   have e2 : 0 + v * 2 ^ 0 = v := by omega
   rw [e2,Int.toNat_natCast,hol]
   have e3 : (o.append [0]).set o.length v = bstep o t v := by
    unfold bstep
    rw [if_pos c8]; exact set_snoc
   rw [e3]
   exact next
  ·rw [ceq_no (by omega)]
   simp (disch := omega) only [↓if_pos]
   have htop := hb.top c8
   have hg := byt_gt hb.byt ((t / 8 : Nat) : Int)
   rw [or_bit _ v (t % 8) (by omega) hg.1 htop h01,Int.toNat_natCast]
   have e3 : o.set (t / 8) (gt o ((t / 8 : Nat) : Int) 0 + v * 2 ^ (t % 8)) = bstep o t v := by
    unfold bstep
    rw [if_neg c8]
   rw [e3]
   exact next
theorem D155 (N : Int) (hN : 0 <= N ∧ N < 512) (o : List Int) (t : Nat) (hb : BI o t) (ht : t <= 2690) : r155 dd ((o,(t : Int),false),N,9) = some (putN N 9 0 o t,((t + 9 : Nat) : Int),false) := by
 refine dL rfl ((b155 dd l155 ..).trans ?_)
 rw [D157,Option.bind_some,inR_iff.2 (show 0 <= N ∧ N <= 511 by omega)]
 show (bif decide (wi ((t : Int) + 9) > 3200) then some (o,(t : Int),true) else l155 (q155_0 9 0 t false o N 9)) = _
 rw [wi_id (by omega) (by omega),cond_no (by omega)]
 exact L155 N hN 9 0 o t (by omega) hb (by omega)
theorem L154 (xs : List (Int × Int)) (hx : Cod9 xs) (hl : xs.length <= 290) : ∀ (k i : Nat) (o : List Int),i + k = xs.length -> BI o (9 * i) -> l154 (q154_0 xs (ln xs) i ((9 * i : Nat) : Int) false o) = some (bitsP (xs.drop i) o (9 * i))
 | 0,i,o,h,hb => by
  have hln := lnE xs
  refine eL ((c154_0 dd l154 ..).trans ?_)
  rw [cond_no (by omega),List.drop_eq_nil_of_le (by omega)]
  rfl
 | k + 1,i,o,h,hb => by
  have hi : i < xs.length := by omega
  have hln := lnE xs
  obtain ⟨hN,h9⟩ := cod9_get hx hi
  refine eL ((c154_0 dd l154 ..).trans ?_)
  have e : gt xs (i : Int) (0,0) = ((gt xs (i : Int) (0,0)).1,9) := by rw [<- h9]
  rw [cond_yes (by omega),if_pos (by omega),if_pos (by omega),e,D155 _ hN o (9 * i) hb (by omega),Option.bind_some,wi_nat (by omega),drop_get (z := (0,0)) hi]
  have := L154 xs hx hl k (i + 1) (putN (gt xs (i : Int) (0,0)).1 9 0 o (9 * i)) (by omega) (by
   have := BI.putN (N := (gt xs (i : Int) (0,0)).1) 9 0 hb
   rw [show 9 * i + 9 = 9 * (i + 1) by omega] at this
   exact this)
  show l154 (q154_0 xs (ln xs) ((i + 1 : Nat) : Int) ((9 * i + 9 : Nat) : Int) false (putN (gt xs (i : Int) (0,0)).1 9 0 o (9 * i))) = some (bitsP (xs.drop (i + 1)) (putN (gt xs (i : Int) (0,0)).1 9 0 o (9 * i)) (9 * i + 9))
  rw [show 9 * i + 9 = 9 * (i + 1) by omega]
  exact this
theorem D154 (xs : List (Int × Int)) (hx : Cod9 xs) (hl : xs.length <= 290) : r154 dd xs = some (bitsP xs [] 0) := by
 refine dL rfl ((b154 dd l154 ..).trans ?_)
 exact L154 xs hx hl xs.length 0 [] (by omega) BI.nil
end T
end
section
namespace T
open Go Go.E Go.Proofs
theorem ba_loop (bs : ByteArray) : ∀ (k i : Nat) (r : List UInt8),i + k = bs.data.size -> ByteArray.toList.loop bs i r = r.reverse ++ bs.data.toList.drop i := by
 intro k
 induction k with
 | zero =>
  intro i r h
  unfold ByteArray.toList.loop
  have hs : bs.size = bs.data.size := rfl
  have hl : bs.data.toList.length = bs.data.size := Array.length_toList
  rw [if_neg (by omega),List.drop_eq_nil_of_le (by omega),List.append_nil]
 | succ k ih =>
  intro i r h
  unfold ByteArray.toList.loop
  have hs : bs.size = bs.data.size := rfl
  have hi : i < bs.data.size := by omega
  have hl : bs.data.toList.length = bs.data.size := Array.length_toList
  have hg : bs.get! i = bs.data.toList[i]'(by omega) := by
   show bs.data[i]! = _
   rw [getElem!_pos bs.data i hi,Array.getElem_toList]
  rw [if_pos (by omega),ih (i + 1) _ (by omega),List.drop_eq_getElem_cons (i := i) (by omega),hg,List.reverse_cons,List.append_assoc]
  rfl
theorem ba_toList (bs : ByteArray) : bs.toList = bs.data.toList := by
 unfold ByteArray.toList
 rw [ba_loop bs bs.data.size 0 [] (by omega)]
 rfl
theorem ns_list (l : List Int) : (numsStr l).toList = l.map fun n => UInt8.ofNat n.toNat := by
 rw [ba_toList]; rfl
theorem ns_eq : ∀ {l m : List Int},Byt l -> Byt m -> ((numsStr l).toList == (numsStr m).toList) = decide (l = m) := by
 have inj : ∀ {l m : List Int},Byt l -> Byt m -> (l.map fun n => UInt8.ofNat n.toNat) = (m.map fun n => UInt8.ofNat n.toNat) -> l = m := by
  intro l
  induction l with
  | nil => intro m _ _ h; cases m with
   | nil => rfl
   | cons b m => cases h
  | cons a l ih =>
   intro m hl hm h
   cases m with
   | nil => cases h
   | cons b m =>
    rw [List.map_cons,List.map_cons,List.cons.injEq] at h
    obtain ⟨ha,hl⟩ := byt_cons.1 hl
    obtain ⟨hb,hm⟩ := byt_cons.1 hm
    have h1 := congrArg UInt8.toNat h.1
    rw [UInt8.toNat_ofNat',UInt8.toNat_ofNat'] at h1
    rw [ih hl hm h.2,show a = b by omega]
 intro l m hl hm
 rw [ns_list,ns_list]
 by_cases e : l = m
 ·subst e; simp
 ·have : ¬ (l.map fun n => UInt8.ofNat n.toNat) = (m.map fun n => UInt8.ofNat n.toNat) := fun h => e (inj hl hm h)
  rw [beq_eq_false_iff_ne.2 this,decide_eq_false e]
theorem same_eq {R : Type} {x : Option R} {l : List (Option R)} (h : ∀ y ∈ l,y = x) : sameAll x l = x := by
 cases l with
 | nil => rfl
 | cons a l =>
  have key : ∀ l : List (Option R),(∀ y ∈ l,y = x) -> allSame x l := by
   intro l
   induction l with
   | nil => intro _; trivial
   | cons a l ih => intro h; exact ⟨h a List.mem_cons_self,ih fun y hy => h y (List.mem_cons_of_mem _ hy)⟩
  exact if_pos (key (a :: l) h)
def BytL (l : List (List Int)) : Prop := ∀ s ∈ l,Byt s
theorem L114 (met : List (List Int)) (s : List Int) (hm : BytL met) (hs : Byt s) (hl : Sh met) : ∀ (k i : Nat),i + k = met.length -> (∀ j : Nat,∀ h : j < met.length,j < i -> met[j] ≠ s) -> l114 (q114_0 met s i) = some (if s ∈ met then (met.idxOf s : Int) else -1)
 | 0,i,h,hn => by
  have hln := lnE met
  refine eL ((c114_0 dd l114 ..).trans ?_); show (_ : Option Int) = some _
  rw [cond_no (by omega)]
  have : s ∉ met := fun hx => by
   obtain ⟨j,hj,e⟩ := List.getElem_of_mem hx
   exact hn j hj (by omega) e
  rw [if_neg this]
 | k + 1,i,h,hn => by
  have hln := lnE met
  have hi : i < met.length := by omega
  refine eL ((c114_0 dd l114 ..).trans ?_); show (_ : Option Int) = some _
  rw [cond_yes (by omega),same_eq (fun y hy => List.mem_singleton.1 hy),if_pos (by omega),if_pos (by omega)]
  simp only [Int.toNat_natCast,List.getElem?_eq_getElem hi]
  rw [ns_eq (hm _ (List.getElem_mem hi)) hs]
  by_cases e : met[i] = s
  ·rw [cond_yes e]
   have hx : s ∈ met := by rw [<- e]; exact List.getElem_mem hi
   have : met.idxOf s = i := by
    have h1 : met.idxOf s < met.length := List.idxOf_lt_length_iff.2 hx
    have h2 : met[met.idxOf s] = s := List.getElem_idxOf h1
    rcases Nat.lt_trichotomy (met.idxOf s) i with q | q | q
    ·exact absurd h2 (hn _ h1 q)
    ·exact q
    ·have := List.not_of_lt_findIdx (p := (· == s)) (xs := met) (i := i) (by unfold List.idxOf at q; exact q)
     simp [e] at this
   rw [if_pos hx,this]
  ·rw [cond_no e,wi_nat (by have := hl; omega)]
   refine L114 met s hm hs hl k (i + 1) (by omega) fun j hj hji => ?_
   rcases Nat.lt_or_ge j i with q | q
   ·exact hn j hj q
   ·have : j = i := by omega
    subst this; exact e
theorem D114 (met : List (List Int)) (s : List Int) (hm : BytL met) (hs : Byt s) (hl : Sh met) : r114 dd (met,s) = some (if s ∈ met then (met.idxOf s : Int) else -1) := by
 refine dL rfl ((b114 dd l114 ..).trans ?_)
 exact L114 met s hm hs hl met.length 0 (by omega) fun j _ h => absurd h (Nat.not_lt_zero _)
theorem one_mem {s : List Int} (hs : Byt s) (h1 : s.length = 1) : s ∈ dic1 256 := by
 match s,h1 with
 | [b],_ =>
  have := (byt_cons.1 hs).1
  exact dic1_mem.2 ⟨b.toNat,by omega,by rw [Int.toNat_of_nonneg this.1]⟩
theorem D112 (met : List (List Int)) (s : List Int) (hm : BytL met) (hs : Byt s) (hl : met.length <= 1000) (h1 : 1 <= s.length) : (s ∈ dicM met -> r112 dd (met,s) = some (codeM met s) ∧ 0 <= codeM met s) ∧ (s ∉ dicM met -> r112 dd (met,s) = some (-1)) := by
 have hln := lnE s
 by_cases c : s.length = 1
 ·have hin : s ∈ dicM met := List.mem_append.2 (.inl (one_mem hs c))
  refine ⟨fun _ => ?_,fun h => absurd hin h⟩
  have hg := byt_getD hs 0
  have hc : codeM met s = s.getD 0 0 := by
   unfold codeM
   match s,c with
   | [b],_ => rfl
  refine ⟨?_,by rw [hc]; exact hg.1⟩
  refine dL rfl ((b112 dd l112 ..).trans ?_); show (_ : Option Int) = some _
  rw [ceq_yes (by omega),if_pos (by omega),wi_b hg,hc]
 ·have hno : s ∉ dic1 256 := fun h => by
   obtain ⟨b,_,e⟩ := dic1_mem.1 h
   rw [e] at c; exact c rfl
  have hiff : s ∈ dicM met ↔ s ∈ met := by
   unfold dicM
   rw [List.mem_append]
   exact ⟨fun h => h.resolve_left hno,.inr⟩
  have hD := D114 met s hm hs (by show met.length < _; omega)
  refine ⟨fun h => ?_,fun h => ?_⟩
  ·have h := hiff.1 h
   have hi : met.idxOf s < met.length := List.idxOf_lt_length_iff.2 h
   rw [if_pos h] at hD
   have hc : codeM met s = 257 + (met.idxOf s : Int) := by
    unfold codeM; rw [if_neg (by omega)]
   refine ⟨?_,by rw [hc]; omega⟩
   refine dL rfl ((b112 dd l112 ..).trans ?_); show (_ : Option Int) = some _
   rw [ceq_no (by omega),hD,Option.bind_some,cond_no (by omega),wi_id (by omega) (by omega),hc]
  ·have h := fun x => h (hiff.2 x)
   rw [if_neg h] at hD
   refine dL rfl ((b112 dd l112 ..).trans ?_); show (_ : Option Int) = some _
   rw [ceq_no (by omega),hD,Option.bind_some,cond_yes (by omega)]
end T
end
section
namespace T
open Go Go.E Go.Proofs
theorem drop_take' {α : Type} {l : List α} {a n : Nat} : (l.take (a + n)).drop a = (l.drop a).take n := by
 rw [List.drop_take,Nat.add_sub_cancel_left]
theorem bytL_snoc {met : List (List Int)} {s : List Int} (h : BytL met) (hs : Byt s) : BytL (met ++ [s]) := fun x hx => by
 rcases List.mem_append.1 hx with q | q
 ·exact h x q
 ·rw [List.mem_singleton.1 q]; exact hs
def metN (met : List (List Int)) (rest : List Int) (n : Nat) : List (List Int) := if n < rest.length ∧ met.length < 255 then met ++ [rest.take (n + 1)] else met
theorem tail111 (l : List Int) (hb : Byt l) (hl : l.length <= 200) (met : List (List Int)) (hm : BytL met) (hm2 : met.length <= 255) (codes : List (Int × Int)) (hc : codes.length <= 300) (a n : Nat) (h1 : 1 <= n) (hn : a + n <= l.length) (out : List Int) (hd : (l.drop a).take n ∈ dicM met)
  (hk : l111 (q111_0 l ((a + n : Nat) : Int) (metN met (l.drop a) n) (codes ++ [(codeM met ((l.drop a).take n),9)])) = some out) :
  (if (0 : Int) <= a then if (a : Int) <= wi ((a : Int) + n) then if wi ((a : Int) + n) <= ln l then (r112 dd (met,List.drop ((a : Int)).toNat (List.take (wi ((a : Int) + n)).toNat l))).bind fun (r_1 : Int) => if (codes.length + 1) * 16 <= 140737488355328 then bif decide (wi ((a : Int) + n) < ln l) then bif decide (wi (257 + ln met) < 512) then if (0 : Int) <= a then if (a : Int) <= wi (wi ((a : Int) + n) + 1) then if wi (wi ((a : Int) + n) + 1) <= ln l then if (0 + (List.drop ((a : Int)).toNat (List.take (wi (wi ((a : Int) + n) + 1)).toNat l)).length) * 1 <= 140737488355328 then if (met.length + 1) * 24 <= 140737488355328 then l111 (q111_0 l (wi ((a : Int) + n)) (met.append [List.drop ((a : Int)).toNat (List.take (wi (wi ((a : Int) + n) + 1)).toNat l)]) (codes.append [(r_1,9)])) else none else none else none else none else none else l111 (q111_0 l (wi ((a : Int) + n)) met (codes.append [(r_1,9)])) else l111 (q111_0 l (wi ((a : Int) + n)) met (codes.append [(r_1,9)])) else none else none else none else none) = some out := by
 have hln := lnE l
 have hlm := lnE met
 have w1 : wi ((a : Int) + n) = ((a + n : Nat) : Int) := by rw [wi_id (by omega) (by omega)]; omega
 have w2 : wi (((a + n : Nat) : Int) + 1) = ((a + (n + 1) : Nat) : Int) := by rw [wi_id (by omega) (by omega)]; omega
 have w3 : wi (257 + ln met) = 257 + ln met := wi_id (by omega) (by omega)
 have hdl : (l.drop a).length = l.length - a := by simp
 obtain ⟨hD,_⟩ := (D112 met ((l.drop a).take n) hm (byt_take (byt_drop hb a) n) (by omega) (by simp; omega)).1 hd
 rw [w1,w2,w3,if_pos (by omega),if_pos (by omega),if_pos (by omega),Int.toNat_natCast,Int.toNat_natCast,Int.toNat_natCast,drop_take',drop_take',hD,Option.bind_some,if_pos (by omega)]
 unfold metN at hk
 by_cases c1 : a + n < l.length
 ·rw [cond_yes (by omega)]
  by_cases c2 : met.length < 255
  ·rw [if_pos ⟨by omega,c2⟩] at hk
   rw [cond_yes (by omega),if_pos (by omega),if_pos (by omega),if_pos (by omega),if_pos (by simp; omega),if_pos (by omega)]
   exact hk
  ·rw [if_neg (fun h => c2 h.2)] at hk
   rw [cond_no (by omega)]
   exact hk
 ·rw [if_neg (fun h => by omega)] at hk
  rw [cond_no (by omega)]
  exact hk
theorem L111b (l : List Int) (hb : Byt l) (hl : l.length <= 200) (met : List (List Int)) (hm : BytL met) (hm2 : met.length <= 255) (codes : List (Int × Int)) (hc : codes.length <= 300) (a : Nat) (out : List Int) : ∀ (k n : Nat),a + n + k = l.length -> 1 <= n -> (l.drop a).take n ∈ dicM met ->
  l111 (q111_0 l ((a + lng (dicM met) (l.drop a) k n : Nat) : Int) (metN met (l.drop a) (lng (dicM met) (l.drop a) k n)) (codes ++ [(codeM met ((l.drop a).take (lng (dicM met) (l.drop a) k n)),9)])) = some out -> l111 (q111_1 l a n met codes) = some out
 | 0,n,h,h1,hd,hk => by
  have hln := lnE l
  refine eL ((c111_1 dd l111 ..).trans ?_)
  have w1 : wi ((a : Int) + n) = ((a + n : Nat) : Int) := by rw [wi_id (by omega) (by omega)]; omega
  rw [cond_no (by rw [w1]; omega)]
  exact tail111 l hb hl met hm hm2 codes hc a n h1 (by omega) out hd hk
 | k + 1,n,h,h1,hd,hk => by
  have hln := lnE l
  have w1 : wi ((a : Int) + n) = ((a + n : Nat) : Int) := by rw [wi_id (by omega) (by omega)]; omega
  have w2 : wi (((a + n : Nat) : Int) + 1) = ((a + (n + 1) : Nat) : Int) := by rw [wi_id (by omega) (by omega)]; omega
  have hDD := D112 met ((l.drop a).take (n + 1)) hm (byt_take (byt_drop hb a) _) (by omega) (by simp; omega)
  unfold lng at hk
  refine eL ((c111_1 dd l111 ..).trans ?_)
  rw [cond_yes (by rw [w1]; omega),if_pos (by omega),if_pos (by rw [w1,w2]; omega),if_pos (by rw [w1,w2]; omega)]
  have e1 : List.drop ((a : Int)).toNat (List.take (wi (wi ((a : Int) + n) + 1)).toNat l) = (l.drop a).take (n + 1) := by
   rw [w1,w2,Int.toNat_natCast,Int.toNat_natCast,drop_take']
  by_cases hin : (l.drop a).take (n + 1) ∈ dicM met
  ·rw [if_pos hin] at hk
   obtain ⟨hD,h0⟩ := hDD.1 hin
   have hD' : r112 dd (met,List.drop ((a : Int)).toNat (List.take (wi (wi ((a : Int) + n) + 1)).toNat l)) = some (codeM met ((l.drop a).take (n + 1))) := by rw [e1]; exact hD
   rw [hD',Option.bind_some,cond_yes h0,wi_nat (by omega)]
   exact L111b l hb hl met hm hm2 codes hc a out k (n + 1) (by omega) (by omega) hin hk
  ·rw [if_neg hin] at hk
   have hD := hDD.2 hin
   have hD' : r112 dd (met,List.drop ((a : Int)).toNat (List.take (wi (wi ((a : Int) + n) + 1)).toNat l)) = some (-1) := by rw [e1]; exact hD
   rw [hD',Option.bind_some,cond_no (by omega)]
   exact tail111 l hb hl met hm hm2 codes hc a n h1 (by omega) out hd hk
theorem first_in {rest : List Int} (hb : Byt rest) (h : 0 < rest.length) {met : List (List Int)} : rest.take 1 ∈ dicM met :=
 List.mem_append.2 (.inl (one_mem (byt_take hb 1) (by simp; omega)))
theorem lng_first {rest : List Int} (hb : Byt rest) (h : 0 < rest.length) {met : List (List Int)} : lng (dicM met) rest rest.length 0 = lng (dicM met) rest (rest.length - 1) 1 := by
 obtain ⟨q,hq⟩ : ∃ q,rest.length = q + 1 := ⟨rest.length - 1,by omega⟩
 rw [hq]
 show (if rest.take (0 + 1) ∈ dicM met then lng (dicM met) rest q (0 + 1) else 0) = _
 rw [if_pos (first_in hb h)]; rfl
theorem lng_pos {rest : List Int} (hb : Byt rest) (h : 0 < rest.length) {met : List (List Int)} : 1 <= lng (dicM met) rest rest.length 0 ∧ lng (dicM met) rest rest.length 0 <= rest.length ∧ rest.take (lng (dicM met) rest rest.length 0) ∈ dicM met := by
 rw [lng_first hb h]
 obtain ⟨a,b,c,_⟩ := lng_dom (dic := dicM met) (rest := rest) (rest.length - 1) 1 (by omega) (.inr (first_in hb h))
 refine ⟨c,b,?_⟩
 rcases a with a | a
 ·have := congrArg List.length a
  rw [List.length_take,List.length_nil] at this
  omega
 ·exact a
theorem pkGo_step {f : Nat} {met : List (List Int)} {rest : List Int} (h : rest ≠ []) : pkGo (f + 1) met rest = (codeM met (rest.take (lng (dicM met) rest rest.length 0)),9) :: pkGo f (metN met rest (lng (dicM met) rest rest.length 0)) (rest.drop (lng (dicM met) rest rest.length 0)) := by
 show (if rest = [] then [] else _) = _
 rw [if_neg h]; rfl
theorem metN_len {met : List (List Int)} {rest : List Int} {n : Nat} (h : met.length <= 255) : (metN met rest n).length <= 255 := by
 unfold metN; split
 ·simp; omega
 ·exact h
theorem metN_byt {met : List (List Int)} {rest : List Int} {n : Nat} (h : BytL met) (hr : Byt rest) : BytL (metN met rest n) := by
 unfold metN; split
 ·exact bytL_snoc h (byt_take hr _)
 ·exact h
theorem L111a (l : List Int) (hb : Byt l) (hl : l.length <= 200) (out : List Int) : ∀ (f : Nat) (met : List (List Int)) (a : Nat) (codes : List (Int × Int)),l.length - a <= f -> a <= l.length -> BytL met -> met.length <= 255 -> codes.length + f <= 300 ->
  r113 dd (codes ++ pkGo f met (l.drop a) ++ [(256,9)]) = some out -> l111 (q111_0 l a met codes) = some out := by
 have hln := lnE l
 intro f
 have fin : ∀ (met : List (List Int)) (codes : List (Int × Int)),codes.length <= 300 -> r113 dd (codes ++ [(256,9)]) = some out -> l111 (q111_0 l (l.length : Nat) met codes) = some out := by
  intro met codes hc hk
  refine eL ((c111_0 dd l111 ..).trans ?_)
  rw [cond_no (by omega),if_pos (by omega)]
  show (r113 dd (codes ++ [(256,9)])).bind _ = _
  rw [hk]; rfl
 induction f with
 | zero =>
  intro met a codes hf ha _ _ hc hk
  have : a = l.length := by omega
  subst this
  exact fin met codes (by omega) (by unfold pkGo at hk; simpa using hk)
 | succ f ih =>
  intro met a codes hf ha hm hm2 hc hk
  by_cases e : a = l.length
  ·subst e
   refine fin met codes (by omega) ?_
   rw [List.drop_eq_nil_of_le (Nat.le_refl _)] at hk
   simpa [pkGo] using hk
  have hdl : (l.drop a).length = l.length - a := by simp
  have hne : l.drop a ≠ [] := fun x => by rw [x] at hdl; simp at hdl; omega
  have hrb := byt_drop hb a
  rw [pkGo_step hne] at hk
  obtain ⟨g1,g2,g3⟩ := lng_pos hrb (by omega) (met := met)
  refine eL ((c111_0 dd l111 ..).trans ?_)
  rw [cond_yes (by omega)]
  refine L111b l hb hl met hm hm2 codes (by omega) a out (l.length - a - 1) 1 (by omega) (Nat.le_refl _) (first_in hrb (by omega)) ?_
  have hlf := lng_first hrb (by omega) (met := met)
  rw [hdl] at hlf g1 g2 g3
  rw [hdl] at hk
  rw [<- hlf]
  generalize lng (dicM met) (l.drop a) (l.length - a) 0 = n at *
  refine ih _ _ _ (by omega) (by omega) (metN_byt hm hrb) (metN_len hm2) (by simp; omega) ?_
  rw [List.drop_drop] at hk
  simp only [List.append_assoc,List.cons_append,List.nil_append] at hk ⊢
  exact hk
theorem pkGo_cod : ∀ (f : Nat) (met : List (List Int)) (rest : List Int),Byt rest -> BytL met -> met.length <= 255 -> Cod9 (pkGo f met rest) ∧ (pkGo f met rest).length <= f
 | 0,_,_,_,_,_ => ⟨fun c h => absurd (show c ∈ ([] : List (Int × Int)) from h) (by simp),Nat.le_refl _⟩
 | f + 1,met,rest,hb,hm,hm2 => by
  by_cases e : rest = []
  ·subst e
   exact ⟨fun c h => absurd (show c ∈ ([] : List (Int × Int)) from h) (by simp),Nat.zero_le _⟩
  rw [pkGo_step e]
  have hpos := List.length_pos_iff.2 e
  obtain ⟨g1,g2,g3⟩ := lng_pos hb hpos (met := met)
  generalize lng (dicM met) rest rest.length 0 = n at *
  obtain ⟨i1,i2⟩ := pkGo_cod f (metN met rest n) (rest.drop n) (byt_drop hb n) (metN_byt hm hb) (metN_len hm2)
  refine ⟨fun c hc => ?_,by simp; omega⟩
  rcases List.mem_cons.1 hc with q | q
  ·subst q
   refine ⟨?_,rfl⟩
   show 0 <= codeM met (rest.take n) ∧ codeM met (rest.take n) < 512
   unfold codeM
   have hs := byt_take hb n
   have hlen : (rest.take n).length = n := by simp; omega
   split
   ·rename_i h1
    have hone : (rest.take n).length = 1 := by omega
    generalize rest.take n = s at *
    match s,hone with
    | [b],_ =>
     have := (byt_cons.1 hs).1
     show 0 <= b ∧ b < 512
     omega
   ·rename_i h1
    have hin : rest.take n ∈ met := by
     rcases List.mem_append.1 g3 with q | q
     ·obtain ⟨b,_,e'⟩ := dic1_mem.1 q
      rw [e'] at h1; exact absurd (by simp) h1
     ·exact q
    have := List.idxOf_lt_length_iff.2 hin
    omega
  ·exact i1 c q
def pakP (l : List Int) : List Int := if l.length <= 200 then bitsP (pkGo l.length [] l ++ [(256,9)]) [] 0 else []
theorem cod_end {l : List (Int × Int)} (h : Cod9 l) : Cod9 (l ++ [(256,9)]) := fun c hc => by
 rcases List.mem_append.1 hc with q | q
 ·exact h c q
 ·rw [List.mem_singleton.1 q]; exact ⟨⟨by decide,by decide⟩,rfl⟩
theorem D147 (l : List Int) (hb : Byt l) : r147 dd l = some (pakP l) := by
 refine d147 l _ hb (fun h => ?_) fun h => ?_
 ·obtain ⟨h1,h2⟩ := pkGo_cod l.length [] l hb (fun _ h => by cases h) (by simp)
  unfold pakP
  rw [if_pos h]
  exact D154 _ (cod_end h1) (by simp; omega)
 ·unfold pakP; rw [if_neg h]
theorem D111 (l : List Int) (hb : Byt l) : r111 dd l = some (pakP l) := by
 have hln := lnE l
 refine dL rfl ((b111 dd l111 ..).trans ?_); show (_ : Option (List Int)) = some _; unfold pakP
 by_cases h : l.length <= 200
 ·rw [cond_no (by omega),if_pos h]
  obtain ⟨h1,h2⟩ := pkGo_cod l.length [] l hb (fun _ h => by cases h) (by simp)
  exact L111a l hb h _ l.length [] 0 [] (by omega) (by omega) (fun _ h => by cases h) (by simp) (by simp; omega) (D113 _ (cod_end h1) (by simp; omega))
 ·rw [cond_yes (by omega),if_neg h]
theorem pakP_byt {l : List Int} (hb : Byt l) : Byt (pakP l) ∧ (pakP l).length <= 230 := by
 unfold pakP
 split
 ·obtain ⟨h1,h2⟩ := pkGo_cod l.length [] l hb (fun _ h => by cases h) (by simp)
  have := BI.nil.bits (l := pkGo l.length [] l ++ [(256,9)])
  refine ⟨this.byt,?_⟩
  rw [this.len]
  simp
  omega
 ·exact ⟨byt_nil,by simp⟩
end T
end
section
namespace T
open Go Go.E Go.Proofs
structure RasN (r : Ras) (W H : Nat) : Prop where
 w : r.1 = W
 h : r.2.1 = H
 w1 : 1 <= W
 w6 : W <= 6
 h1 : 1 <= H
 h6 : H <= 6
 len : r.2.2.length = H * W
 pix : r.2.2.all pixOk = true
theorem mulb {y H W : Nat} (hy : y < H) (hH : H <= 6) (hW : W <= 6) : y * W + W <= H * W ∧ H * W <= 36 := by
 have h1 : (y + 1) * W <= H * W := Nat.mul_le_mul_right W hy
 have h2 : H * W <= 6 * 6 := Nat.mul_le_mul hH hW
 rw [Nat.add_mul,Nat.one_mul] at h1
 omega
theorem mul36 {H W : Nat} (hH : H <= 6) (hW : W <= 6) : H * W <= 36 := Nat.mul_le_mul hH hW
theorem ras_iff {r : Ras} : rasOk r = true ↔ ∃ W H,RasN r W H := by
 obtain ⟨w,h,l⟩ := r
 unfold rasOk
 simp only [Bool.and_eq_true,inR_iff,decide_eq_true_eq]
 constructor
 ·rintro ⟨hw,hh,hl,hp⟩
  refine ⟨w.toNat,h.toNat,⟨by show w = _; omega,by show h = _; omega,by omega,by omega,by omega,by omega,?_,hp⟩⟩
  have hl : (l.length : Int) = w * h := hl
  have : ((h.toNat * w.toNat : Nat) : Int) = w * h := by
   rw [Int.natCast_mul,Int.toNat_of_nonneg (by omega),Int.toNat_of_nonneg (by omega),Int.mul_comm]
  show l.length = _
  omega
 ·rintro ⟨W,H,q⟩
  have h1 : w = W := q.w
  have h2 : h = H := q.h
  have := q.w1; have := q.w6; have := q.h1; have := q.h6
  refine ⟨by omega,by omega,?_,q.pix⟩
  show (l.length : Int) = w * h
  have h3 : l.length = H * W := q.len
  rw [h1,h2,h3,Int.natCast_mul,Int.mul_comm]
def pixB (p : Pix) : List Int := [p.1,p.2.1,p.2.2.1,p.2.2.2]
def bytesP (l : List Pix) : List Int := l.flatMap pixB
def rasB (r : Ras) : List Int := r.1 :: r.2.1 :: bytesP r.2.2
theorem pixOk_iff {p : Pix} : pixOk p = true ↔ ((0 <= p.1 ∧ p.1 <= 255) ∧ (0 <= p.2.1 ∧ p.2.1 <= 255) ∧ (0 <= p.2.2.1 ∧ p.2.2.1 <= 255) ∧ (0 <= p.2.2.2 ∧ p.2.2.2 <= 255)) := by
 unfold pixOk
 simp only [Bool.and_eq_true,inR_iff]
theorem all_get {α : Type} {l : List α} {f : α -> Bool} (h : l.all f = true) {i : Nat} {z : α} (hi : i < l.length) : f (gt l (i : Int) z) = true := by
 rw [gt_get hi]
 exact List.all_eq_true.1 h _ (List.getElem_mem hi)
theorem pix_wb {p : Pix} (h : pixOk p = true) : [wb p.1,wb p.2.1,wb p.2.2.1,wb p.2.2.2] = pixB p := by
 obtain ⟨h1,h2,h3,h4⟩ := pixOk_iff.1 h
 unfold pixB
 rw [wb_id (by omega) (by omega),wb_id (by omega) (by omega),wb_id (by omega) (by omega),wb_id (by omega) (by omega)]
theorem bytesP_cons {p : Pix} {l : List Pix} : bytesP (p :: l) = pixB p ++ bytesP l := by unfold bytesP; simp
theorem bytesP_len (l : List Pix) : (bytesP l).length = 4 * l.length := by
 induction l with
 | nil => rfl
 | cons p l ih => rw [bytesP_cons,List.length_append,ih]; simp [pixB]; omega
theorem bytesP_byt {l : List Pix} (h : l.all pixOk = true) : Byt (bytesP l) := by
 induction l with
 | nil => exact byt_nil
 | cons p l ih =>
  rw [List.all_cons,Bool.and_eq_true] at h
  obtain ⟨h1,h2,h3,h4⟩ := pixOk_iff.1 h.1
  rw [bytesP_cons]
  exact byt_app.2 ⟨byt_cons.2 ⟨by omega,byt_cons.2 ⟨by omega,byt_cons.2 ⟨by omega,byt_cons.2 ⟨by omega,byt_nil⟩⟩⟩⟩,ih h.2⟩
theorem rasB_byt {r : Ras} {W H : Nat} (h : RasN r W H) : Byt (rasB r) ∧ (rasB r).length <= 146 := by
 have := h.w1; have := h.w6; have := h.h1; have := h.h6; have e1 := h.w; have e2 := h.h
 refine ⟨byt_cons.2 ⟨by omega,byt_cons.2 ⟨by omega,bytesP_byt h.pix⟩⟩,?_⟩
 have := mul36 h.h6 h.w6
 show (bytesP r.2.2).length + 1 + 1 <= 146
 rw [bytesP_len,h.len]
 omega
theorem L109 (l : List Pix) (hl : l.length <= 36) (hp : l.all pixOk = true) (w h : Int) : ∀ (k i : Nat) (o : List Int),i + k = l.length -> o.length <= 1000 + 4 * i -> l109 (q109_0 i w h l o) = some (o ++ bytesP (l.drop i))
 | 0,i,o,hi,ho => by
  have hln := lnE l
  refine eL ((c109_0 dd l109 ..).trans ?_)
  rw [cond_no (by omega),List.drop_eq_nil_of_le (by omega)]
  show some o = some (o ++ [])
  rw [List.append_nil]
 | k + 1,i,o,hi,ho => by
  have hln := lnE l
  have hlt : i < l.length := by omega
  refine eL ((c109_0 dd l109 ..).trans ?_)
  rw [cond_yes (by omega),if_pos (by omega),if_pos (by omega),if_pos (by omega),pix_wb (all_get hp hlt),wi_nat (by omega),drop_get (z := (0,0,0,0)) hlt,bytesP_cons, <- List.append_assoc]
  exact L109 l hl hp w h k (i + 1) _ (by omega) (by show (o ++ pixB _).length <= _; simp [pixB]; omega)
theorem D109 {r : Ras} {W H : Nat} (h : RasN r W H) : r109 dd r = some (rasB r) := by
 obtain ⟨w,hh,l⟩ := r
 have e1 : w = W := h.w; have e2 : hh = H := h.h
 have := h.w1; have := h.w6; have := h.h1; have := h.h6
 have := mul36 h.h6 h.w6
 have hl := h.len
 refine dL rfl ((b109 dd l109 ..).trans ?_)
 rw [wb_id (by omega) (by omega),wb_id (by omega) (by omega)]
 exact L109 l (by show l.length <= 36; dsimp only at hl; omega) h.pix w hh l.length 0 [w,hh] (by omega) (by simp)
theorem D137 (o : List Int) (p : Pix) (ho : o.length <= 100000) (hp : pixOk p = true) : r137 dd (o,p) = some (o ++ pixB p) := by
 obtain ⟨a,b,c,e⟩ := p
 refine dL rfl ((b137 dd l137 ..).trans ?_); show (_ : Option (List Int)) = some _
 rw [if_pos (by omega)]
 show some (o ++ [wb a,wb b,wb c,wb e]) = _
 rw [pix_wb hp]
def rowP (l : List Pix) (W y : Nat) : List Pix := (l.drop (y * W)).take W
theorem row_slice {l : List Pix} {W y : Nat} : (l.take ((y + 1) * W)).drop (y * W) = rowP l W y := by
 unfold rowP
 rw [Nat.add_mul,Nat.one_mul,drop_take']
theorem nmul {y W : Nat} : ((y : Int)) * (W : Int) = ((y * W : Nat) : Int) := (Int.natCast_mul y W).symm
theorem bytesP_app {l m : List Pix} : bytesP (l ++ m) = bytesP l ++ bytesP m := by unfold bytesP; simp
theorem drop_row {l : List Pix} {W y : Nat} : l.drop (y * W) = rowP l W y ++ l.drop ((y + 1) * W) := by
 unfold rowP
 rw [Nat.add_mul,Nat.one_mul, <- List.drop_drop,List.take_append_drop]
theorem all_take {l : List Pix} {f : Pix -> Bool} (h : l.all f = true) (n : Nat) : (l.take n).all f = true :=
 List.all_eq_true.2 fun x hx => List.all_eq_true.1 h x (List.mem_of_mem_take hx)
theorem all_drop {l : List Pix} {f : Pix -> Bool} (h : l.all f = true) (n : Nat) : (l.drop n).all f = true :=
 List.all_eq_true.2 fun x hx => List.all_eq_true.1 h x (List.mem_of_mem_drop hx)
theorem L134b {x26 x27 : Int} (row : List Pix) (hr : row.length <= 36) (hp : row.all pixOk = true) (w h : Int) (l : List Pix) (out : List Int) : ∀ (k j : Nat) (o : List Int),j + k = row.length -> o.length <= 10000 + 4 * j ->
  l134 (q134_0 x26 (wi (x27 + 1)) w h l (o ++ bytesP (row.drop j))) = some out -> l134 (q134_1 x26 x27 row (ln row) j w h l o) = some out
 | 0,j,o,hj,ho,hk => by
  have hln := lnE row
  refine eL ((c134_1 dd l134 ..).trans ?_)
  rw [List.drop_eq_nil_of_le (by omega)] at hk
  rw [cond_no (by omega)]
  have : o ++ bytesP [] = o := List.append_nil o
  rw [this] at hk
  exact hk
 | k + 1,j,o,hj,ho,hk => by
  have hln := lnE row
  have hlt : j < row.length := by omega
  refine eL ((c134_1 dd l134 ..).trans ?_)
  rw [cond_yes (by omega),if_pos (by omega),if_pos (by omega),D137 o _ (by omega) (all_get hp hlt),Option.bind_some,wi_nat (by omega)]
  rw [drop_get (z := (0,0,0,0)) hlt,bytesP_cons, <- List.append_assoc] at hk
  exact L134b row hr hp w h l out k (j + 1) _ (by omega) (by simp [pixB]; omega) hk
theorem L134a {l : List Pix} {W H : Nat} (hn : RasN ((W : Int),(H : Int),l) W H) : ∀ (k y : Nat) (o : List Int),y + k = H -> o.length <= 1000 + 200 * y -> l134 (q134_0 H y W H l o) = some (o ++ bytesP (l.drop (y * W)))
 | 0,y,o,hy,ho => by
  refine eL ((c134_0 dd l134 ..).trans ?_)
  have : y = H := by omega
  subst this
  have hl : l.length = y * W := hn.len
  rw [cond_no (by omega),List.drop_eq_nil_of_le (by omega)]
  show some o = some (o ++ [])
  rw [List.append_nil]
 | k + 1,y,o,hy,ho => by
  have hm := mulb (show y < H by omega) hn.h6 hn.w6
  have hl : l.length = H * W := hn.len
  have hln := lnE l
  have e1 : wi ((y : Int) * W) = ((y * W : Nat) : Int) := by rw [nmul]; exact wi_id (by omega) (by omega)
  have e2 : wi (wi ((y : Int) + 1) * W) = (((y + 1) * W : Nat) : Int) := by
   have := hn.h6
   rw [wi_nat (by omega),nmul]
   rw [Nat.add_mul,Nat.one_mul]
   exact wi_id (by omega) (by omega)
  have e3 : (y + 1) * W = y * W + W := by rw [Nat.add_mul,Nat.one_mul]
  refine eL ((c134_0 dd l134 ..).trans ?_)
  rw [cond_yes (by omega),e1,e2,if_pos (by omega),if_pos (by omega),if_pos (by omega),Int.toNat_natCast,Int.toNat_natCast,row_slice]
  have hrl : (rowP l W y).length = W := by unfold rowP; simp; omega
  have hw6 := hn.w6
  refine L134b (rowP l W y) (by omega) (all_take (all_drop hn.pix _) _) W H l _ W 0 o (by omega) (by have := hn.h6; omega) ?_
  have hh6 := hn.h6
  rw [wi_nat (by omega),List.drop_zero,drop_row (l := l) (y := y),bytesP_app, <- List.append_assoc]
  exact L134a hn k (y + 1) _ (by omega) (by rw [List.length_append,bytesP_len,hrl]; omega)
theorem D134 {r : Ras} {W H : Nat} (hn : RasN r W H) : r134 dd r = some (rasB r) := by
 have ho := D39 r (by have := mul36 hn.h6 hn.w6; have := hn.len; show r.2.2.length < _; omega)
 rw [ras_iff.2 ⟨W,H,hn⟩] at ho
 obtain ⟨w,h,l⟩ := r
 have e1 : w = W := hn.w; have e2 : h = H := hn.h
 subst e1 e2
 have := hn.w1; have := hn.w6; have := hn.h1; have := hn.h6
 have := mul36 hn.h6 hn.w6
 have hl : l.length = H * W := hn.len
 have hln := lnE l
 refine dL rfl ((b134 dd l134 ..).trans ?_); show (_ : Option (List Int)) = some _
 rw [ho,Option.bind_some]
 show (if 0 <= wi (2 + wi (4 * ln l)) then if wi (2 + wi (4 * ln l)) * ((1 : Nat) : Int) <= 140737488355328 then l134 (q134_0 H 0 W H l [wb W,wb H]) else none else none) = _
 rw [wi_id (x := 4 * ln l) (by omega) (by omega),wi_id (x := 2 + 4 * ln l) (by omega) (by omega),if_pos (by omega),if_pos (by omega),wb_id (by omega) (by omega),wb_id (by omega) (by omega)]
 have := L134a hn H 0 [(W : Int),(H : Int)] (by omega) (by simp)
 rw [Nat.zero_mul,List.drop_zero] at this
 exact this
end T
end
section
namespace T
open Go Go.E Go.Proofs
abbrev z4 : Pix := (0,0,0,0)
def genL (N : Nat) (g : Nat -> Pix) : List Pix := (List.range N).map g
def fillL (N n : Nat) (g : Nat -> Pix) : List Pix := genL n g ++ List.replicate (N - n) z4
theorem genL_len {N : Nat} {g : Nat -> Pix} : (genL N g).length = N := by unfold genL; simp
theorem fillL_len {N n : Nat} {g : Nat -> Pix} (h : n <= N) : (fillL N n g).length = N := by unfold fillL; simp [genL_len]; omega
theorem genL_succ {n : Nat} {g : Nat -> Pix} : genL (n + 1) g = genL n g ++ [g n] := by unfold genL; rw [List.range_succ,List.map_append]; rfl
theorem fill_set {N n : Nat} {g : Nat -> Pix} (h : n < N) : (fillL N n g).set n (g n) = fillL N (n + 1) g := by
 unfold fillL
 rw [List.set_append_right _ _ (by rw [genL_len]; omega),genL_len,Nat.sub_self,genL_succ]
 obtain ⟨m,hm⟩ : ∃ m,N - n = m + 1 := ⟨N - n - 1,by omega⟩
 rw [hm,show N - (n + 1) = m by omega,List.replicate_succ,List.append_assoc]
 rfl
theorem fill_0 {N : Nat} {g : Nat -> Pix} : fillL N 0 g = List.replicate N z4 := by unfold fillL genL; simp
theorem fill_N {N : Nat} {g : Nat -> Pix} : fillL N N g = genL N g := by unfold fillL; simp
theorem divmod {W x y : Nat} (hx : x < W) : (y * W + x) / W = y ∧ (y * W + x) % W = x := by
 have hW : 0 < W := by omega
 constructor
 ·rw [Nat.mul_comm,Nat.mul_add_div hW,Nat.div_eq_of_lt hx,Nat.add_zero]
 ·rw [Nat.mul_comm,Nat.mul_add_mod,Nat.mod_eq_of_lt hx]
theorem succ_mul' {y W : Nat} : (y + 1) * W = y * W + W := by rw [Nat.add_mul,Nat.one_mul]
theorem row_wi {y W H : Nat} (hy : y < H) (hH : H <= 6) (hW : W <= 6) : wi ((y : Int) * W) = ((y * W : Nat) : Int) ∧ wi (wi ((y : Int) + 1) * W) = (((y + 1) * W : Nat) : Int) := by
 have hm := mulb hy hH hW
 refine ⟨by rw [nmul]; exact wi_id (by omega) (by omega),?_⟩
 rw [wi_nat (by omega),nmul,succ_mul']
 exact wi_id (by omega) (by omega)
theorem D43 {l : List Pix} {W H x y : Nat} (hl : l.length = H * W) (hH : H <= 6) (hW : W <= 6) (hx : x < W) (hy : y < H) (q : Int) : r43 dd (((W : Int),q,l),(x : Int),(y : Int)) = some (gt l ((y * W + x : Nat) : Int) z4) := by
 obtain ⟨w1,w2⟩ := row_wi hy hH hW
 have hm := mulb hy hH hW
 have hln := lnE l
 have e3 := succ_mul' (y := y) (W := W)
 refine dL rfl ((b43 dd l43 ..).trans ?_)
 rw [w1,w2,if_pos (by omega),if_pos (by omega),if_pos (by omega),Int.toNat_natCast,Int.toNat_natCast,row_slice]
 have hrl : (rowP l W y).length = W := by unfold rowP; simp; omega
 have hrn := lnE (rowP l W y)
 rw [if_pos (by omega),if_pos (by omega),gt_get (by omega),gt_get (by omega)]
 congr 1
 unfold rowP
 simp
def flipG (W H : Nat) (l : List Pix) (i : Nat) : Pix := gt l (((H - 1 - i / W) * W + i % W : Nat) : Int) z4
theorem L140b {l : List Pix} {W H : Nat} (hl : l.length = H * W) (hH : H <= 6) (hW : W <= 6) (y : Nat) (hy : y < H) (a b c e : Int) (out : Ras) : ∀ (k x : Nat),x + k = W ->
  l140 (q140_0 W H H ((y + 1 : Nat) : Int) W H l a b (fillL (H * W) ((y + 1) * W) (flipG W H l)) c e) = some out ->
  l140 (q140_1 W H y ((y * W : Nat) : Int) (((y + 1) * W : Nat) : Int) H y W x W H l a b (fillL (H * W) (y * W + x) (flipG W H l)) c e) = some out
 | 0,x,h,hk => by
  refine eL ((c140_1 dd l140 ..).trans ?_)
  have : x = W := by omega
  subst this
  rw [cond_no (by omega),wi_nat (by omega), <- succ_mul']
  exact hk
 | k + 1,x,h,hk => by
  have hm := mulb hy hH hW
  have e3 := succ_mul' (y := y) (W := W)
  have w1 : wi (wi ((H : Int) - 1) - y) = ((H - 1 - y : Nat) : Int) := by
   rw [wi_id (x := (H : Int) - 1) (by omega) (by omega),wi_id (by omega) (by omega)]; omega
  refine eL ((c140_1 dd l140 ..).trans ?_)
  rw [cond_yes (by omega),w1,D43 hl hH hW (show x < W by omega) (show H - 1 - y < H by omega),Option.bind_some,if_pos (by omega),if_pos (by omega),wi_nat (by omega)]
  have ei : (((y * W : Nat) : Int) + (x : Int)).toNat = y * W + x := by omega
  have eg : gt l (((H - 1 - y) * W + x : Nat) : Int) z4 = flipG W H l (y * W + x) := by
   unfold flipG
   obtain ⟨d1,d2⟩ := divmod (y := y) (show x < W by omega)
   rw [d1,d2]
  rw [ei,eg,fill_set (by omega)]
  exact L140b hl hH hW y hy a b c e out k (x + 1) (by omega) hk
theorem L140a {l : List Pix} {W H : Nat} (hl : l.length = H * W) (hH : H <= 6) (hW : W <= 6) (a b c e : Int) : ∀ (k y : Nat),y + k = H ->
  l140 (q140_0 W H H y W H l a b (fillL (H * W) (y * W) (flipG W H l)) c e) = some ((W : Int),(H : Int),genL (H * W) (flipG W H l))
 | 0,y,h => by
  refine eL ((c140_0 dd l140 ..).trans ?_); show (_ : Option Rs) = some _
  have : y = H := by omega
  subst this
  rw [cond_no (by omega),fill_N]
 | k + 1,y,h => by
  have hy : y < H := by omega
  obtain ⟨w1,w2⟩ := row_wi hy hH hW
  have hm := mulb hy hH hW
  have e3 := succ_mul' (y := y) (W := W)
  have hfl := fillL_len (N := H * W) (n := y * W) (g := flipG W H l) (by omega)
  have hln := lnE (fillL (H * W) (y * W) (flipG W H l))
  refine eL ((c140_0 dd l140 ..).trans ?_); show (_ : Option Rs) = some _
  rw [cond_yes (by omega),w1,w2,if_pos (by omega),if_pos (by omega),if_pos (by omega),Int.toNat_natCast,Int.toNat_natCast,row_slice]
  have hrl : ln (rowP (fillL (H * W) (y * W) (flipG W H l)) W y) = W := by
   rw [lnE]; unfold rowP; simp; omega
  rw [hrl]
  exact L140b hl hH hW y hy a b c e _ W 0 (by omega) (L140a hl hH hW a b c e k (y + 1) (by omega))
theorem D140 {r : Ras} {W H : Nat} (hn : RasN r W H) : r140 dd r = some ((W : Int),(H : Int),genL (H * W) (flipG W H r.2.2)) := by
 obtain ⟨w,h,l⟩ := r
 have e1 : w = W := hn.w; have e2 : h = H := hn.h
 subst e1 e2
 have := hn.w1; have h6 := hn.w6; have := hn.h1; have k6 := hn.h6
 have hm := mul36 k6 h6
 have hw : wi ((W : Int) * H) = ((H * W : Nat) : Int) := by rw [nmul,Nat.mul_comm]; exact wi_id (by omega) (by omega)
 refine dL rfl ((b140 dd l140 ..).trans ?_)
 rw [hw,if_pos (by omega),if_pos (by omega),if_pos (by omega),Int.toNat_natCast]
 have := L140a hn.len k6 h6 0 0 0 0 H 0 (by omega)
 rw [Nat.zero_mul,fill_0] at this
 exact this
theorem row_map {l : List Pix} {W y : Nat} (h : y * W + W <= l.length) : rowP l W y = (List.range W).map fun x => gt l ((y * W + x : Nat) : Int) z4 := by
 apply List.ext_getElem
 ·unfold rowP; simp; omega
 ·intro i h1 h2
  have hi : i < W := by simpa using h2
  rw [List.getElem_map,List.getElem_range,gt_get (by omega)]
  simp only [rowP,List.getElem_take,List.getElem_drop]
theorem gen_row {W j : Nat} {g : Nat -> Pix} : genL ((j + 1) * W) g = genL (j * W) g ++ (List.range W).map fun x => g (j * W + x) := by
 unfold genL
 rw [succ_mul',List.range_add,List.map_append,List.map_map]; rfl
theorem flip_row {l : List Pix} {W H j : Nat} (hl : l.length = H * W) (hj : j < H) (hH : H <= 6) (hW : W <= 6) : genL (j * W) (flipG W H l) ++ rowP l W (H - 1 - j) = genL ((j + 1) * W) (flipG W H l) := by
 rw [gen_row,row_map (by have := mulb (show H - 1 - j < H by omega) hH hW; omega)]
 congr 1
 apply List.map_congr_left
 intro x hx
 have hx : x < W := by simpa using hx
 obtain ⟨d1,d2⟩ := divmod (y := j) hx
 unfold flipG
 rw [d1,d2]
theorem L78 {l : List Pix} {W H : Nat} (hl : l.length = H * W) (hH : H <= 6) (hW : W <= 6) (a b : Int) : ∀ (k j : Nat),j + k = H ->
  l78 (q78_0 ((k : Int) - 1) W H l a b W H (genL (j * W) (flipG W H l))) = some ((W : Int),(H : Int),genL (H * W) (flipG W H l))
 | 0,j,h => by
  refine eL ((c78_0 dd l78 ..).trans ?_); show (_ : Option Rs) = some _
  have : j = H := by omega
  subst this
  rw [cond_no (by omega)]
 | k + 1,j,h => by
  have hk : k < H := by omega
  obtain ⟨w1,w2⟩ := row_wi hk hH hW
  have hm := mulb hk hH hW
  have e3 := succ_mul' (y := k) (W := W)
  have hln := lnE l
  refine eL ((c78_0 dd l78 ..).trans ?_); show (_ : Option Rs) = some _
  rw [show ((k + 1 : Nat) : Int) - 1 = (k : Int) by omega,cond_yes (by omega),w1,w2,if_pos (by omega),if_pos (by omega),if_pos (by omega),Int.toNat_natCast,Int.toNat_natCast,row_slice]
  have hjm := mulb (show j < H by omega) hH hW
  have hrl : (rowP l W k).length = W := by unfold rowP; simp; omega
  rw [if_pos (by rw [genL_len,hrl]; omega),wi_id (by omega) (by omega)]
  have : (genL (j * W) (flipG W H l)).append (rowP l W k) = genL ((j + 1) * W) (flipG W H l) := by
   have := flip_row hl (show j < H by omega) hH hW
   rw [show H - 1 - j = k by omega] at this
   exact this
  rw [this]
  exact L78 hl hH hW a b k (j + 1) (by omega)
theorem D78 {r : Ras} {W H : Nat} (hn : RasN r W H) : r78 dd r = some ((W : Int),(H : Int),genL (H * W) (flipG W H r.2.2)) := by
 obtain ⟨w,h,l⟩ := r
 have e1 : w = W := hn.w; have e2 : h = H := hn.h
 subst e1 e2
 have h6 := hn.w6; have k6 := hn.h6
 refine dL rfl ((b78 dd l78 ..).trans ?_)
 rw [wi_id (by omega) (by omega)]
 have := L78 hn.len k6 h6 0 0 H 0 (by omega)
 rw [Nat.zero_mul] at this
 exact this
theorem flip_N {r : Ras} {W H : Nat} (hn : RasN r W H) : RasN ((W : Int),(H : Int),genL (H * W) (flipG W H r.2.2)) W H := by
 refine ⟨rfl,rfl,hn.w1,hn.w6,hn.h1,hn.h6,genL_len,?_⟩
 refine List.all_eq_true.2 fun x hx => ?_
 unfold genL at hx
 obtain ⟨i,hi,rfl⟩ := List.mem_map.1 hx
 have hi : i < H * W := by simpa using hi
 have hw := hn.w1
 have h1 : i / W < H := Nat.div_lt_of_lt_mul (by rw [Nat.mul_comm]; exact hi)
 have h2 : i % W < W := Nat.mod_lt _ (by omega)
 unfold flipG
 generalize i / W = q at *
 generalize i % W = t at *
 have hm := mulb (show H - 1 - q < H by omega) hn.h6 hn.w6
 exact all_get hn.pix (by rw [hn.len]; omega)
end T
end
