/- Plain laws: files written are read; the laws. -/
import Derived.Test.YtmceeioelenigaaGreatGc
section
namespace T
open Go Go.E Go.Proofs
theorem KW : ∀ {l : List eF} {i : Nat} (h : i < l.length),(jw l).getD (4 * i) 0 = l[i].1 ∧ (jw l).getD (4 * i + 1) 0 = l[i].2.1 ∧ (jw l).getD (4 * i + 2) 0 = l[i].2.2.1 ∧ (jw l).getD (4 * i + 3) 0 = l[i].2.2.2
 | p :: l,0,h => by rw [og]; exact ⟨rfl,rfl,rfl,rfl⟩
 | p :: l,i + 1,h => by
  have ih := KW (l := l) (i := i) (by simpa using h)
  rw [og]
  exact ih
theorem adl {w h : Int} {l : List eF} {i : Nat} (hi : i < l.length) : NI (w :: h :: jw l) i = l[i] := by
 obtain ⟨h1,h2,h3,h4⟩ := KW hi
 have g : ∀ k : Nat,gt (w :: h :: jw l) ((2 + k : Nat) : Int) 0 = (jw l).getD k 0 := fun k => by
  show (w :: h :: jw l).getD ((2 + k : Nat) : Int).toNat 0 = _
  rw [Int.toNat_natCast,Nat.add_comm 2 k]
  rfl
 unfold NI
 rw [g (4 * i),show 2 + 4 * i + 1 = 2 + (4 * i + 1) by omega,g,show 2 + 4 * i + 2 = 2 + (4 * i + 2) by omega,g,show 2 + 4 * i + 3 = 2 + (4 * i + 3) by omega,g,h1,h2,h3,h4]
theorem Y9 {l : List eF} {N : Nat} {g : Nat -> eF} (hl : l.length = N) (hg : ∀ i (h : i < l.length),g i = l[i]) : fD N g = l := by
 apply List.ext_getElem
 ·rw [jQ,hl]
 ·intro i h1 h2
  have e : (fD N g)[i] = g i := by simp only [fD,List.getElem_map,List.getElem_range]
  rw [e]; exact hg i h2
theorem BH {r : jc} {W H : Nat} (hn : iq r W H) : jG (wU r) = (r,true) := by
 obtain ⟨w,h,l⟩ := r
 have e1 : w = W := hn.w; have e2 : h = H := hn.h
 subst e1 e2
 have := hn.w1; have := hn.w6; have := hn.h1; have := hn.h6
 have hl : l.length = H * W := hn.len
 have hlen : (wU ((W : Int),(H : Int),l)).length = 2 + 4 * (H * W) := by
  show (jw l).length + 1 + 1 = _
  rw [BA,hl]; omega
 have ok : zW (wU ((W : Int),(H : Int),l)) = true := by
  unfold zW
  refine decide_eq_true ⟨by omega,⟨?_,?_⟩,⟨?_,?_⟩,?_⟩
  ·show (1 : Int) <= W; omega
  ·show (W : Int) <= 6; omega
  ·show (1 : Int) <= H; omega
  ·show (H : Int) <= 6; omega
  ·rw [hlen]
   show ((2 + 4 * (H * W) : Nat) : Int) = 2 + 4 * (W : Int) * (H : Int)
   rw [Int.mul_assoc,wV,Nat.mul_comm W H]; omega
 unfold jG
 rw [if_pos ok]
 have : fD (H * W) (NI (wU ((W : Int),(H : Int),l))) = l := Y9 hl fun i hi => adl hi
 show (((W : Int),(H : Int),fD ((H : Int).toNat * (W : Int).toNat) (NI (wU ((W : Int),(H : Int),l)))),true) = _
 rw [Int.toNat_natCast,Int.toNat_natCast,this]
theorem aau {N i : Nat} {g : Nat -> eF} (h : i < N) : gt (fD N g) (i : Int) z4 = g i := by
 rw [iW (by rw [jQ]; exact h)]
 simp only [fD,List.getElem_map,List.getElem_range]
theorem flip_flip {r : jc} {W H : Nat} (hn : iq r W H) : y7 (y7 r) = r := by
 rw [tX (Dt hn),tX hn]
 obtain ⟨w,h,l⟩ := r
 have e1 : w = W := hn.w; have e2 : h = H := hn.h
 subst e1 e2
 have hl : l.length = H * W := hn.len
 have hw := hn.w1
 have : fD (H * W) (jU W H (fD (H * W) (jU W H l))) = l := Y9 hl fun i hi => by
  have h1 : i / W < H := Nat.div_lt_of_lt_mul (by rw [Nat.mul_comm]; omega)
  have h2 : i % W < W := Nat.mod_lt _ (by omega)
  have h3 : i / W * W + i % W = i := by rw [Nat.mul_comm]; exact Nat.div_add_mod i W
  show gt (fD (H * W) (jU W H l)) (((H - 1 - i / W) * W + i % W : Nat) : Int) z4 = _
  generalize i / W = q at *
  generalize i % W = t at *
  have hm := l9 (show H - 1 - q < H by omega) hn.h6 hn.w6
  rw [aau (by omega)]
  unfold jU
  obtain ⟨d1,d2⟩ := Nr (y := H - 1 - q) h2
  rw [d1,d2,show H - 1 - (H - 1 - q) = q by omega,h3,iW hi]
 show ((W : Int),(H : Int),fD (H * W) (jU W H (fD (H * W) (jU W H l)))) = _
 rw [this]
theorem Qd {l : List eF} {s : Nat} : ∀ {k e i : Nat},e <= i -> i < tV l s k e -> gt l (i : Int) z4 = gt l (s : Int) z4
 | 0,e,i,h1,h2 => by unfold tV at h2; omega
 | k + 1,e,i,h1,h2 => by
  unfold tV at h2
  split at h2
  ·rename_i he
   by_cases hi : i = e
   ·rw [hi]; exact he
   ·exact Qd (by omega) h2
  ·omega
theorem Za {l : List eF} {s e : Nat} (hs : s < e) (he : e <= l.length) (h : ∀ i,s <= i -> i < e -> gt l (i : Int) z4 = gt l (s : Int) z4) : l.take s ++ List.replicate (e - s) (gt l (s : Int) z4) = l.take e := by
 apply List.ext_getElem
 ·rw [List.length_append,List.length_take,List.length_replicate,List.length_take]; omega
 ·intro i h1 h2
  have hi : i < e := by rw [List.length_take] at h2; omega
  rw [List.getElem_take]
  by_cases c : i < s
  ·rw [List.getElem_append_left (by rw [List.length_take]; omega),List.getElem_take]
  ·rw [List.getElem_append_right (by rw [List.length_take]; omega),List.getElem_replicate, <- h i (by omega) hi,iW (by omega)]
theorem Uu {l : List eF} (hl : l.length <= 36) : ∀ (g s f : Nat),l.length - s <= g -> s <= l.length -> (fK l g s).length <= f -> oV l.length f (fK l g s) (l.take s) = some l
 | 0,s,f,hg,hs,hf => by
  have e : l.take s = l := List.take_of_length_le (by omega)
  show oV l.length f [] _ = _
  rw [e]
  cases f with
  | zero => unfold oV; rw [if_pos rfl]
  | succ f => unfold oV; rw [if_pos rfl,if_pos rfl]
 | g + 1,s,f,hg,hs,hf => by
  by_cases c : s < l.length
  ·obtain ⟨k1,k2⟩ := Dq l s (l.length - (s + 1)) (s + 1)
   have same : ∀ i,s <= i -> i < tV l s (l.length - (s + 1)) (s + 1) -> gt l (i : Int) z4 = gt l (s : Int) z4 := fun i h1 h2 => by
    by_cases hi : i = s
    ·rw [hi]
    ·exact Qd (by omega) h2
   unfold fK at hf ⊢
   rw [if_pos c] at hf ⊢
   generalize tV l s (l.length - (s + 1)) (s + 1) = e at *
   cases f with
   | zero => simp at hf
   | succ f =>
    have hf : (fK l g e).length <= f := by simp [qM] at hf; omega
    have ht : (l.take s).length = s := by rw [List.length_take]; omega
    unfold oV
    rw [if_neg (by simp)]
    have g0 : (((e : Int) - s) :: (qM (gt l (s : Int) z4) ++ fK l g e)).getD 0 0 = (e : Int) - s := rfl
    have g1 : Um (((e : Int) - s) :: (qM (gt l (s : Int) z4) ++ fK l g e)) = gt l (s : Int) z4 := rfl
    have g2 : (((e : Int) - s) :: (qM (gt l (s : Int) z4) ++ fK l g e)).drop 5 = fK l g e := rfl
    rw [g0,g1,g2,ht,if_neg (by omega),show ((e : Int) - s).toNat = e - s by omega,Za (by omega) (by omega) same]
    exact Uu hl g e f (by omega) (by omega) hf
  ·have e : l.take s = l := List.take_of_length_le (by omega)
   unfold fK
   rw [if_neg c,e]
   cases f with
   | zero => unfold oV; rw [if_pos rfl]
   | succ f => unfold oV; rw [if_pos rfl,if_pos rfl]
theorem Qe {l : List eF} : ∀ (g s : Nat),(fK l g s).length % 5 = 0
 | 0,s => rfl
 | g + 1,s => by
  unfold fK
  split
  ·have := Qe (l := l) g (tV l s (l.length - (s + 1)) (s + 1))
   simp [qM]; omega
  ·rfl
theorem Qg {r : jc} {W H : Nat} (hn : iq r W H) : o9 (Ji r) = (r,true) := by
 obtain ⟨w,h,l⟩ := r
 have e1 : w = W := hn.w; have e2 : h = H := hn.h
 subst e1 e2
 have := hn.w1; have := hn.w6; have := hn.h1; have := hn.h6
 have hl : l.length = H * W := hn.len
 have hm := jJ hn.h6 hn.w6
 have hmod := Qe (l := l) l.length 0
 have ok : Am (Ji ((W : Int),(H : Int),l)) = true := by
  unfold Am
  refine decide_eq_true ⟨?_,⟨?_,?_⟩,⟨?_,?_⟩,?_⟩
  ·show 2 <= (fK l l.length 0).length + 1 + 1; omega
  ·show (1 : Int) <= W; omega
  ·show (W : Int) <= 6; omega
  ·show (1 : Int) <= H; omega
  ·show (H : Int) <= 6; omega
  ·show ((fK l l.length 0).length + 1 + 1 - 2) % 5 = 0; omega
 have hr := Uu (l := l) (by omega) l.length 0 ((fK l l.length 0).length + 1 + 1) (by omega) (Nat.zero_le _) (by omega)
 unfold o9
 rw [if_pos ok]
 show (match oV ((H : Int).toNat * (W : Int).toNat) ((fK l l.length 0).length + 1 + 1) (fK l l.length 0) [] with
  | some l => (((W : Int),(H : Int),l),true)
  | none => ((0,0,[]),false)) = _
 rw [Int.toNat_natCast,Int.toNat_natCast, <- hl]
 have hr : oV l.length ((fK l l.length 0).length + 1 + 1) (fK l l.length 0) [] = some l := hr
 rw [hr]
end T
end
section
namespace T
open Go Go.E Go.Proofs
def Vw : List Int -> List Int -> List (List Int) -> List Int -> List Int × Bool
 | [],_,_,_ => ([],false)
 | c :: cs,last,met,out => if c = 256 then (if cs = [] then (out,true) else ([],false)) else
   match FN met last c with
   | none => ([],false)
   | some b => if out.length + b.length <= 200 then Vw cs b (rO met last b) (out ++ b) else ([],false)
def ahead (met : List (List Int)) (last rest : List Int) : List (List Int) := if 0 < last.length ∧ met.length < 255 then met ++ [last ++ [jo rest]] else met
theorem head_take {l : List Int} {n : Nat} (h : 1 <= n) : jo (l.take n) = jo l := by
 unfold jo
 cases l with
 | nil => rw [List.take_nil]
 | cons x l =>
  cases n with
  | zero => omega
  | succ n => rfl
theorem Vx {met : List (List Int)} {last rest seg : List Int} (hs : seg ∈ jC (ahead met last rest)) (hh : jo seg = jo rest) (hne : 1 <= seg.length) (h2 : ∀ s ∈ ahead met last rest,2 <= s.length) :
  iE (ahead met last rest) seg ≠ 256 ∧ FN met last (iE (ahead met last rest) seg) = some seg := by
 unfold iE
 by_cases h1 : seg.length <= 1
 ·rw [if_pos h1]
  match seg,hne with
  | [x],_ =>
   rw [if_neg (by simp)]
   have hx : 0 <= x ∧ x < 256 := by
    rcases List.mem_append.1 hs with q | q
    ·obtain ⟨b,hb,e⟩ := qE.1 q
     cases e; omega
    ·exact absurd (h2 _ q) (by simp)
   show x ≠ 256 ∧ FN met last x = some [x]
   refine ⟨by omega,?_⟩
   unfold FN
   rw [if_pos (by omega)]
  | x :: y :: r,_ => simp at h1
 ·rw [if_neg h1]
  have hm : seg ∈ ahead met last rest := by
   rcases List.mem_append.1 hs with q | q
   ·obtain ⟨b,hb,e⟩ := qE.1 q
    rw [e] at h1; simp at h1
   ·exact q
  have hi := List.idxOf_lt_length_of_mem hm
  have hg : (ahead met last rest)[(ahead met last rest).idxOf seg] = seg := List.getElem_idxOf hi
  generalize (ahead met last rest).idxOf seg = i at *
  refine ⟨by omega,?_⟩
  unfold FN
  rw [if_neg (by omega),show (257 + (i : Int)) - 257 = (i : Int) by omega]
  by_cases c : i < met.length
  ·rw [if_pos (by omega),iW c]
   have : (ahead met last rest)[i] = met[i] := by
    unfold ahead at hi ⊢
    split
    ·rw [List.getElem_append_left c]
    ·rfl
   rw [<- this,hg]
  ·rw [if_neg (by omega)]
   unfold ahead at hi hg
   split at hi
   ·rename_i hc
    rw [List.length_append,List.length_singleton] at hi
    have e : i = met.length := by omega
    subst e
    rw [if_pos ⟨rfl,hc⟩]
    have hg' : last ++ [jo rest] = seg := by
     simp only [if_pos hc] at hg
     rw [List.getElem_append_right (Nat.le_refl _)] at hg
     simpa using hg
    have hl : jo seg = jo last := by
     rw [<- hg']
     unfold jo
     cases last with
     | nil => exact absurd hc.1 (by simp)
     | cons x l => rfl
    rw [<- hg', <- hh,hl]
   ·omega
theorem Jo : ∀ (f : Nat) (rest last : List Int) (met : List (List Int)) (out : List Int),rest.length <= f -> gQ rest -> out.length + rest.length <= 200 -> (∀ s ∈ met,2 <= s.length) ->
  Vw ((qL f (ahead met last rest) rest).map (·.1) ++ [256]) last met out = (out ++ rest,true)
 | 0,rest,last,met,out,hf,hb,ho,h2 => by
  have : rest = [] := List.length_eq_zero_iff.1 (by omega)
  subst this
  show Vw [256] last met out = _
  unfold Vw
  rw [if_pos rfl,if_pos rfl,List.append_nil]
 | f + 1,rest,last,met,out,hf,hb,ho,h2 => by
  by_cases e : rest = []
  ·subst e
   show Vw [256] last met out = _
   unfold Vw
   rw [if_pos rfl,if_pos rfl,List.append_nil]
  have hpos := List.length_pos_iff.2 e
  have ha2 : ∀ s ∈ ahead met last rest,2 <= s.length := fun s hs => by
   unfold ahead at hs
   split at hs
   ·rename_i hc
    rcases List.mem_append.1 hs with q | q
    ·exact h2 s q
    ·rw [List.mem_singleton.1 q,List.length_append,List.length_singleton]; omega
   ·exact h2 s hs
  obtain ⟨n1,n2,n3⟩ := Np hb hpos (met := ahead met last rest)
  rw [Ez e]
  generalize xI (jC (ahead met last rest)) rest rest.length 0 = n at *
  have hseg : (rest.take n).length = n := by rw [List.length_take]; omega
  have hh : jo (rest.take n) = jo rest := head_take n1
  obtain ⟨k1,k2⟩ := Vx n3 hh (by omega) ha2
  have hmet : rO met last (rest.take n) = ahead met last rest := by unfold rO ahead; rw [hh]
  have hnext : Dn (ahead met last rest) rest n = ahead (ahead met last rest) (rest.take n) (rest.drop n) ∨ rest.drop n = [] := by
   by_cases c : n < rest.length
   ·left
    unfold Dn
    show _ = (if 0 < (rest.take n).length ∧ (ahead met last rest).length < 255 then ahead met last rest ++ [rest.take n ++ [jo (rest.drop n)]] else ahead met last rest)
    have ht : rest.take (n + 1) = rest.take n ++ [jo (rest.drop n)] := by
     rw [take_snoc c,kE (z := 0) c]
     rfl
    by_cases c2 : (ahead met last rest).length < 255
    ·rw [if_pos ⟨c,c2⟩,if_pos ⟨by omega,c2⟩,ht]
    ·rw [if_neg (fun x => c2 x.2),if_neg (fun x => c2 x.2)]
   ·exact .inr (List.drop_eq_nil_of_le (by omega))
  have hmap : ((iE (ahead met last rest) (rest.take n),(9 : Int)) :: qL f (Dn (ahead met last rest) rest n) (rest.drop n)).map (·.1) ++ [256] = iE (ahead met last rest) (rest.take n) :: ((qL f (Dn (ahead met last rest) rest n) (rest.drop n)).map (·.1) ++ [256]) := rfl
  rw [hmap]
  unfold Vw
  rw [if_neg k1,k2]
  show (if out.length + (rest.take n).length <= 200 then Vw _ (rest.take n) (rO met last (rest.take n)) (out ++ rest.take n) else ([],false)) = _
  rw [if_pos (by omega),hmet]
  have hd : (rest.drop n).length = rest.length - n := List.length_drop
  have fin : (out ++ rest.take n) ++ rest.drop n = out ++ rest := by rw [List.append_assoc,List.take_append_drop]
  rcases hnext with q | q
  ·rw [q]
   have := Jo f (rest.drop n) (rest.take n) (ahead met last rest) (out ++ rest.take n) (by omega) (ig hb n) (by rw [List.length_append]; omega) ha2
   rw [fin] at this
   exact this
  ·rw [q] at fin ⊢
   have hp : qL f (Dn (ahead met last rest) rest n) [] = [] := by cases f <;> rfl
   rw [hp]
   rw [List.append_nil] at fin
   rw [fin]
   show Vw [256] _ _ _ = _
   unfold Vw
   rw [if_pos rfl,if_pos rfl]
end T
end
section
namespace T
open Go Go.E Go.Proofs
theorem Zb {o : List Int} {t : Nat} {v : Int} (h : BI o t) (hv : v = 0 ∨ v = 1) : lQ (ny o t v) t = v ∧ ∀ k,k < t -> lQ (ny o t v) k = lQ o k := by
 have hl := h.len
 unfold ny
 by_cases c : t % 8 = 0
 ·rw [if_pos c]
  have ht : t / 8 = o.length := by omega
  refine ⟨?_,fun k hk => ?_⟩
  ·unfold lQ
   rw [ht,Gp,c]
   rcases hv with rfl | rfl <;> rfl
  ·unfold lQ
   have hk8 : k / 8 < o.length := by omega
   rw [iW (by rw [List.length_append]; omega),iW hk8,List.getElem_append_left hk8]
 ·rw [if_neg c]
  have hlt : t / 8 < o.length := by omega
  have htop := h.top c
  have hg := gy h.byt ((t / 8 : Nat) : Int)
  refine ⟨?_,fun k hk => ?_⟩
  ·unfold lQ
   rw [RV hlt,Int.add_mul_ediv_right _ _ (by have := JE (m := t % 8) (by omega); omega),Int.ediv_eq_zero_of_lt hg.1 htop]
   rcases hv with rfl | rfl <;> rfl
  ·unfold lQ
   by_cases e : k / 8 = t / 8
   ·have hlt' : t / 8 < o.length := hlt
    rw [e,RV hlt]
    generalize gt o ((t / 8 : Nat) : Int) 0 = g at *
    have hm : k % 8 < t % 8 := by omega
    obtain ⟨d,hd⟩ : ∃ d,t % 8 = k % 8 + (d + 1) := ⟨t % 8 - k % 8 - 1,by omega⟩
    have hp := JE (m := k % 8) (by omega)
    have : v * 2 ^ (t % 8) = (v * 2 ^ d * 2) * 2 ^ (k % 8) := by
     rw [hd,Int.pow_add,Int.pow_succ]
     rw [Int.mul_comm (2 ^ (k % 8)),Int.mul_assoc,Int.mul_assoc,Int.mul_assoc]
    rw [this,Int.add_mul_ediv_right _ _ (by omega)]
    omega
   ·have hk8 : k / 8 < o.length := by omega
    rw [iW (by rw [List.length_set]; exact hk8),iW hk8,List.getElem_set_ne (by omega)]
theorem ND {N : Int} : ∀ (c j : Nat) {o : List Int} {t : Nat},BI o t -> (∀ m,m < c -> lQ (oC N c j o t) (t + m) = N / 2 ^ (j + m) % 2) ∧ ∀ k,k < t -> lQ (oC N c j o t) k = lQ o k
 | 0,j,o,t,h => ⟨fun m hm => by omega,fun k _ => rfl⟩
 | c + 1,j,o,t,h => by
  have hv := Uh N j
  obtain ⟨s1,s2⟩ := Zb h hv
  obtain ⟨i1,i2⟩ := ND (N := N) c (j + 1) (h.step hv)
  refine ⟨fun m hm => ?_,fun k hk => ?_⟩
  ·show lQ (oC N c (j + 1) (ny o t (N / 2 ^ j % 2)) (t + 1)) (t + m) = _
   cases m with
   | zero =>
    show lQ (oC N c (j + 1) (ny o t (N / 2 ^ j % 2)) (t + 1)) t = N / 2 ^ j % 2
    rw [i2 t (by omega),s1]
   | succ m =>
    have := i1 m (by omega)
    rw [show t + (m + 1) = t + 1 + m by omega,this,show j + 1 + m = j + (m + 1) by omega]
  ·show lQ (oC N c (j + 1) (ny o t (N / 2 ^ j % 2)) (t + 1)) k = _
   rw [i2 k (by omega),s2 k hk]
theorem Qh : ∀ {l : List (Int × Int)} {o : List Int} {t : Nat},BI o t -> ∀ k,k < t -> lQ (mD l o t) k = lQ o k
 | [],o,t,h,k,hk => rfl
 | c :: l,o,t,h,k,hk => by
  show lQ (mD l (oC c.1 9 0 o t) (t + 9)) k = _
  rw [Qh (h.oC 9 0) k (by omega),(ND (N := c.1) 9 0 h).2 k hk]
theorem Uw : ∀ {l : List (Int × Int)} {o : List Int} {t i : Nat} (hi : i < l.length),BI o t -> ∀ m,m < 9 -> lQ (mD l o t) (t + 9 * i + m) = l[i].1 / 2 ^ m % 2
 | c :: l,o,t,0,hi,h,m,hm => by
  show lQ (mD l (oC c.1 9 0 o t) (t + 9)) (t + 9 * 0 + m) = c.1 / 2 ^ m % 2
  have := (ND (N := c.1) 9 0 h).1 m hm
  rw [Nat.zero_add] at this
  rw [show t + 9 * 0 + m = t + m by omega,Qh (h.oC 9 0) _ (by omega),this]
 | c :: l,o,t,i + 1,hi,h,m,hm => by
  have := Uw (l := l) (i := i) (by simpa using hi) (h.oC (N := c.1) 9 0) m hm
  rw [show t + 9 * (i + 1) + m = t + 9 + 9 * i + m by omega]
  exact this
theorem aav {N : Int} (h0 : 0 <= N) (j : Nat) : N % 2 ^ j + N / 2 ^ j % 2 * 2 ^ j = N % 2 ^ (j + 1) := by
 obtain ⟨n,rfl⟩ := Int.eq_ofNat_of_zero_le h0
 have e : ∀ k : Nat,(2 : Int) ^ k = ((2 ^ k : Nat) : Int) := fun k => by rw [Int.natCast_pow]; rfl
 rw [e j,e (j + 1), <- Int.natCast_emod, <- Int.natCast_ediv, <- Int.natCast_emod,Nat.pow_succ,Nat.mod_mul,Int.natCast_add,Int.natCast_mul,Int.natCast_emod (n / 2 ^ j) 2,Int.mul_comm]
 rfl
theorem Ux {l : List Int} {a : Nat} {N : Int} (h0 : 0 <= N) : ∀ (j : Nat),(∀ m,m < j -> lQ l (a + m) = N / 2 ^ m % 2) -> kX l a j = N % 2 ^ j
 | 0,_ => by unfold kX; omega
 | j + 1,h => by
  unfold kX
  rw [Ux h0 j (fun m hm => h m (by omega)),h j (by omega),aav h0]
theorem Zc {l : List (Int × Int)} (hc : Je l) {i : Nat} (hi : i < l.length) : kX (mD l [] 0) (9 * i) 9 = l[i].1 := by
 have hb := (hc l[i] (List.getElem_mem hi)).1
 have := Ux (l := mD l [] 0) (a := 9 * i) (N := l[i].1) hb.1 9 (fun m hm => by
  have := Uw hi BI.nil m hm
  rw [Nat.zero_add] at this
  exact this)
 rw [this]
 exact Int.emod_eq_of_lt hb.1 hb.2
end T
end
section
namespace T
open Go Go.E Go.Proofs
theorem adn {l : List (Int × Int)} : endOk (mD l [] 0) (9 * l.length) = true := by
 have hb := BI.bits (l := l) BI.nil
 rw [Nat.zero_add] at hb
 unfold endOk
 refine decide_eq_true ⟨hb.len.symm,?_⟩
 by_cases c : 9 * l.length % 8 = 0
 ·exact .inl c
 ·exact .inr (Int.ediv_eq_zero_of_lt (gy hb.byt _).1 (hb.top c))
theorem Qi (cs : List (Int × Int)) : (mD cs [] 0).length = (9 * cs.length + 7) / 8 := by
 have hb := BI.bits (l := cs) BI.nil
 have := hb.len
 rwa [Nat.zero_add] at this
theorem Uy (l : List Int) (f a : Nat) (last : List Int) (met : List (List Int)) (out : List Int) : y5 l (f + 1) a last met out = if a + 9 <= 8 * l.length then
   (if kX l a 9 = 256 then (if endOk l (a + 9) then (out,true) else ([],false)) else
    match FN met last (kX l a 9) with
    | none => ([],false)
    | some b => if out.length + b.length <= 200 then y5 l f (a + 9) b (rO met last b) (out ++ b) else ([],false))
  else ([],false) := by
 first
 | exact id rfl
 | rfl
theorem Zd {cs : List (Int × Int)} (hc : Je cs) (k : Nat) : ∀ (i f a : Nat) (last : List Int) (met : List (List Int)) (out : List Int),a = 9 * i -> i + k = cs.length -> k <= f ->
  y5 (mD cs [] 0) (f + 1) a last met out = Vw ((cs.drop i).map (·.1)) last met out := by
 have hl := Qi cs
 generalize hL : mD cs [] 0 = L at *
 induction k with
 | zero =>
  intro i f a last met out ha hi hf
  rw [List.drop_eq_nil_of_le (by omega),Uy,if_neg (by omega)]
  rfl
 | succ k ih =>
  intro i f a last met out ha hi hf
  have hlt : i < cs.length := by omega
  have hd : (cs.drop i).map (·.1) = cs[i].1 :: (cs.drop (i + 1)).map (·.1) := by rw [List.drop_eq_getElem_cons hlt]; rfl
  have hn : kX L a 9 = cs[i].1 := by rw [ha, <- hL]; exact Zc hc hlt
  rw [hd,Uy,if_pos (by omega),hn]
  unfold Vw
  by_cases e : cs[i].1 = 256
  ·rw [if_pos e,if_pos e]
   by_cases c : i + 1 = cs.length
   ·have : endOk L (a + 9) = true := by
     have := adn (l := cs)
     rw [hL] at this
     rw [show a + 9 = 9 * cs.length by omega]; exact this
    rw [if_pos this,if_pos (by rw [List.drop_eq_nil_of_le (by omega)]; rfl)]
   ·have : ¬ endOk L (a + 9) = true := fun h => by
     have := (of_decide_eq_true h).1
     omega
    rw [if_neg this,if_neg (fun h => by
     have := congrArg List.length h
     rw [List.length_map,List.length_drop] at this
     simp at this; omega)]
  ·rw [if_neg e,if_neg e]
   cases FN met last cs[i].1 with
   | none => rfl
   | some b =>
    obtain ⟨f',rfl⟩ : ∃ g,f = g + 1 := ⟨f - 1,by omega⟩
    have := ih (i + 1) f' (a + 9) b (rO met last b) (out ++ b) (by omega) (by omega) (by omega)
    show (if out.length + b.length <= 200 then y5 L (f' + 1) (a + 9) b (rO met last b) (out ++ b) else ([],false)) = (if out.length + b.length <= 200 then Vw ((cs.drop (i + 1)).map (·.1)) b (rO met last b) (out ++ b) else ([],false))
    rw [this]
theorem Ze {b : List Int} (hb : gQ b) (hl : b.length <= 200) : vW (Dp b) = (b,true) := by
 obtain ⟨h1,h2⟩ := vV b.length [] b hb (fun _ h => by cases h) (by simp)
 have hc := Nq h1
 have akf := (BI.bits (l := qL b.length [] b ++ [(256,9)]) BI.nil).len
 have hlen : (qL b.length [] b ++ [((256 : Int),(9 : Int))]).length = (qL b.length [] b).length + 1 := by simp
 have he : Dp b = mD (qL b.length [] b ++ [(256,9)]) [] 0 := by unfold Dp; rw [if_pos hl]
 have hp := Jo b.length b [] [] [] (Nat.le_refl _) hb (by simpa using hl) (fun _ h => by cases h)
 have ha : ahead [] [] b = [] := rfl
 rw [ha] at hp
 have hg := Zd hc (qL b.length [] b ++ [(256,9)]).length 0 (mD (qL b.length [] b ++ [(256,9)]) [] 0).length 0 [] [] [] rfl (by omega) (by omega)
 rw [List.drop_zero,List.map_append] at hg
 unfold vW
 rw [he]
 exact hg.trans hp
theorem Qj {k : Int} (hk : kindOk k) {r : jc} {W H : Nat} (hn : iq r W H) : oW k (jK k r) = (r,true) := by
 unfold oW jK
 by_cases h1 : k = 68
 ·rw [if_pos h1,if_pos h1,BH hn]
 rw [if_neg h1,if_neg h1]
 by_cases h2 : k = 85
 ·rw [if_pos h2,if_pos h2,BH (Dt hn),if_pos rfl]
  show (y7 (y7 r),true) = _
  rw [flip_flip hn]
 rw [if_neg h2,if_neg h2]
 by_cases h3 : k = 82
 ·rw [if_pos h3,if_pos h3,Qg hn]
 rw [if_neg h3,if_neg h3]
 obtain ⟨b1,b2⟩ := qG hn
 rw [Ze b1 (by omega),if_pos rfl,BH hn]
end T
end
section
namespace T
open Go Go.E Go.Proofs
theorem Jp (k : Int) (note : List Int) (r : jc) : (iO k note r).length = 2 + note.length + (jK k r).length + 4 := by
 unfold iO xJ
 simp only [List.length_cons,List.length_append,List.length_nil]
 omega
theorem Zf (k : Int) (note : List Int) (r : jc) : pV (iO k note r) = jK k r ∧ (iO k note r).drop ((iO k note r).length - 4) = xJ (sumP (jK k r)) := by
 have hl := Jp k note r
 have e : iO k note r = ((k :: (note.length : Int) :: note) ++ jK k r) ++ xJ (sumP (jK k r)) := by unfold iO; simp
 have h1 : ((k :: (note.length : Int) :: note) ++ jK k r).length = (iO k note r).length - 4 := by rw [hl,List.length_append,List.length_cons,List.length_cons]; omega
 have g : (iO k note r).getD 1 0 = (note.length : Int) := rfl
 constructor
 ·unfold pV
  rw [g,Int.toNat_natCast, <- h1,e,List.take_left,List.drop_append_of_le_length (by simp; omega)]
  rw [List.drop_eq_nil_of_le (by simp; omega),List.nil_append]
 ·rw [<- h1,e,List.drop_left]
theorem Sz {k : Int} (hk : kindOk k) {note : List Int} (hn : note.length <= 9) {r : jc} {W H : Nat} (hr : iq r W H) : lG (iO k note r) = (r,1) := by
 have hl := Jp k note r
 obtain ⟨m1,m2⟩ := Zf k note r
 have hb := Qj hk hr
 have g0 : (iO k note r).getD 0 0 = k := rfl
 have g1 : (iO k note r).getD 1 0 = (note.length : Int) := rfl
 have ok : xA (iO k note r) = true := by
  unfold xA
  rw [m1,m2,g0,g1,hb,decide_eq_true rfl,decide_eq_true (by rw [Int.toNat_natCast]; omega)]
  rfl
 unfold lG
 rw [if_neg (by unfold iO; simp),g0,if_neg (fun h => h hk),if_pos ok,m1,hb]
end T
end
section
namespace T
open Go Go.E Go.Proofs
theorem Zg (k : Int) {r : jc} {W H : Nat} (hn : iq r W H) : (jK k r).length <= 182 := by
 have hm := jJ hn.h6 hn.w6
 obtain ⟨b1,b2⟩ := qG hn
 obtain ⟨c1,c2⟩ := qG (Dt hn)
 unfold jK
 split
 ·omega
 split
 ·omega
 split
 ·have := BD r.2.2 r.2.2.length 0
  have hl := hn.len
  show (fK r.2.2 r.2.2.length 0).length + 1 + 1 <= 182
  omega
 ·have hp : Dp (wU r) = mD (qL (wU r).length [] (wU r) ++ [(256,9)]) [] 0 := by unfold Dp; rw [if_pos (by omega)]
  obtain ⟨h1,h2⟩ := vV (wU r).length [] (wU r) b1 (fun _ h => by cases h) (by simp)
  rw [hp,Qi,List.length_append,List.length_singleton]
  omega
theorem D21 (a : List Int) : r21 dd (a,a) = some true := by
 refine dL rfl ((b21 dd l21 ..).trans ?_); show (_ : Option Bool) = some _
 rw [beq_self_eq_true]
end T
end
section
namespace T
open Go Go.E Go.Proofs
end T
end
section
namespace T
open Go Go.E Go.Proofs
theorem Zh {r : jc} {W H : Nat} (hn : iq r W H) : wX r = iO 80 [] r := by unfold wX; rw [if_pos (nI.2 ⟨W,H,hn⟩)]
theorem aaw (k : Int) {note : List Int} (h : note.length <= 9) {r : jc} {W H : Nat} (hn : iq r W H) : ¬ (iO k note r).length > 220 := by
 have h1 := Jp k note r
 have h2 := Zg k hn
 omega
theorem Zi {r : jc} {W H : Nat} (hn : iq r W H) : ¬ (wX r).length > 220 ∧ lG (wX r) = (r,1) ∧ gQ (wX r) := by
 rw [Zh hn]
 exact ⟨aaw 80 (by simp) hn,Sz (.inr (.inr (.inr rfl))) (by simp) hn,(KR (.inr (.inr (.inr rfl))) iQ (by simp) hn).1⟩
theorem zV {f : List Int} {ops : List Op} {r r' : jc} (hf : ¬ f.length > 220) (ho : nZ ops = true) (hg : lG f = (r,1)) (hp : tY ops r = some r') : Dz f ops = (wX r',200) := by
 unfold Dz
 rw [if_neg hf,if_neg (by rw [ho]; decide),hg,if_neg (by show ¬ ((1 : Int) = 2); decide),if_neg (by show ¬ ((1 : Int) = 3); decide)]
 dsimp only
 rw [hp]
theorem Zj {f : List Int} {ops : List Op} (h : (Dz f ops).2 = 200) : ¬ f.length > 220 ∧ nZ ops = true ∧ (lG f).2 = 1 ∧ ∃ r',tY ops (lG f).1 = some r' := by
 unfold Dz at h
 by_cases c0 : f.length > 220
 ·rw [if_pos c0] at h; exact absurd h (by decide)
 rw [if_neg c0] at h
 by_cases c1 : nZ ops = false
 ·rw [if_pos c1] at h; exact absurd h (by decide)
 rw [if_neg c1] at h
 by_cases c2 : (lG f).2 = 2
 ·rw [if_pos c2] at h; exact absurd h (by decide)
 rw [if_neg c2] at h
 by_cases c3 : (lG f).2 = 3
 ·rw [if_pos c3] at h; exact absurd h (by decide)
 rw [if_neg c3] at h
 have c4 : (lG f).2 = 1 := by rcases Jk f with q | q | q; exact q; exact absurd q c2; exact absurd q c3
 cases hp : tY ops (lG f).1 with
 | none => rw [hp] at h; exact absurd h (by decide)
 | some r' => exact ⟨c0,by cases h : nZ ops with | true => rfl | false => exact absurd h c1,c4,r',rfl⟩
theorem Zk (a b : List Op) : ∀ (r : jc),tY (a ++ b) r = (tY a r).bind (tY b) := by
 induction a with
 | nil => intro r; rfl
 | cons o a ih =>
  intro r
  show (VD o r.2.2 r.1.toNat r.2.1.toNat).bind (tY (a ++ b)) = ((VD o r.2.2 r.1.toNat r.2.1.toNat).bind (tY a)).bind (tY b)
  cases VD o r.2.2 r.1.toNat r.2.1.toNat with
  | none => rfl
  | some x => exact ih x
theorem KX {a b : List Op} (h : nZ b = true) (hl : a.length <= b.length) (hm : ∀ o ∈ a,o ∈ b) : nZ a = true := by
 obtain ⟨h1,h2⟩ := Bool.and_eq_true _ _ ▸ h
 have h1 := of_decide_eq_true h1
 have h2 := List.all_eq_true.1 h2
 unfold nZ
 rw [decide_eq_true (by omega),List.all_eq_true.2 (fun o ho => h2 o (hm o ho))]
 rfl
theorem D6 {a : List Int} (hb : gQ a) : r6 dd a = some true := by
 by_cases c : ln a > 1048576
 ·refine dL rfl ((b6 dd l6 ..).trans ?_); show (_ : Option Bool) = some _
  rw [au c]
 have hln := gG a
 obtain ⟨f,ops,h1,fb,fl,os,ol⟩ := D17 hb (by show a.length < _; omega)
 have e1 := D11 f ops fb (by show f.length < _; omega) (by show ops.length < _; omega)
 have e2 := D8 f ops fb (by show f.length < _; omega) (by show ops.length < _; omega)
 have hlo := gG ops
 refine dL rfl ((b6 dd l6 ..).trans ?_); show (_ : Option Bool) = some _
 rw [aC c,h1,Option.bind_some,e1,Option.bind_some,e2,Option.bind_some,D21,Option.bind_some,Bool.not_true,cond_false,tN rfl]
 by_cases cg : (Dz f ops).2 = 200
 rotate_left
 ·rw [uN cg,D18,Option.bind_some]
 rw [tN cg]
 obtain ⟨i1,i2,i3,r',i4⟩ := Zj cg
 obtain ⟨W,H,hn⟩ := YZ fb i3
 obtain ⟨W',H',hn'⟩ := Nz (NC i2) hn i4
 have hg : lG f = ((lG f).1,1) := by rw [<- i3]
 have t1 := zV i1 i2 hg i4
 obtain ⟨p1,p2,p3⟩ := Zi hn'
 have e3 := D11 (wX r') [] p3 (by show (wX r').length < _; omega) (by show (0 : Nat) < _; decide)
 rw [zV p1 rfl p2 rfl] at e3
 have hl2 : ln (f,ops).snd = (ops.length : Int) := hlo
 have hw : wi ((ln ops).tdiv 2) = ((ops.length / 2 : Nat) : Int) := by
  rw [hlo]
  have : ((ops.length : Int)).tdiv 2 = ((ops.length / 2 : Nat) : Int) := rfl
  rw [this]
  exact aK (by omega) (by omega)
 have ea : ops.take (ops.length / 2) ++ ops.drop (ops.length / 2) = ops := List.take_append_drop _ _
 have e4 := Zk (ops.take (ops.length / 2)) (ops.drop (ops.length / 2)) (lG f).1
 rw [ea,i4] at e4
 cases hm : tY (ops.take (ops.length / 2)) (lG f).1 with
 | none => rw [hm] at e4; exact absurd e4 (by simp)
 | some m =>
  rw [hm,Option.bind_some] at e4
  have o1 : nZ (ops.take (ops.length / 2)) = true := KX i2 (by rw [List.length_take]; omega) (fun o ho => List.mem_of_mem_take ho)
  have o2 : nZ (ops.drop (ops.length / 2)) = true := KX i2 (by rw [List.length_drop]; omega) (fun o ho => List.mem_of_mem_drop ho)
  obtain ⟨W2,H2,hn2⟩ := Nz (NC o1) hn hm
  obtain ⟨m1,m2,m3⟩ := Zi hn2
  have e5 := D11 f (ops.take (ops.length / 2)) fb (by show f.length < _; omega) (by show (ops.take (ops.length / 2)).length < _; rw [List.length_take]; omega)
  rw [zV i1 o1 hg hm] at e5
  have e6 := D11 (wX m) (ops.drop (ops.length / 2)) m3 (by show (wX m).length < _; omega) (by show (ops.drop (ops.length / 2)).length < _; rw [List.length_drop]; omega)
  rw [zV m1 o2 m2 e4.symm] at e6
  rw [t1]
  show ((r11 dd (wX r',[])).bind _) = _
  rw [e3,Option.bind_some,hw,if_pos (by omega),if_pos (by omega),Int.toNat_natCast,e5,Option.bind_some,if_pos (by omega),if_pos (by omega)]
  show ((r11 dd (wX m,List.drop (ops.length / 2) ops)).bind _) = _
  rw [e6,Option.bind_some]
  show (bif ((200 : Int) == 200) then bif ((200 : Int) == 200) then bif ((200 : Int) == 200) then _ else _ else _ else _) = _
  rw [beq_self_eq_true,cond_true,cond_true,cond_true,D21,Option.bind_some,cond_true,Option.bind_some]
end T
end
