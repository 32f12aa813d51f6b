/- Whatever bytes the law FnDskBoard is called with, it answers true, and the bytes read behind the call as they read before. No conditions. -/
import Derived.Test.YtmceeioelenigaaGreatDoorCards
import Derived.Test.YtmceeioelenigaaGreatDoorTie
import Derived.WalkKit
import Derived.ProofKit
import Derived.OpenShut
import Derived.Deep.DeepHandedRow
import Derived.Lib.LaidTab
import Derived.Stop.LaidErr
import Derived.Test.YtmceeioelenigaaGreatDoorGe
import Derived.Test.YtmceeioelenigaaGreatDoorGd
import Derived.Test.YtmceeioelenigaaGreatDoorGf
section
namespace Go.E
theorem LC{w:World}{N:Nat->Prop}:∀ {rows:List Int} {l:List Value},(∀ i,i<rows.length->l[i]? =some (.int .u64 (rows.getD i 0)))->dV 1 (aC.rp w N (.one (.int .u64))) rows l
 |[],l,_=>trivial
 |x::rows,l,h=>by
  have h0:=h 0 (by simp)
  match l,h0 with
  |v::l,h0=>
   have h0:some v=some (.int .u64 x):=h0
   cases h0
   exact⟨by simp,⟨_,rfl,rfl⟩,LC fun i hi=>h (i+1) (by simpa using hi)⟩
theorem aei{W:World}(h:∀ i,i<20->W.cell? ⟨4,i,none⟩=some (.int .u64 (pow10.getD i 0))):rO (Qp W):=by
 intro g q hq
 unfold globs look at hq
 cases hg:Nat.beq 4 g with
 |false=>rw[hg] at hq;cases hq
 |true=>
  rw[hg,cond_true] at hq
  cases hq
  obtain rfl:=aeh hg
  have h0:=h 0 (by omega)
  unfold World.cell? at h0
  dsimp only at h0
  cases hh:W.heap[4]? with
  |none=>rw[hh] at h0;cases h0
  |some x=>cases x with
   |cells c e fz=>
    have hbk:4<W.heap.size:=by
     rcases Nat.lt_or_ge 4 W.heap.size with h|h
     ·exact h
     ·rw[Array.getElem?_eq_none h] at hh;cases hh
    unfold VR
    refine⟨4,0,20,20,⟨some ⟨4,0,none⟩,20,20,rfl,rfl,Nat.le_refl _,fun _=>⟨4,0,c,e,fz,rfl,.inl hbk,hh,LC fun i hi=> ?_⟩⟩,by decide,by decide,rfl⟩
    have hci:=h i hi
    unfold World.cell? at hci
    dsimp only at hci
    rw[hh] at hci
    have hci:c[i]? =some (.int .u64 (pow10.getD i 0)):=hci
    rw[List.getElem?_drop,Array.getElem?_toList,Nat.zero_add,hci]
   | _=>rw[hh] at h0;cases h0
end Go.E
namespace Go.Proofs.YtmceeioelenigaaGreatDoor.fnDskBoard
open Go.ChangeShapes Go.WideShapes Go.ChangeAt Go.RowKit
theorem own:ownKnob Tryz.prog.godebug=none:=by kernel_rfl
theorem Y9:E.Good Tryz.prog true E.Solo T.C T.pr:=fun _ _ _ _ h=>by cases h
theorem gTab : Tryz.prog.globalNamed "internal/strconv.uint64pow10" = some 4 := by kernel_rfl
theorem Za:(Tryz.prog.globals[4]?).map (·.type)=some 332:=by kernel_rfl
theorem Zb:Tryz.prog.cellsOf 332=20:=by kernel_rfl
theorem Zc:Tryz.prog.cellsOf 281=1:=by kernel_rfl
theorem cells5:Tryz.prog.cellsOf 5=1:=by kernel_rfl
theorem aej:Tryz.prog.underlying 22=some (.slice 5):=by kernel_rfl
theorem Zd:Tryz.prog.underlying 281=some (.int .u64):=by kernel_rfl
theorem Ze:Tryz.prog.underlying 332=some (.array 20 281):=by kernel_rfl
theorem table {W : World} (h : laidMetH Tryz.prog Rows.fnDskBoardRow.laid W) : Lib.TabIs Tryz.prog W "internal/strconv.uint64pow10" .u64 E.pow10 :=
 Lib.tabIs_of_head (rest:=[]) gTab Za Ze Zd Zc Zb (laidMet.tail (laidMet.tail h))
theorem ai3:E.pow10.length=20:=rfl
set_option maxRecDepth 100000 in
theorem contract(H:Type)(enc:TypeId×Value->H)(W:World)(base:Nat)(args:Array Value)(ds gs:List (DataW H))(before:List MemPlace)
  (hval:∀ (j:Nat) t v,Tryz.f9.params[j]? =some t->args[j]? =some v->Value.okWide Tryz.prog W .any base t v)
  (hW:DataW.Whole enc Tryz.prog Tryz.f9.params.toList Rows.fnDskBoardSpec.vars false W args.toList ds gs before) (hL:laidMetH Tryz.prog Rows.fnDskBoardRow.laid W):
  Calls Tryz.prog 9 args W fun e W'=>∃ v,e= .returned v∧Rows.fnDskBoardSpec.post enc Tryz.prog Tryz.f9 false true false false W args v W':=
 E.Xy T.Zf T.Zg T.Zh Y9 (fun _ ha=>T.D9t ha) aej Tryz.underlying5 cells5 Tryz.underlying4 Tryz.params9 rfl rfl (fun _ _=>rfl) enc W base args ds gs before hval hW
  (E.aei fun i hi=>(table hL).cell gTab i (ai3▸hi))
def Ig:DataW Unit->Array Value
 | .agg l=>(l.map fun x=>match x with| .lit (.int k z)=>Value.int k z| _=> .bool false).toArray
 | _=> #[]
def put(cs:Array Value):Obj->Obj
 | .cells _ t frozen=> .cells cs t frozen
 |o=>o
noncomputable def laidWorld(os:Os):World:=
 {World.holding Tryz.prog os ⟨#[],#[],[]⟩ with heap:=(((World.holding Tryz.prog os ⟨#[],#[],[]⟩).heap.modify 4 (put (Ig Rows.laid_internal_strconv_uint64pow10))).modify 9 (put (Ig Rows.laid_math_bits_deBruijn32tab))).modify 10 (put (Ig Rows.laid_math_bits_deBruijn64tab))}
theorem laid_met(os:Os):laidMet Tryz.prog Rows.fnDskBoardRow.laid ((laidWorld os).forCall (fun _ _=>0) ⟨#[],#[.slice none 0 0],[]⟩).memory:=
 laidMet_of_run' 80 (by kernel_rfl) (by kernel_rfl)
theorem reads(os:Os){H:Type}(enc:TypeId×Value->H):∃ places,DataW.whole enc Tryz.prog ((laidWorld os).forCall (fun _ _=>0) ⟨#[],#[.slice none 0 0],[]⟩).memory Tryz.f9.params.toList Rows.fnDskBoardSpec.vars false #[Value.slice none 0 0].toList 8=some ([.nil],[],places):=
 ⟨[],by kernel_rfl⟩
set_option maxRecDepth 100000 in
theorem lifted(os:Os)(started:os.Started)(H:Type)(enc:TypeId×Value->H)(F:Stop.Interp):
  ReturnsInHanded {} Tryz.checked os 9 .any ((OpenSpec.ofChange Rows.fnDskBoardSpec).preRow enc Tryz.prog Tryz.f9 Rows.fnDskBoardRow.domain false Rows.fnDskBoardRow.laid) (((OpenSpec.ofChange Rows.fnDskBoardSpec).at F).post enc Tryz.prog Tryz.f9 false true false false):=by
 obtain⟨places,hx⟩:=reads os enc
 refine returnsInHanded_of_row (C:=Tryz.checked) (s:=OpenSpec.ofChange Rows.fnDskBoardSpec) own started (by kernel_rfl) Tryz.func9
  (witness_row_at (enc:=enc) (C:=Tryz.checked) false (laidWorld os) #[.slice none 0 0] rfl (by kernel_rfl) (by kernel_rfl) (by kernel_rfl)
   (OpenSpec.preRow_of_cond 8 hx (by kernel_rfl) (fun k hk=>by cases hk) (by kernel_rfl) (laid_met os))) ?_
 intro W base args ds gs before hval hW _ _ _ hL _ _
 exact contract H enc W base args ds gs before hval hW hL
theorem said:Rows.FnDskBoardSaid:=
 OpenClaim.holds_of_cond 9 Tryz.f9 rfl rfl rfl rfl rfl rfl rfl ⟨rfl,rfl,rfl,rfl,rfl⟩ rfl rfl rfl rfl rfl (by kernel_rfl) Tryz.func9 closed
  (of_decide_eq_true (by kernel_rfl)) (by unfold Func.isWrapper;first|(rw[if_pos (by decide +kernel)];kernel_rfl)|(rw[if_neg (by decide +kernel)];exact⟨rfl,rfl⟩))
  (fun os started H enc _ F=>by rw[OpenClaim.pre_eq_preRow];exact lifted os started H enc F)
theorem plain (f : FuncId) (fn : Func) (hf : Tryz.pinned.checked.prog.funcNamed "loop.example/easel/laws.FnDskBoard" = some f) (hfn : Tryz.pinned.checked.prog.funcs[f]? = some fn) :
  true=Tryz.pinned.checked.prog.looks []∧∀ (j:Nat) t,fn.params[j]? =some t->Tryz.pinned.checked.prog.wantsStandIn t=false:=by
 obtain rfl : f = 9 := Option.some.inj ((show Tryz.prog.funcNamed "loop.example/easel/laws.FnDskBoard" = some 9 by kernel_rfl).symm.trans hf) |>.symm
 obtain rfl:fn=Tryz.f9:=(Option.some.inj (Tryz.func9.symm.trans hfn)).symm
 refine⟨by kernel_rfl,fun j t ht=> ?_⟩
 rw[Tryz.params9] at ht
 obtain rfl:t=22:=by simpa using Array.mem_of_getElem? ht
 exact (show Tryz.prog.wantsStandIn 22=false by kernel_rfl)
theorem card:Rows.FnDskBoardCardSaid:=
 Claim7.holds_tied_plain_at .later [] _ _ _ _ said (fun _ h=>by cases h) (by kernel_rfl) (fun _ h=>by cases h) fnDskBoard_row_tie rfl ⟨rfl,rfl⟩ (by kernel_rfl) rfl plain (by kernel_rfl)
end Go.Proofs.YtmceeioelenigaaGreatDoor.fnDskBoard
end
