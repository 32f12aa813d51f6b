/- The cells of a row are those of the program. -/
import Derived.Test.YtmceeioelenigaaGreatDoorRows
import Derived.Test.YtmceeioelenigaaGreatDoorChecked
import Derived.KernelRfl
import Derived.JoinedCond
section
namespace Go.Proofs.YtmceeioelenigaaGreatDoor.fnDskBoard
open Go
theorem nK{a b:Bool}(ha:a=true)(hb:b=true):(a&&b)=true:=by rw[ha,hb];rfl
set_option maxRecDepth 100000 in
theorem k1:(Rows.fnDskBoardRow.wf (OpenSpec.ofChange (OpenSpec.ofChange Rows.fnDskBoardSpec).bare))=true:=by kernel_rfl
set_option maxRecDepth 100000 in
theorem k2:(laidOutB Tryz.pinned.checked.prog)=true:=by kernel_rfl
set_option maxRecDepth 100000 in
theorem k3:(mapsRowed Tryz.pinned.checked.prog)=true:=by kernel_rfl
set_option maxRecDepth 100000 in
theorem k4:(Tryz.f9.params.all (Tryz.pinned.checked.prog.readableRec ·))=true:=by kernel_rfl
set_option maxRecDepth 100000 in
theorem k5:(namedTie Tryz.pinned.checked.prog Rows.fnDskBoardRow.named (OpenSpec.ofChange Rows.fnDskBoardSpec).bare.vars)=true:=by kernel_rfl
set_option maxRecDepth 100000 in
theorem k6:((Rows.fnDskBoardRow.stops==[]))=true:=by kernel_rfl
set_option maxRecDepth 100000 in
theorem k7:((Tryz.pinned.checked.prog.stops==[]))=true:=by kernel_rfl
set_option maxRecDepth 100000 in
theorem k8:((Rows.fnDskBoardRow.knobs==[]))=true:=by kernel_rfl
set_option maxRecDepth 100000 in
theorem k9:((Tryz.pinned.checked.prog.stopKnobs==[]))=true:=by kernel_rfl
set_option maxRecDepth 100000 in
theorem k10:((Rows.fnDskBoardRow.inPlace==Tryz.pinned.checked.prog.inPlace 9))=true:=by kernel_rfl
set_option maxRecDepth 100000 in
theorem k11:((Rows.fnDskBoardRow.unfollowed==Tryz.pinned.checked.prog.unfollowed 9))=true:=by kernel_rfl
set_option maxRecDepth 100000 in
theorem k12:((Rows.fnDskBoardRow.recurses==Tryz.pinned.checked.prog.recurses 9))=true:=by kernel_rfl
set_option maxRecDepth 100000 in
theorem k13:((Rows.fnDskBoardRow.named==Tryz.pinned.checked.prog.varsNamed 9))=true:=by kernel_rfl
set_option maxRecDepth 100000 in
theorem k14:((Rows.fnDskBoardRow.maps==(Tryz.f9.params.toList++(OpenSpec.ofChange Rows.fnDskBoardSpec).bare.plain.varTypes Tryz.pinned.checked.prog).any (Tryz.pinned.checked.prog.mapsRec ·)))=true:=by kernel_rfl
set_option maxRecDepth 100000 in
theorem k15:((Rows.fnDskBoardRow.ifaces==(Tryz.f9.params.toList++(OpenSpec.ofChange Rows.fnDskBoardSpec).bare.plain.varTypes Tryz.pinned.checked.prog).any (Tryz.pinned.checked.prog.ifacesRec ·)))=true:=by kernel_rfl
set_option maxRecDepth 100000 in
theorem k16:((Rows.fnDskBoardRow.mapsOut==Tryz.pinned.checked.prog.mapsAmong Tryz.f9.resultTypes.toList))=true:=by kernel_rfl
set_option maxRecDepth 100000 in
theorem k17:((Rows.fnDskBoardRow.loops==(Tryz.f9.params.toList++(OpenSpec.ofChange Rows.fnDskBoardSpec).bare.plain.varTypes Tryz.pinned.checked.prog).any (Tryz.pinned.checked.prog.loopsFrom ·)))=true:=by kernel_rfl
set_option maxRecDepth 100000 in
theorem k18:((Rows.fnDskBoardRow.wideKeys==(Tryz.f9.params.toList++(OpenSpec.ofChange Rows.fnDskBoardSpec).bare.plain.varTypes Tryz.pinned.checked.prog++Tryz.f9.resultTypes.toList).any (Tryz.pinned.checked.prog.wideKeysFrom ·)))=true:=by kernel_rfl
set_option maxRecDepth 100000 in
theorem k19:((OpenSpec.ofChange Rows.fnDskBoardSpec).bare.vars.all (Tryz.pinned.checked.prog.varReadable ·))=true:=by kernel_rfl
set_option maxRecDepth 100000 in
theorem k20:(Tryz.f9.resultTypes.all (fun t=>Tryz.pinned.checked.prog.readableRec t&&decide (t<Tryz.pinned.checked.prog.types.size)))=true:=by kernel_rfl
set_option maxRecDepth 100000 in
theorem k21:((Rows.fnDskBoardRow.ifacesOut==Tryz.f9.resultTypes.toList.any (Tryz.pinned.checked.prog.ifacesRec ·)))=true:=by kernel_rfl
set_option maxRecDepth 100000 in
theorem k22:((Rows.fnDskBoardRow.loopsOut==Tryz.f9.resultTypes.toList.any (Tryz.pinned.checked.prog.loopsFrom ·)))=true:=by kernel_rfl
set_option maxRecDepth 100000 in
theorem k23:((Rows.fnDskBoardRow.plainKeys==Tryz.pinned.checked.prog.plainKeys))=true:=by kernel_rfl
set_option maxRecDepth 100000 in
theorem k24:(Rows.fnDskBoardRow.shortTexts.isNone)=true:=by kernel_rfl
set_option maxRecDepth 100000 in
theorem k25:(Tryz.pinned.checked.prog.stopsHeard)=true:=by kernel_rfl
set_option maxRecDepth 100000 in
theorem k26:(Tryz.pinned.checked.prog.mayEnter)=true:=by kernel_rfl
set_option maxRecDepth 100000 in
theorem k27:((Rows.fnDskBoardRow.lifted==Tryz.pinned.checked.prog.liftsFinal))=true:=by kernel_rfl
set_option maxRecDepth 100000 in
theorem k28:((Tryz.pinned.checked.prog.make==some Rows.fnDskBoardRow.make))=true:=by kernel_rfl
set_option maxRecDepth 100000 in
theorem k29:((Rows.fnDskBoardRow.kinds==(if Rows.fnDskBoardRow.domain.isEmpty then [] else Tryz.f9.params.toList.map fun t=>match Tryz.pinned.checked.prog.underlying t with|some (.int k)=>some k| _=>none)))=true:=by kernel_rfl
set_option maxRecDepth 100000 in
theorem k30:((Rows.fnDskBoardRow.pinned==Rows.fnDskBoardRow.pinnedBy))=true:=by kernel_rfl
set_option maxRecDepth 100000 in
theorem k31:((Rows.fnDskBoardRow.veiled==(Tryz.f9.params.toList++(OpenSpec.ofChange Rows.fnDskBoardSpec).bare.plain.varTypes Tryz.pinned.checked.prog++Tryz.f9.resultTypes.toList).any (Tryz.pinned.checked.prog.veiledRec ·)))=true:=by kernel_rfl
set_option maxRecDepth 100000 in
theorem k32:(Rows.fnDskBoardRow.veiledFits Tryz.pinned.checked.prog Tryz.f9.params.toList (Tryz.f9.params.toList++(OpenSpec.ofChange Rows.fnDskBoardSpec).bare.plain.varTypes Tryz.pinned.checked.prog++Tryz.f9.resultTypes.toList))=true:=by kernel_rfl
end Go.Proofs.YtmceeioelenigaaGreatDoor.fnDskBoard
end
section
namespace Go.Proofs.YtmceeioelenigaaGreatDoor.fnDskBoard
open Go
set_option maxRecDepth 100000 in
theorem closed:joinedFacts Tryz.pinned.checked.prog 9 Tryz.f9 (OpenSpec.ofChange Rows.fnDskBoardSpec).bare Rows.fnDskBoardRow=true:=by
 unfold joinedFacts
 exact nK (nK (nK (nK (nK (nK (nK (nK (nK (nK (nK (nK (nK (nK (nK (nK (nK (nK (nK (nK (nK (nK (nK (nK (nK (nK (nK (nK (nK (nK (nK (k1) k2) k3) k4) k5) k6) k7) k8) k9) k10) k11) k12) k13) k14) k15) k16) k17) k18) k19) k20) k21) k22) k23) k24) k25) k26) k27) k28) k29) k30) k31) k32
end Go.Proofs.YtmceeioelenigaaGreatDoor.fnDskBoard
end
