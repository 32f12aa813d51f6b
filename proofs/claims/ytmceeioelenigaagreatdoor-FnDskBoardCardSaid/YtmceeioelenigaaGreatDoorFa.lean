/- The configuration: types, functions, cuts, orders. -/
import Derived.Test.YtmceeioelenigaaGreatDoorProg
import Derived.KernelRfl
import Derived.Test.YtmceeioelenigaaGreatDoorEh
section
namespace Go.E
def wi(x:Int):Int:=IntKind.i64.wrap x
def wb(x:Int):Int:=IntKind.u8.wrap x
def ln{α:Type}(l:List α):Int:=(l.length:Int)
def gt{α:Type}(l:List α)(i:Int)(z:α):α:=l.getD i.toNat z
end Go.E
namespace T
abbrev I4:=Int×Int×Int×Int
abbrev I5:=Int×I4
abbrev Rs:=Int×Int×List I4
abbrev zp:I4:=(0, 0, 0, 0)
abbrev zo:I5:=(0, 0, 0, 0, 0)
open Go.E
abbrev k4:aC:= .cons (.int .i64) (.cons (.int .i64) (.cons (.int .i64) (.one (.int .i64))))
abbrev k5:aC:= .cons (.int .i64) k4
abbrev ku:aC:= .one (.int .u8)
def m1(o:List I5)(i c:Int):List I5:=o.set i.toNat (c,(gt o i zo).snd)
def m2(o:List I5)(i c:Int):List I5:=o.set i.toNat ((gt o i zo).fst,c,(gt o i zo).snd.snd)
def m3(o:List I5)(i c:Int):List I5:=o.set i.toNat ((gt o i zo).fst,(gt o i zo).snd.fst,c,(gt o i zo).snd.snd.snd)
def m4(o:List I5)(i c:Int):List I5:=o.set i.toNat ((gt o i zo).fst,(gt o i zo).snd.fst,(gt o i zo).snd.snd.fst,c,(gt o i zo).snd.snd.snd.snd)
def m5(o:List I5)(i c:Int):List I5:=o.set i.toNat ((gt o i zo).fst,(gt o i zo).snd.fst,(gt o i zo).snd.snd.fst,(gt o i zo).snd.snd.snd.fst,c)
abbrev kr:aC:= .cons (.int .i64) (.cons (.int .i64) (.one (.sl k4)))
abbrev kt:aC:= .one .bool
abbrev pb:PT:=⟨.one .bool, []⟩
abbrev Om:PT:=⟨.agg kr, [.ro]⟩
abbrev MX:PT:=⟨.agg kr, [.mv]⟩
abbrev lq:PT:=⟨.one (.int .i64), []⟩
abbrev uP:PT:=⟨.one (.sl ku), [.ro]⟩
abbrev pu1:PT:=⟨.one (.sl ku), [.mv]⟩
abbrev iv(x:Int):AV:= .int .i64 x
abbrev uv(x:Int):AV:= .int .u8 x
open Go
abbrev zTs:=Int×Int×Int×Int×List (Int×ByteArray×List I5×Int)×List (ByteArray×Int×List Int)×List ByteArray×List (Int×Int×List Int)
abbrev zCf:=List Int×Int×I5
abbrev zLi:=List Int
abbrev zLb:=List ByteArray
abbrev zT0:=Int×ByteArray×List I5×Int
abbrev zK1:CT:=CT.int IntKind.i64
abbrev zK2:aC:=aC.cons zK1 (aC.cons CT.str (aC.cons (CT.sl k5) (aC.one zK1)))
abbrev zK3:aC:=aC.cons zK1 (aC.one (CT.sl ku))
abbrev zT4:=Int×ByteArray×Int×List Int×Int
abbrev zK5:aC:=aC.one (CT.int IntKind.u64)
abbrev zK6:aC:=aC.cons CT.str zK3
abbrev zT7:=Bool×List Int×List (Int×Int)×Int×Int
abbrev zK8:aC:=aC.one CT.str
abbrev zT9:=Rs×Bool
abbrev afI:aC:=aC.cons zK1 zK3
abbrev agb:=List I5×ByteArray×Int
abbrev agB:=List Int×List Int×Int
abbrev agW:=ByteArray×List Int×Int
abbrev agZ:=List I5×List Int×Int
abbrev afb:=Int×Int
abbrev ahE:aC:=aC.cons zK1 (aC.one zK1)
abbrev agj:=List Int×Bool
abbrev ahk:=Int×List Int×Int
abbrev aho:=(I5)×List Int×Int
abbrev ahv:=zT4×List Int×Int
abbrev ahA:=Rs×List Int×Int
end T
end
section
namespace T
noncomputable section
open Go Go.E Go.Proofs
noncomputable def tys:List (Nat×TI):=[
 (3,{size:=1,bytes:=8,kd:=11,zero:=[.int .i64 0],row:=some (.one (.int .i64))}),
 (22,{size:=1,bytes:=24,kd:=4,elem:=5,zero:=[.aT],row:=some (.one (.sl ku))}),
 (185,{size:=3,bytes:=40,kd:=6,agg:=true,fields:=[(0,3),(1,3),(2,183)],zero:=[.int .i64 0,.int .i64 0,.aT],row:=some kr}),
 (56,{size:=8,bytes:=128,kd:=6,agg:=true,fields:=[(0,3),(1,3),(2,3),(3,3),(4,52),(5,53),(6,43),(7,54)],zero:=[.int .i64 0,.int .i64 0,.int .i64 0,.int .i64 0,.aT,.aT,.aT,.aT],row:=some (.cons (.int .i64) (.cons (.int .i64) (.cons (.int .i64) (.cons (.int .i64) (.cons (.sl (.cons (.int .i64) (.cons (.str) (.cons (.sl k5) (.one (.int .i64)))))) (.cons (.sl (.cons (.str) (.cons (.int .i64) (.one (.sl ku))))) (.cons (.sl (.one (.str))) (.one (.sl (.cons (.int .i64) (.cons (.int .i64) (.one (.sl ku)))))))))))))}),
 (5,{size:=1,bytes:=1,kd:=11,zero:=[.int .u8 0],row:=some ku}),
 (281,{size:=1,bytes:=8,kd:=11,zero:=[.int .u64 0],row:=some (.one (.int .u64))}),
 (9,{size:=1,bytes:=16,kd:=9,zero:=[.str ⟨#[]⟩],row:=some (.one (.str))}),
 (81,{size:=1,bytes:=8,kd:=1,elem:=146,zero:=[.kF]}),
 (93,{size:=4,bytes:=32,kd:=6,agg:=true,fields:=[(0,3),(1,3),(2,3),(3,3)],cmp:=[.int .i64,.int .i64,.int .i64,.int .i64],zero:=[.int .i64 0,.int .i64 0,.int .i64 0,.int .i64 0],row:=some k4}),
 (150,{size:=5,bytes:=40,kd:=6,agg:=true,fields:=[(0,3),(1,3),(2,3),(3,3),(4,3)],cmp:=[.int .i64,.int .i64,.int .i64,.int .i64,.int .i64],zero:=[.int .i64 0,.int .i64 0,.int .i64 0,.int .i64 0,.int .i64 0],row:=some k5}),
 (50,{size:=7,bytes:=72,kd:=6,agg:=true,fields:=[(0,22),(1,3),(2,3),(3,3),(4,3),(5,3),(6,3)],zero:=[.aT,.int .i64 0,.int .i64 0,.int .i64 0,.int .i64 0,.int .i64 0,.int .i64 0],row:=some (.cons (.sl ku) (.cons (.int .i64) k5))}),
 (183,{size:=1,bytes:=24,kd:=4,elem:=93,zero:=[.aT],row:=some (.one (.sl k4))}),
 (43,{size:=1,bytes:=24,kd:=4,elem:=9,zero:=[.aT],row:=some (.one (.sl (.one (.str))))}),
 (53,{size:=1,bytes:=24,kd:=4,elem:=191,zero:=[.aT],row:=some (.one (.sl (.cons (.str) (.cons (.int .i64) (.one (.sl ku))))))}),
 (52,{size:=1,bytes:=24,kd:=4,elem:=189,zero:=[.aT],row:=some (.one (.sl (.cons (.int .i64) (.cons (.str) (.cons (.sl k5) (.one (.int .i64)))))))}),
 (287,{size:=1,bytes:=24,kd:=4,elem:=281,zero:=[.aT],row:=some (.one (.sl (.one (.int .u64))))}),
 (140,{size:=1,bytes:=24,kd:=4,elem:=3,zero:=[.aT],row:=some (.one (.sl (.one (.int .i64))))}),
 (25,{size:=3,bytes:=48,kd:=6,agg:=true,fields:=[(0,23),(1,9),(2,3)],zero:=[.aT,.str ⟨#[]⟩,.int .i64 0],row:=some (.cons (.sl k5) (.cons (.str) (.one (.int .i64))))}),
 (23,{size:=1,bytes:=24,kd:=4,elem:=150,zero:=[.aT],row:=some (.one (.sl k5))}),
 (54,{size:=1,bytes:=24,kd:=4,elem:=111,zero:=[.aT],row:=some (.one (.sl (.cons (.int .i64) (.cons (.int .i64) (.one (.sl ku))))))}),
 (111,{size:=3,bytes:=40,kd:=6,agg:=true,fields:=[(0,3),(1,3),(2,22)],zero:=[.int .i64 0,.int .i64 0,.aT],row:=some (.cons (.int .i64) (.cons (.int .i64) (.one (.sl ku))))}),
 (189,{size:=4,bytes:=56,kd:=6,agg:=true,fields:=[(0,3),(1,9),(2,23),(3,3)],zero:=[.int .i64 0,.str ⟨#[]⟩,.aT,.int .i64 0],row:=some (.cons (.int .i64) (.cons (.str) (.cons (.sl k5) (.one (.int .i64)))))}),
 (278,{size:=1,bytes:=4,kd:=11,zero:=[.int .u32 0],row:=some (.one (.int .u32))}),
 (191,{size:=3,bytes:=48,kd:=6,agg:=true,fields:=[(0,9),(1,3),(2,22)],zero:=[.str ⟨#[]⟩,.int .i64 0,.aT],row:=some (.cons (.str) (.cons (.int .i64) (.one (.sl ku))))}),
 (70,{size:=5,bytes:=64,kd:=6,agg:=true,fields:=[(0,3),(1,9),(2,3),(3,22),(4,3)],zero:=[.int .i64 0,.str ⟨#[]⟩,.int .i64 0,.aT,.int .i64 0],row:=some (.cons (.int .i64) (.cons (.str) (.cons (.int .i64) (.cons (.sl ku) (.one (.int .i64))))))}),
 (225,{size:=1,bytes:=24,kd:=4,elem:=22,zero:=[.aT],row:=some (.one (.sl (.one (.sl ku))))}),
 (395,{size:=4,bytes:=64,kd:=6,agg:=true,fields:=[(0,22),(1,391),(2,393)],zero:=[.aT,.aT,.int .i64 0,.int .i64 0],row:=some (.cons (.sl ku) (.cons (.sl (.cons (.int .i64) (.one (.int .i64)))) (.cons (.int .i64) (.one (.int .i64)))))}),
 (390,{size:=3,bytes:=40,kd:=6,agg:=true,fields:=[(0,22),(1,3),(2,4)],zero:=[.aT,.int .i64 0,.bool false],row:=some (.cons (.sl ku) (.cons (.int .i64) kt))}),
 (146,{size:=2,bytes:=32,kd:=6,agg:=true,fields:=[(0,22),(1,3)],zero:=[.aT,.int .i64 0],row:=some (.cons (.sl ku) (.one (.int .i64)))}),
 (387,{size:=1,bytes:=24,kd:=4,elem:=93,zero:=[.aT],row:=some (.one (.sl k4))}),
 (358,{size:=1,bytes:=24,kd:=4,elem:=361,zero:=[.aT],row:=some (.one (.sl (.cons (.int .i64) (.one (.int .i64)))))}),
 (391,{size:=1,bytes:=24,kd:=4,elem:=393,zero:=[.aT],row:=some (.one (.sl (.cons (.int .i64) (.one (.int .i64)))))}),
 (361,{size:=2,bytes:=16,kd:=6,agg:=true,fields:=[(0,3),(1,3)],cmp:=[.int .i64,.int .i64],zero:=[.int .i64 0,.int .i64 0],row:=some (.cons (.int .i64) (.one (.int .i64)))}),
 (393,{size:=2,bytes:=16,kd:=6,agg:=true,fields:=[(0,3),(1,3)],cmp:=[.int .i64,.int .i64],zero:=[.int .i64 0,.int .i64 0],row:=some (.cons (.int .i64) (.one (.int .i64)))}),
 (2,{size:=1,bytes:=8,kd:=11,zero:=[.int .i64 0],row:=some (.one (.int .i64))}),
 (4,{size:=1,bytes:=1,kd:=10,zero:=[.bool false],row:=some kt}),
 (333,{size:=65,bytes:=65,kd:=5,agg:=true,elem:=5,len:=65,cmp:=[.int .u8,.int .u8,.int .u8,.int .u8,.int .u8,.int .u8,.int .u8,.int .u8,.int .u8,.int .u8,.int .u8,.int .u8,.int .u8,.int .u8,.int .u8,.int .u8,.int .u8,.int .u8,.int .u8,.int .u8,.int .u8,.int .u8,.int .u8,.int .u8,.int .u8,.int .u8,.int .u8,.int .u8,.int .u8,.int .u8,.int .u8,.int .u8,.int .u8,.int .u8,.int .u8,.int .u8,.int .u8,.int .u8,.int .u8,.int .u8,.int .u8,.int .u8,.int .u8,.int .u8,.int .u8,.int .u8,.int .u8,.int .u8,.int .u8,.int .u8,.int .u8,.int .u8,.int .u8,.int .u8,.int .u8,.int .u8,.int .u8,.int .u8,.int .u8,.int .u8,.int .u8,.int .u8,.int .u8,.int .u8,.int .u8],zero:=[.int .u8 0,.int .u8 0,.int .u8 0,.int .u8 0,.int .u8 0,.int .u8 0,.int .u8 0,.int .u8 0,.int .u8 0,.int .u8 0,.int .u8 0,.int .u8 0,.int .u8 0,.int .u8 0,.int .u8 0,.int .u8 0,.int .u8 0,.int .u8 0,.int .u8 0,.int .u8 0,.int .u8 0,.int .u8 0,.int .u8 0,.int .u8 0,.int .u8 0,.int .u8 0,.int .u8 0,.int .u8 0,.int .u8 0,.int .u8 0,.int .u8 0,.int .u8 0,.int .u8 0,.int .u8 0,.int .u8 0,.int .u8 0,.int .u8 0,.int .u8 0,.int .u8 0,.int .u8 0,.int .u8 0,.int .u8 0,.int .u8 0,.int .u8 0,.int .u8 0,.int .u8 0,.int .u8 0,.int .u8 0,.int .u8 0,.int .u8 0,.int .u8 0,.int .u8 0,.int .u8 0,.int .u8 0,.int .u8 0,.int .u8 0,.int .u8 0,.int .u8 0,.int .u8 0,.int .u8 0,.int .u8 0,.int .u8 0,.int .u8 0,.int .u8 0,.int .u8 0]}),
 (154,{size:=1,bytes:=8,kd:=11,zero:=[.int .u64 0],row:=some (.one (.int .u64))}),
 (313,{size:=1,bytes:=8,kd:=7,elem:=5,len:=261,zero:=[.raw (.map none)]}),
 (314,{size:=4,bytes:=4,kd:=5,agg:=true,elem:=5,len:=4,cmp:=[.int .u8,.int .u8,.int .u8,.int .u8],zero:=[.int .u8 0,.int .u8 0,.int .u8 0,.int .u8 0]}),
 (303,{size:=24,bytes:=24,kd:=5,agg:=true,elem:=5,len:=24,cmp:=[.int .u8,.int .u8,.int .u8,.int .u8,.int .u8,.int .u8,.int .u8,.int .u8,.int .u8,.int .u8,.int .u8,.int .u8,.int .u8,.int .u8,.int .u8,.int .u8,.int .u8,.int .u8,.int .u8,.int .u8,.int .u8,.int .u8,.int .u8,.int .u8],zero:=[.int .u8 0,.int .u8 0,.int .u8 0,.int .u8 0,.int .u8 0,.int .u8 0,.int .u8 0,.int .u8 0,.int .u8 0,.int .u8 0,.int .u8 0,.int .u8 0,.int .u8 0,.int .u8 0,.int .u8 0,.int .u8 0,.int .u8 0,.int .u8 0,.int .u8 0,.int .u8 0,.int .u8 0,.int .u8 0,.int .u8 0,.int .u8 0]}),
 (209,{size:=1,bytes:=24,kd:=4,elem:=70,zero:=[.aT],row:=some (.one (.sl (.cons (.int .i64) (.cons (.str) (.cons (.int .i64) (.cons (.sl ku) (.one (.int .i64))))))))}),
 (309,{size:=0,bytes:=0,kd:=6,agg:=true,zero:=[]}),
 (310,{size:=0,bytes:=0,kd:=6,agg:=true,zero:=[]}),
 (311,{size:=0,bytes:=0,kd:=6,agg:=true,zero:=[]}),
 (312,{size:=0,bytes:=0,kd:=6,agg:=true,zero:=[]}),
 (386,{size:=1,bytes:=8,kd:=3,zero:=[.jo]}),
 (261,{size:=1,bytes:=16,kd:=2,zero:=[.nZ]}),
 (280,{size:=64,bytes:=64,kd:=5,agg:=true,elem:=5,len:=64,cmp:=[.int .u8,.int .u8,.int .u8,.int .u8,.int .u8,.int .u8,.int .u8,.int .u8,.int .u8,.int .u8,.int .u8,.int .u8,.int .u8,.int .u8,.int .u8,.int .u8,.int .u8,.int .u8,.int .u8,.int .u8,.int .u8,.int .u8,.int .u8,.int .u8,.int .u8,.int .u8,.int .u8,.int .u8,.int .u8,.int .u8,.int .u8,.int .u8,.int .u8,.int .u8,.int .u8,.int .u8,.int .u8,.int .u8,.int .u8,.int .u8,.int .u8,.int .u8,.int .u8,.int .u8,.int .u8,.int .u8,.int .u8,.int .u8,.int .u8,.int .u8,.int .u8,.int .u8,.int .u8,.int .u8,.int .u8,.int .u8,.int .u8,.int .u8,.int .u8,.int .u8,.int .u8,.int .u8,.int .u8,.int .u8],zero:=[.int .u8 0,.int .u8 0,.int .u8 0,.int .u8 0,.int .u8 0,.int .u8 0,.int .u8 0,.int .u8 0,.int .u8 0,.int .u8 0,.int .u8 0,.int .u8 0,.int .u8 0,.int .u8 0,.int .u8 0,.int .u8 0,.int .u8 0,.int .u8 0,.int .u8 0,.int .u8 0,.int .u8 0,.int .u8 0,.int .u8 0,.int .u8 0,.int .u8 0,.int .u8 0,.int .u8 0,.int .u8 0,.int .u8 0,.int .u8 0,.int .u8 0,.int .u8 0,.int .u8 0,.int .u8 0,.int .u8 0,.int .u8 0,.int .u8 0,.int .u8 0,.int .u8 0,.int .u8 0,.int .u8 0,.int .u8 0,.int .u8 0,.int .u8 0,.int .u8 0,.int .u8 0,.int .u8 0,.int .u8 0,.int .u8 0,.int .u8 0,.int .u8 0,.int .u8 0,.int .u8 0,.int .u8 0,.int .u8 0,.int .u8 0,.int .u8 0,.int .u8 0,.int .u8 0,.int .u8 0,.int .u8 0,.int .u8 0,.int .u8 0,.int .u8 0]}),
 (332,{size:=20,bytes:=160,kd:=5,agg:=true,elem:=281,len:=20,cmp:=[.int .u64,.int .u64,.int .u64,.int .u64,.int .u64,.int .u64,.int .u64,.int .u64,.int .u64,.int .u64,.int .u64,.int .u64,.int .u64,.int .u64,.int .u64,.int .u64,.int .u64,.int .u64,.int .u64,.int .u64],zero:=[.int .u64 0,.int .u64 0,.int .u64 0,.int .u64 0,.int .u64 0,.int .u64 0,.int .u64 0,.int .u64 0,.int .u64 0,.int .u64 0,.int .u64 0,.int .u64 0,.int .u64 0,.int .u64 0,.int .u64 0,.int .u64 0,.int .u64 0,.int .u64 0,.int .u64 0,.int .u64 0]}),
 (356,{size:=32,bytes:=32,kd:=5,agg:=true,elem:=5,len:=32,cmp:=[.int .u8,.int .u8,.int .u8,.int .u8,.int .u8,.int .u8,.int .u8,.int .u8,.int .u8,.int .u8,.int .u8,.int .u8,.int .u8,.int .u8,.int .u8,.int .u8,.int .u8,.int .u8,.int .u8,.int .u8,.int .u8,.int .u8,.int .u8,.int .u8,.int .u8,.int .u8,.int .u8,.int .u8,.int .u8,.int .u8,.int .u8,.int .u8],zero:=[.int .u8 0,.int .u8 0,.int .u8 0,.int .u8 0,.int .u8 0,.int .u8 0,.int .u8 0,.int .u8 0,.int .u8 0,.int .u8 0,.int .u8 0,.int .u8 0,.int .u8 0,.int .u8 0,.int .u8 0,.int .u8 0,.int .u8 0,.int .u8 0,.int .u8 0,.int .u8 0,.int .u8 0,.int .u8 0,.int .u8 0,.int .u8 0,.int .u8 0,.int .u8 0,.int .u8 0,.int .u8 0,.int .u8 0,.int .u8 0,.int .u8 0,.int .u8 0]})]
noncomputable def fns:List (Nat×Func):=[(89,Tryz.f89),(59,Tryz.f59),(93,Tryz.f93),(73,Tryz.f73),(247,Tryz.f247),(80,Tryz.f80),(102,Tryz.f102),(191,Tryz.f191),(213,Tryz.f213),(120,Tryz.f120),(259,Tryz.f259),(50,Tryz.f50),(57,Tryz.f57),(58,Tryz.f58),(98,Tryz.f98),(185,Tryz.f185),(92,Tryz.f92),(113,Tryz.f113),(159,Tryz.f159),(169,Tryz.f169),(220,Tryz.f220),(221,Tryz.f221),(261,Tryz.f261),(281,Tryz.f281),(333,Tryz.f333),(13,Tryz.f13),(48,Tryz.f48),(55,Tryz.f55),(56,Tryz.f56),(99,Tryz.f99),(105,Tryz.f105),(107,Tryz.f107),(111,Tryz.f111),(119,Tryz.f119),(132,Tryz.f132),(148,Tryz.f148),(158,Tryz.f158),(168,Tryz.f168),(182,Tryz.f182),(184,Tryz.f184),(209,Tryz.f209),(240,Tryz.f240),(241,Tryz.f241),(262,Tryz.f262),(264,Tryz.f264),(274,Tryz.f274),(286,Tryz.f286),(334,Tryz.f334),(336,Tryz.f336),(337,Tryz.f337),(12,Tryz.f12),(14,Tryz.f14),(17,Tryz.f17),(26,Tryz.f26),(29,Tryz.f29),(46,Tryz.f46),(47,Tryz.f47),(49,Tryz.f49),(51,Tryz.f51),(53,Tryz.f53),(60,Tryz.f60),(64,Tryz.f64),(74,Tryz.f74),(79,Tryz.f79),(81,Tryz.f81),(90,Tryz.f90),(91,Tryz.f91),(106,Tryz.f106),(108,Tryz.f108),(109,Tryz.f109),(110,Tryz.f110),(112,Tryz.f112),(117,Tryz.f117),(118,Tryz.f118),(127,Tryz.f127),(136,Tryz.f136),(137,Tryz.f137),(138,Tryz.f138),(139,Tryz.f139),(140,Tryz.f140),(141,Tryz.f141),(142,Tryz.f142),(143,Tryz.f143),(147,Tryz.f147),(150,Tryz.f150),(157,Tryz.f157),(160,Tryz.f160),(180,Tryz.f180),(183,Tryz.f183),(187,Tryz.f187),(188,Tryz.f188),(189,Tryz.f189),(190,Tryz.f190),(192,Tryz.f192),(193,Tryz.f193),(194,Tryz.f194),(195,Tryz.f195),(200,Tryz.f200),(201,Tryz.f201),(202,Tryz.f202),(203,Tryz.f203),(207,Tryz.f207),(208,Tryz.f208),(210,Tryz.f210),(211,Tryz.f211),(212,Tryz.f212),(222,Tryz.f222),(223,Tryz.f223),(224,Tryz.f224),(225,Tryz.f225),(227,Tryz.f227),(228,Tryz.f228),(229,Tryz.f229),(230,Tryz.f230),(231,Tryz.f231),(232,Tryz.f232),(233,Tryz.f233),(234,Tryz.f234),(235,Tryz.f235),(245,Tryz.f245),(246,Tryz.f246),(250,Tryz.f250),(251,Tryz.f251),(252,Tryz.f252),(253,Tryz.f253),(254,Tryz.f254),(255,Tryz.f255),(256,Tryz.f256),(257,Tryz.f257),(258,Tryz.f258),(260,Tryz.f260),(263,Tryz.f263),(265,Tryz.f265),(271,Tryz.f271),(273,Tryz.f273),(275,Tryz.f275),(276,Tryz.f276),(277,Tryz.f277),(278,Tryz.f278),(282,Tryz.f282),(283,Tryz.f283),(284,Tryz.f284),(285,Tryz.f285),(287,Tryz.f287),(288,Tryz.f288),(289,Tryz.f289),(290,Tryz.f290),(291,Tryz.f291),(292,Tryz.f292),(293,Tryz.f293),(294,Tryz.f294),(295,Tryz.f295),(296,Tryz.f296),(297,Tryz.f297),(335,Tryz.f335),(340,Tryz.f340),(341,Tryz.f341),(342,Tryz.f342),(347,Tryz.f347),(348,Tryz.f348),(349,Tryz.f349),(350,Tryz.f350),(9,Tryz.f9),(331,Tryz.f331),(338,Tryz.f338),(343,Tryz.f343),(345,Tryz.f345)]
abbrev s9:dX:=⟨[⟨.one (.sl ku),[.leak]⟩],[pb],false⟩
abbrev s12:dX:=⟨[uP,⟨.agg (.cons (.sl k5) (.cons (.str) (.one (.int .i64)))),[.ro]⟩],[⟨.one (.str),[]⟩],false⟩
abbrev s13:dX:=⟨[⟨.agg (.cons (.sl k5) (.cons (.str) (.one (.int .i64)))),[.ro]⟩],[pb],false⟩
abbrev s14:dX:=⟨[],[pb],false⟩
abbrev s17:dX:=⟨[uP,⟨.one (.str),[]⟩,lq],[⟨.agg (.cons (.sl k5) (.cons (.str) (.one (.int .i64)))),[.mv]⟩,lq],false⟩
abbrev s26:dX:=⟨[⟨.agg (.cons (.sl ku) (.cons (.int .i64) k5)),[.ro]⟩,⟨.agg (.cons (.int .i64) (.cons (.int .i64) (.cons (.int .i64) (.cons (.int .i64) (.cons (.sl (.cons (.int .i64) (.cons (.str) (.cons (.sl k5) (.one (.int .i64)))))) (.cons (.sl (.cons (.str) (.cons (.int .i64) (.one (.sl ku))))) (.cons (.sl (.one (.str))) (.one (.sl (.cons (.int .i64) (.cons (.int .i64) (.one (.sl ku))))))))))))),[.ro,.ro,.ro,.ro]⟩],[⟨.one (.sl (.one (.str))),[.mv]⟩],false⟩
abbrev s29:dX:=⟨[⟨.agg (.cons (.sl ku) (.cons (.int .i64) k5)),[.ro]⟩,⟨.agg (.cons (.int .i64) (.cons (.int .i64) (.cons (.int .i64) (.cons (.int .i64) (.cons (.sl (.cons (.int .i64) (.cons (.str) (.cons (.sl k5) (.one (.int .i64)))))) (.cons (.sl (.cons (.str) (.cons (.int .i64) (.one (.sl ku))))) (.cons (.sl (.one (.str))) (.one (.sl (.cons (.int .i64) (.cons (.int .i64) (.one (.sl ku))))))))))))),[.ro,.ro,.ro,.ro]⟩],[⟨.one (.sl (.one (.str))),[.mv]⟩],false⟩
abbrev s46:dX:=⟨[⟨.one (.sl ku),[.leak]⟩],[⟨.agg (.cons (.sl ku) (.cons (.int .i64) k5)),[.mv]⟩,⟨.agg (.cons (.int .i64) (.cons (.int .i64) (.cons (.int .i64) (.cons (.int .i64) (.cons (.sl (.cons (.int .i64) (.cons (.str) (.cons (.sl k5) (.one (.int .i64)))))) (.cons (.sl (.cons (.str) (.cons (.int .i64) (.one (.sl ku))))) (.cons (.sl (.one (.str))) (.one (.sl (.cons (.int .i64) (.cons (.int .i64) (.one (.sl ku))))))))))))),[.mv,.mv,.mv,.mv]⟩],false⟩
abbrev s47:dX:=⟨[⟨.one (.sl (.one (.str))),[.ro]⟩,⟨.one (.sl (.one (.str))),[.ro]⟩],[pb],false⟩
abbrev s48:dX:=⟨[⟨.agg (.cons (.sl ku) (.cons (.int .i64) k5)),[.ro]⟩,⟨.agg (.cons (.int .i64) (.cons (.int .i64) (.cons (.int .i64) (.cons (.int .i64) (.cons (.sl (.cons (.int .i64) (.cons (.str) (.cons (.sl k5) (.one (.int .i64)))))) (.cons (.sl (.cons (.str) (.cons (.int .i64) (.one (.sl ku))))) (.cons (.sl (.one (.str))) (.one (.sl (.cons (.int .i64) (.cons (.int .i64) (.one (.sl ku))))))))))))),[.ro,.ro,.ro,.ro]⟩],[pb],false⟩
abbrev s50:dX:=⟨[⟨.st (.cons (.sl ku) (.one (.int .i64))),[.leak]⟩,lq],[pu1,⟨.st (.cons (.sl ku) (.one (.int .i64))),[.ro]⟩],false⟩
abbrev s51:dX:=⟨[⟨.st (.cons (.sl ku) (.one (.int .i64))),[.leak]⟩,lq],[⟨.agg (.cons (.sl k5) (.cons (.str) (.one (.int .i64)))),[.mv]⟩,⟨.st (.cons (.sl ku) (.one (.int .i64))),[.ro]⟩],false⟩
abbrev s53:dX:=⟨[uP],[⟨.one (.str),[]⟩],false⟩
abbrev s55:dX:=⟨[⟨.agg (.cons (.sl k5) (.cons (.str) (.one (.int .i64)))),[.ro]⟩],[⟨.one (.str),[]⟩],false⟩
abbrev s56:dX:=⟨[uP,⟨.one (.str),[]⟩],[⟨.one (.str),[]⟩],false⟩
abbrev s57:dX:=⟨[⟨.one (.sl k5),[.ro]⟩],[pb],false⟩
abbrev s58:dX:=⟨[⟨.one (.str),[]⟩],[pb],false⟩
abbrev s59:dX:=⟨[lq,lq,lq],[pb],false⟩
abbrev s60:dX:=⟨[⟨.agg k4,[]⟩],[pb],false⟩
abbrev s64:dX:=⟨[⟨.one (.str),[]⟩],[⟨.agg (.cons (.sl k5) (.cons (.str) (.one (.int .i64)))),[.mv]⟩,pb],false⟩
abbrev s73:dX:=⟨[lq],[⟨.one (.str),[]⟩],false⟩
abbrev s74:dX:=⟨[uP],[⟨.one (.str),[]⟩],false⟩
abbrev s79:dX:=⟨[⟨.agg (.cons (.sl ku) (.cons (.int .i64) k5)),[.ro]⟩,⟨.agg (.cons (.int .i64) (.cons (.int .i64) (.cons (.int .i64) (.cons (.int .i64) (.cons (.sl (.cons (.int .i64) (.cons (.str) (.cons (.sl k5) (.one (.int .i64)))))) (.cons (.sl (.cons (.str) (.cons (.int .i64) (.one (.sl ku))))) (.cons (.sl (.one (.str))) (.one (.sl (.cons (.int .i64) (.cons (.int .i64) (.one (.sl ku))))))))))))),[.ro,.ro,.ro,.ro]⟩],[pb],false⟩
abbrev s80:dX:=⟨[lq],[⟨.one (.str),[]⟩],false⟩
abbrev s81:dX:=⟨[uP],[⟨.one (.str),[]⟩],false⟩
abbrev s89:dX:=⟨[⟨.st (.cons (.sl ku) (.one (.int .i64))),[.leak]⟩,lq],[lq,⟨.st (.cons (.sl ku) (.one (.int .i64))),[.ro]⟩],false⟩
abbrev s90:dX:=⟨[⟨.st (.cons (.sl ku) (.one (.int .i64))),[.leak]⟩,⟨.one (.str),[]⟩],[⟨.one (.str),[]⟩,⟨.st (.cons (.sl ku) (.one (.int .i64))),[.ro]⟩],false⟩
abbrev s91:dX:=⟨[⟨.one (.sl k5),[.ro]⟩],[pb],false⟩
abbrev s92:dX:=⟨[⟨.one (.str),[]⟩],[pb],false⟩
abbrev s93:dX:=⟨[lq,lq,lq],[pb],false⟩
abbrev s98:dX:=⟨[⟨.one (.str),[]⟩,⟨.one (.int .u8),[]⟩],[⟨.one (.sl (.one (.str))),[.mv]⟩],false⟩
abbrev s99:dX:=⟨[⟨.one (.str),[]⟩],[lq],false⟩
abbrev aaG:dX:=⟨[⟨.st (.cons (.sl ku) (.one (.int .i64))),[.leak]⟩,lq],[pb,⟨.st (.cons (.sl ku) (.one (.int .i64))),[.ro]⟩],false⟩
abbrev X8:dX:=⟨[uP],[⟨.one (.str),[]⟩],false⟩
abbrev UK:dX:=⟨[⟨.st (.cons (.sl ku) (.one (.int .i64))),[.leak]⟩,lq],[⟨.agg (.cons (.sl ku) (.cons (.int .i64) k5)),[.mv]⟩,⟨.agg (.cons (.int .i64) (.cons (.int .i64) (.cons (.int .i64) (.cons (.int .i64) (.cons (.sl (.cons (.int .i64) (.cons (.str) (.cons (.sl k5) (.one (.int .i64)))))) (.cons (.sl (.cons (.str) (.cons (.int .i64) (.one (.sl ku))))) (.cons (.sl (.one (.str))) (.one (.sl (.cons (.int .i64) (.cons (.int .i64) (.one (.sl ku))))))))))))),[.mv,.mv,.mv,.mv]⟩,⟨.st (.cons (.sl ku) (.one (.int .i64))),[.ro]⟩],false⟩
abbrev aaH:dX:=⟨[⟨.agg (.cons (.sl ku) (.cons (.int .i64) k5)),[.ro]⟩],[pb],false⟩
abbrev X9:dX:=⟨[⟨.agg (.cons (.sl ku) (.cons (.int .i64) k5)),[.ro]⟩,⟨.agg (.cons (.int .i64) (.cons (.int .i64) (.cons (.int .i64) (.cons (.int .i64) (.cons (.sl (.cons (.int .i64) (.cons (.str) (.cons (.sl k5) (.one (.int .i64)))))) (.cons (.sl (.cons (.str) (.cons (.int .i64) (.one (.sl ku))))) (.cons (.sl (.one (.str))) (.one (.sl (.cons (.int .i64) (.cons (.int .i64) (.one (.sl ku))))))))))))),[.ro,.ro,.ro,.ro]⟩],[pb],false⟩
abbrev Ya:dX:=⟨[⟨.agg (.cons (.sl ku) (.cons (.int .i64) k5)),[.ro]⟩,⟨.agg (.cons (.int .i64) (.cons (.int .i64) (.cons (.int .i64) (.cons (.int .i64) (.cons (.sl (.cons (.int .i64) (.cons (.str) (.cons (.sl k5) (.one (.int .i64)))))) (.cons (.sl (.cons (.str) (.cons (.int .i64) (.one (.sl ku))))) (.cons (.sl (.one (.str))) (.one (.sl (.cons (.int .i64) (.cons (.int .i64) (.one (.sl ku))))))))))))),[.ro,.ro,.ro,.ro]⟩],[pb],false⟩
abbrev UL:dX:=⟨[⟨.agg (.cons (.int .i64) (.cons (.int .i64) (.cons (.int .i64) (.cons (.int .i64) (.cons (.sl (.cons (.int .i64) (.cons (.str) (.cons (.sl k5) (.one (.int .i64)))))) (.cons (.sl (.cons (.str) (.cons (.int .i64) (.one (.sl ku))))) (.cons (.sl (.one (.str))) (.one (.sl (.cons (.int .i64) (.cons (.int .i64) (.one (.sl ku))))))))))))),[.ro,.ro,.ro,.ro]⟩],[pb],false⟩
abbrev RX:dX:=⟨[⟨.st (.cons (.sl ku) (.one (.int .i64))),[.leak]⟩,lq],[⟨.one (.sl k5),[.mv]⟩,⟨.st (.cons (.sl ku) (.one (.int .i64))),[.ro]⟩],false⟩
abbrev aaI:dX:=⟨[⟨.st (.cons (.sl ku) (.one (.int .i64))),[.leak]⟩],[⟨.one (.str),[]⟩,⟨.st (.cons (.sl ku) (.one (.int .i64))),[.ro]⟩],false⟩
abbrev Yb:dX:=⟨[⟨.st (.cons (.sl ku) (.one (.int .i64))),[.leak]⟩,lq],[⟨.agg k5,[]⟩,⟨.st (.cons (.sl ku) (.one (.int .i64))),[.ro]⟩],false⟩
abbrev Yc:dX:=⟨[⟨.one (.sl k5),[.ro]⟩],[⟨.one (.str),[]⟩],false⟩
abbrev UM:dX:=⟨[uP,uP],[pu1],false⟩
abbrev aaJ:dX:=⟨[⟨.agg k5,[]⟩],[pb],false⟩
abbrev aaK:dX:=⟨[lq],[pb],false⟩
abbrev Yd:dX:=⟨[⟨.one (.str),[]⟩],[⟨.one (.sl k5),[.mv]⟩,pb],false⟩
abbrev aaL:dX:=⟨[uP],[MX,lq],false⟩
abbrev aaM:dX:=⟨[⟨.agg (.cons (.sl ku) (.cons (.int .i64) k5)),[.ro]⟩],[pb],false⟩
abbrev Ye:dX:=⟨[⟨.agg (.cons (.sl ku) (.cons (.int .i64) k5)),[.ro]⟩,⟨.agg (.cons (.int .i64) (.cons (.int .i64) (.cons (.int .i64) (.cons (.int .i64) (.cons (.sl (.cons (.int .i64) (.cons (.str) (.cons (.sl k5) (.one (.int .i64)))))) (.cons (.sl (.cons (.str) (.cons (.int .i64) (.one (.sl ku))))) (.cons (.sl (.one (.str))) (.one (.sl (.cons (.int .i64) (.cons (.int .i64) (.one (.sl ku))))))))))))),[.ro,.ro,.ro,.ro]⟩],[pb],false⟩
abbrev UN:dX:=⟨[⟨.agg (.cons (.sl ku) (.cons (.int .i64) k5)),[.ro]⟩,⟨.agg (.cons (.int .i64) (.cons (.int .i64) (.cons (.int .i64) (.cons (.int .i64) (.cons (.sl (.cons (.int .i64) (.cons (.str) (.cons (.sl k5) (.one (.int .i64)))))) (.cons (.sl (.cons (.str) (.cons (.int .i64) (.one (.sl ku))))) (.cons (.sl (.one (.str))) (.one (.sl (.cons (.int .i64) (.cons (.int .i64) (.one (.sl ku))))))))))))),[.ro,.ro,.ro,.ro]⟩],[pb],false⟩
abbrev Yf:dX:=⟨[⟨.agg (.cons (.int .i64) (.cons (.int .i64) (.cons (.int .i64) (.cons (.int .i64) (.cons (.sl (.cons (.int .i64) (.cons (.str) (.cons (.sl k5) (.one (.int .i64)))))) (.cons (.sl (.cons (.str) (.cons (.int .i64) (.one (.sl ku))))) (.cons (.sl (.one (.str))) (.one (.sl (.cons (.int .i64) (.cons (.int .i64) (.one (.sl ku))))))))))))),[.ro,.ro,.ro,.ro]⟩],[pb],false⟩
abbrev Yg:dX:=⟨[⟨.agg (.cons (.int .i64) (.cons (.int .i64) (.cons (.int .i64) (.cons (.int .i64) (.cons (.sl (.cons (.int .i64) (.cons (.str) (.cons (.sl k5) (.one (.int .i64)))))) (.cons (.sl (.cons (.str) (.cons (.int .i64) (.one (.sl ku))))) (.cons (.sl (.one (.str))) (.one (.sl (.cons (.int .i64) (.cons (.int .i64) (.one (.sl ku))))))))))))),[.ro,.ro,.ro,.ro]⟩],[pb],false⟩
abbrev aaN:dX:=⟨[lq],[⟨.one (.str),[]⟩],false⟩
abbrev aaO:dX:=⟨[uP],[MX,lq],false⟩
abbrev aaP:dX:=⟨[pu1,⟨.agg k4,[]⟩],[pu1],false⟩
abbrev aaQ:dX:=⟨[⟨.agg k5,[]⟩],[pb],false⟩
abbrev aaR:dX:=⟨[⟨.st (.cons (.sl ku) (.one (.int .i64))),[.leak]⟩,lq],[⟨.agg (.cons (.sl ku) (.cons (.int .i64) k5)),[.mv]⟩,⟨.st (.cons (.sl ku) (.one (.int .i64))),[.ro]⟩],false⟩
abbrev Yh:dX:=⟨[⟨.st (.cons (.sl ku) (.one (.int .i64))),[.leak]⟩,⟨.agg (.cons (.sl ku) (.cons (.int .i64) k5)),[.ro]⟩,⟨.agg (.cons (.int .i64) (.cons (.int .i64) (.cons (.int .i64) (.cons (.int .i64) (.cons (.sl (.cons (.int .i64) (.cons (.str) (.cons (.sl k5) (.one (.int .i64)))))) (.cons (.sl (.cons (.str) (.cons (.int .i64) (.one (.sl ku))))) (.cons (.sl (.one (.str))) (.one (.sl (.cons (.int .i64) (.cons (.int .i64) (.one (.sl ku))))))))))))),[.ro,.ro,.ro,.ro]⟩],[⟨.agg (.cons (.int .i64) (.cons (.str) (.cons (.int .i64) (.cons (.sl ku) (.one (.int .i64)))))),[.mv]⟩,⟨.st (.cons (.sl ku) (.one (.int .i64))),[.ro]⟩],false⟩
abbrev Yi:dX:=⟨[⟨.st (.cons (.sl ku) (.one (.int .i64))),[.leak]⟩,lq],[⟨.agg (.cons (.sl ku) (.cons (.int .i64) k5)),[.mv]⟩,⟨.one (.sl (.cons (.int .i64) (.cons (.str) (.cons (.int .i64) (.cons (.sl ku) (.one (.int .i64))))))),[.mv]⟩,⟨.agg (.cons (.int .i64) (.cons (.int .i64) (.cons (.int .i64) (.cons (.int .i64) (.cons (.sl (.cons (.int .i64) (.cons (.str) (.cons (.sl k5) (.one (.int .i64)))))) (.cons (.sl (.cons (.str) (.cons (.int .i64) (.one (.sl ku))))) (.cons (.sl (.one (.str))) (.one (.sl (.cons (.int .i64) (.cons (.int .i64) (.one (.sl ku))))))))))))),[.mv,.mv,.mv,.mv]⟩,⟨.st (.cons (.sl ku) (.one (.int .i64))),[.ro]⟩],false⟩
abbrev aaS:dX:=⟨[⟨.st (.cons (.sl ku) (.one (.int .i64))),[.leak]⟩,lq],[pu1,⟨.st (.cons (.sl ku) (.one (.int .i64))),[.ro]⟩],false⟩
abbrev Yj:dX:=⟨[⟨.one (.sl (.cons (.str) (.cons (.int .i64) (.one (.sl ku))))),[.ro]⟩,⟨.one (.str),[]⟩],[lq],false⟩
abbrev Yk:dX:=⟨[lq],[pb],false⟩
abbrev Yl:dX:=⟨[⟨.agg k5,[]⟩],[⟨.one (.str),[]⟩],false⟩
abbrev JH:dX:=⟨[uP],[pu1],false⟩
abbrev UO:dX:=⟨[⟨.one (.str),[]⟩],[⟨.agg k5,[]⟩,pb],false⟩
abbrev aaT:dX:=⟨[⟨.one (.int .u8),[]⟩],[pb],false⟩
abbrev aaU:dX:=⟨[⟨.one (.int .u8),[]⟩,uP],[MX,pb],false⟩
abbrev aaV:dX:=⟨[uP],[pu1],false⟩
abbrev Ym:dX:=⟨[Om],[pb],false⟩
abbrev aaW:dX:=⟨[lq],[pb],false⟩
abbrev RY:dX:=⟨[lq,lq],[⟨.one (.str),[]⟩],false⟩
abbrev aaX:dX:=⟨[lq],[pb],false⟩
abbrev aaY:dX:=⟨[⟨.agg (.cons (.sl ku) (.cons (.int .i64) k5)),[.ro]⟩],[⟨.agg (.cons (.int .i64) (.cons (.int .i64) (.cons (.int .i64) (.cons (.int .i64) (.cons (.sl (.cons (.int .i64) (.cons (.str) (.cons (.sl k5) (.one (.int .i64)))))) (.cons (.sl (.cons (.str) (.cons (.int .i64) (.one (.sl ku))))) (.cons (.sl (.one (.str))) (.one (.sl (.cons (.int .i64) (.cons (.int .i64) (.one (.sl ku))))))))))))),[.mv,.mv,.mv,.mv]⟩],false⟩
abbrev aaZ:dX:=⟨[⟨.st (.cons (.sl ku) (.one (.int .i64))),[.leak]⟩,uP],[⟨.one (.str),[]⟩,⟨.st (.cons (.sl ku) (.one (.int .i64))),[.ro]⟩],false⟩
abbrev aa0:dX:=⟨[⟨.agg (.cons (.sl ku) (.cons (.int .i64) k5)),[.ro]⟩,⟨.agg (.cons (.int .i64) (.cons (.int .i64) (.cons (.int .i64) (.cons (.int .i64) (.cons (.sl (.cons (.int .i64) (.cons (.str) (.cons (.sl k5) (.one (.int .i64)))))) (.cons (.sl (.cons (.str) (.cons (.int .i64) (.one (.sl ku))))) (.cons (.sl (.one (.str))) (.one (.sl (.cons (.int .i64) (.cons (.int .i64) (.one (.sl ku))))))))))))),[.mv,.mv,.mv,.mv]⟩,⟨.agg (.cons (.int .i64) (.cons (.str) (.cons (.int .i64) (.cons (.sl ku) (.one (.int .i64)))))),[.ro]⟩],[⟨.agg (.cons (.int .i64) (.cons (.int .i64) (.cons (.int .i64) (.cons (.int .i64) (.cons (.sl (.cons (.int .i64) (.cons (.str) (.cons (.sl k5) (.one (.int .i64)))))) (.cons (.sl (.cons (.str) (.cons (.int .i64) (.one (.sl ku))))) (.cons (.sl (.one (.str))) (.one (.sl (.cons (.int .i64) (.cons (.int .i64) (.one (.sl ku))))))))))))),[.mv,.mv,.mv,.mv]⟩],false⟩
abbrev RZ:dX:=⟨[⟨.agg (.cons (.int .i64) (.cons (.int .i64) (.cons (.int .i64) (.cons (.int .i64) (.cons (.sl (.cons (.int .i64) (.cons (.str) (.cons (.sl k5) (.one (.int .i64)))))) (.cons (.sl (.cons (.str) (.cons (.int .i64) (.one (.sl ku))))) (.cons (.sl (.one (.str))) (.one (.sl (.cons (.int .i64) (.cons (.int .i64) (.one (.sl ku))))))))))))),[.ro,.ro,.ro,.ro]⟩],[⟨.agg (.cons (.int .i64) (.cons (.int .i64) (.cons (.int .i64) (.cons (.int .i64) (.cons (.sl (.cons (.int .i64) (.cons (.str) (.cons (.sl k5) (.one (.int .i64)))))) (.cons (.sl (.cons (.str) (.cons (.int .i64) (.one (.sl ku))))) (.cons (.sl (.one (.str))) (.one (.sl (.cons (.int .i64) (.cons (.int .i64) (.one (.sl ku))))))))))))),[.mv,.mv,.mv,.mv]⟩],false⟩
abbrev aa1:dX:=⟨[⟨.one (.int .u8),[]⟩,uP,Om],[pu1],false⟩
abbrev aa2:dX:=⟨[⟨.st (.cons (.sl ku) (.one (.int .i64))),[.leak]⟩],[⟨.one (.int .u8),[]⟩,⟨.st (.cons (.sl ku) (.one (.int .i64))),[.ro]⟩],false⟩
abbrev Yn:dX:=⟨[⟨.st (.cons (.sl ku) (.one (.int .i64))),[.leak]⟩,lq],[⟨.agg kr,[.leak]⟩,⟨.st (.cons (.sl ku) (.one (.int .i64))),[.ro]⟩],false⟩
abbrev aa3:dX:=⟨[⟨.st (.cons (.sl ku) (.one (.int .i64))),[.leak]⟩,uP],[pu1,⟨.st (.cons (.sl ku) (.one (.int .i64))),[.ro]⟩],false⟩
abbrev aa4:dX:=⟨[lq],[⟨.one (.str),[]⟩,lq],false⟩
abbrev Yo:dX:=⟨[lq],[⟨.one (.sl (.one (.int .u64))),[.mv]⟩],false⟩
abbrev Yp:dX:=⟨[⟨.one (.int .u64),[]⟩,lq],[⟨.one (.int .u64),[]⟩],false⟩
abbrev UQ:dX:=⟨[uP],[pu1],false⟩
abbrev UR:dX:=⟨[uP],[⟨.one (.sl (.one (.int .u64))),[.mv]⟩],false⟩
abbrev aa5:dX:=⟨[⟨.one (.sl (.one (.int .u64))),[.ro]⟩,⟨.one (.int .u64),[]⟩,⟨.one (.int .u64),[]⟩],[⟨.one (.sl (.one (.int .u64))),[.mv]⟩],false⟩
abbrev aa6:dX:=⟨[⟨.one (.int .u64),[]⟩],[⟨.one (.int .u64),[]⟩],false⟩
abbrev Yq:dX:=⟨[uP],[MX,pb],false⟩
abbrev Yr:dX:=⟨[Om],[MX],false⟩
abbrev Si:dX:=⟨[uP],[MX,pb],false⟩
abbrev Yt:dX:=⟨[uP],[pu1,pb],false⟩
abbrev Yu:dX:=⟨[uP],[lq],false⟩
abbrev aa7:dX:=⟨[⟨.agg k4,[]⟩],[pb],false⟩
abbrev aa8:dX:=⟨[lq],[⟨.one (.str),[]⟩],false⟩
abbrev aa9:dX:=⟨[⟨.one (.int .u64),[]⟩],[lq],false⟩
abbrev ajO:dX:=⟨[uP,⟨.one (.int .u64),[]⟩,lq,pb,pb],[pu1,⟨.one (.str),[]⟩],false⟩
abbrev abb:dX:=⟨[uP],[⟨.agg (.cons (.int .u8) (.cons (.int .u8) (.cons (.int .u8) ku))),[]⟩],false⟩
abbrev abd:dX:=⟨[⟨.agg (.cons (.sl ku) (.cons (.int .i64) k5)),[.ro]⟩,⟨.agg (.cons (.int .i64) (.cons (.int .i64) (.cons (.int .i64) (.cons (.int .i64) (.cons (.sl (.cons (.int .i64) (.cons (.str) (.cons (.sl k5) (.one (.int .i64)))))) (.cons (.sl (.cons (.str) (.cons (.int .i64) (.one (.sl ku))))) (.cons (.sl (.one (.str))) (.one (.sl (.cons (.int .i64) (.cons (.int .i64) (.one (.sl ku))))))))))))),[.mv,.mv,.mv,.mv]⟩,⟨.one (.str),[]⟩],[⟨.agg (.cons (.int .i64) (.cons (.int .i64) (.cons (.int .i64) (.cons (.int .i64) (.cons (.sl (.cons (.int .i64) (.cons (.str) (.cons (.sl k5) (.one (.int .i64)))))) (.cons (.sl (.cons (.str) (.cons (.int .i64) (.one (.sl ku))))) (.cons (.sl (.one (.str))) (.one (.sl (.cons (.int .i64) (.cons (.int .i64) (.one (.sl ku))))))))))))),[.mv,.mv,.mv,.mv]⟩],false⟩
abbrev abe:dX:=⟨[⟨.agg (.cons (.sl ku) (.cons (.int .i64) k5)),[.ro]⟩,⟨.agg (.cons (.int .i64) (.cons (.int .i64) (.cons (.int .i64) (.cons (.int .i64) (.cons (.sl (.cons (.int .i64) (.cons (.str) (.cons (.sl k5) (.one (.int .i64)))))) (.cons (.sl (.cons (.str) (.cons (.int .i64) (.one (.sl ku))))) (.cons (.sl (.one (.str))) (.one (.sl (.cons (.int .i64) (.cons (.int .i64) (.one (.sl ku))))))))))))),[.mv,.mv,.mv,.mv]⟩,⟨.agg (.cons (.int .i64) (.cons (.str) (.cons (.int .i64) (.cons (.sl ku) (.one (.int .i64)))))),[.ro]⟩],[⟨.agg (.cons (.int .i64) (.cons (.int .i64) (.cons (.int .i64) (.cons (.int .i64) (.cons (.sl (.cons (.int .i64) (.cons (.str) (.cons (.sl k5) (.one (.int .i64)))))) (.cons (.sl (.cons (.str) (.cons (.int .i64) (.one (.sl ku))))) (.cons (.sl (.one (.str))) (.one (.sl (.cons (.int .i64) (.cons (.int .i64) (.one (.sl ku))))))))))))),[.mv,.mv,.mv,.mv]⟩],false⟩
abbrev Yv:dX:=⟨[⟨.agg (.cons (.sl ku) (.cons (.int .i64) k5)),[.ro]⟩,⟨.agg (.cons (.int .i64) (.cons (.int .i64) (.cons (.int .i64) (.cons (.int .i64) (.cons (.sl (.cons (.int .i64) (.cons (.str) (.cons (.sl k5) (.one (.int .i64)))))) (.cons (.sl (.cons (.str) (.cons (.int .i64) (.one (.sl ku))))) (.cons (.sl (.one (.str))) (.one (.sl (.cons (.int .i64) (.cons (.int .i64) (.one (.sl ku))))))))))))),[.mv,.mv,.mv,.mv]⟩,lq],[⟨.agg (.cons (.int .i64) (.cons (.int .i64) (.cons (.int .i64) (.cons (.int .i64) (.cons (.sl (.cons (.int .i64) (.cons (.str) (.cons (.sl k5) (.one (.int .i64)))))) (.cons (.sl (.cons (.str) (.cons (.int .i64) (.one (.sl ku))))) (.cons (.sl (.one (.str))) (.one (.sl (.cons (.int .i64) (.cons (.int .i64) (.one (.sl ku))))))))))))),[.mv,.mv,.mv,.mv]⟩],false⟩
abbrev abf:dX:=⟨[⟨.one (.sl k5),[.ro]⟩],[⟨.one (.sl k5),[.mv]⟩],false⟩
abbrev abg:dX:=⟨[⟨.one (.int .u8),[]⟩,uP,Om],[pu1],false⟩
abbrev abh:dX:=⟨[⟨.st (.cons (.sl ku) (.one (.int .i64))),[.leak]⟩],[⟨.agg k4,[]⟩,⟨.st (.cons (.sl ku) (.one (.int .i64))),[.ro]⟩],false⟩
abbrev Yw:dX:=⟨[⟨.one (.int .u64),[]⟩],[pb],false⟩
abbrev abj:dX:=⟨[⟨.one (.int .u64),[]⟩,lq,⟨.one (.int .u64),[]⟩],[pb],false⟩
abbrev abk:dX:=⟨[⟨.one (.int .u64),[]⟩,⟨.one (.int .u64),[]⟩],[⟨.one (.int .u64),[]⟩],false⟩
abbrev Yx:dX:=⟨[uP,lq,lq],[lq,pb],false⟩
abbrev Yy:dX:=⟨[uP,lq],[pb],false⟩
abbrev abl:dX:=⟨[lq],[lq],false⟩
abbrev Yz:dX:=⟨[⟨.one (.int .u64),[]⟩],[lq],false⟩
abbrev abm:dX:=⟨[pb],[lq],false⟩
abbrev anC:dX:=⟨[lq],[pb],false⟩
abbrev anD:dX:=⟨[⟨.one (.int .u64),[]⟩],[lq],false⟩
abbrev YA:dX:=⟨[uP],[lq],false⟩
abbrev abn:dX:=⟨[⟨.agg (.cons (.int .i64) (.cons (.int .i64) (.cons (.int .i64) (.cons (.int .i64) (.cons (.sl (.cons (.int .i64) (.cons (.str) (.cons (.sl k5) (.one (.int .i64)))))) (.cons (.sl (.cons (.str) (.cons (.int .i64) (.one (.sl ku))))) (.cons (.sl (.one (.str))) (.one (.sl (.cons (.int .i64) (.cons (.int .i64) (.one (.sl ku))))))))))))),[.mv,.mv,.mv,.mv]⟩,lq,lq,⟨.one (.sl ku),[.leak]⟩],[⟨.agg (.cons (.int .i64) (.cons (.int .i64) (.cons (.int .i64) (.cons (.int .i64) (.cons (.sl (.cons (.int .i64) (.cons (.str) (.cons (.sl k5) (.one (.int .i64)))))) (.cons (.sl (.cons (.str) (.cons (.int .i64) (.one (.sl ku))))) (.cons (.sl (.one (.str))) (.one (.sl (.cons (.int .i64) (.cons (.int .i64) (.one (.sl ku))))))))))))),[.mv,.mv,.mv,.mv]⟩],false⟩
abbrev abo:dX:=⟨[⟨.agg (.cons (.sl ku) (.cons (.int .i64) k5)),[.ro]⟩,⟨.agg (.cons (.int .i64) (.cons (.int .i64) (.cons (.int .i64) (.cons (.int .i64) (.cons (.sl (.cons (.int .i64) (.cons (.str) (.cons (.sl k5) (.one (.int .i64)))))) (.cons (.sl (.cons (.str) (.cons (.int .i64) (.one (.sl ku))))) (.cons (.sl (.one (.str))) (.one (.sl (.cons (.int .i64) (.cons (.int .i64) (.one (.sl ku))))))))))))),[.ro,.ro,.ro,.ro]⟩,⟨.one (.str),[]⟩],[lq],false⟩
abbrev abp:dX:=⟨[⟨.one (.sl (.cons (.str) (.cons (.int .i64) (.one (.sl ku))))),[.ro]⟩,lq],[⟨.one (.sl (.cons (.str) (.cons (.int .i64) (.one (.sl ku))))),[.mv]⟩],false⟩
abbrev UU:dX:=⟨[uP,⟨.one (.sl k5),[.ro]⟩],[pu1,lq],false⟩
abbrev YB:dX:=⟨[⟨.one (.sl (.cons (.int .i64) (.cons (.str) (.cons (.sl k5) (.one (.int .i64)))))),[.ro]⟩,lq],[lq],false⟩
abbrev abq:dX:=⟨[⟨.one (.sl (.cons (.int .i64) (.cons (.str) (.cons (.sl k5) (.one (.int .i64)))))),[.ro]⟩,lq],[⟨.one (.sl (.cons (.int .i64) (.cons (.str) (.cons (.sl k5) (.one (.int .i64)))))),[.mv]⟩],false⟩
abbrev YC:dX:=⟨[⟨.agg (.cons (.sl ku) (.cons (.int .i64) k5)),[.ro]⟩,⟨.agg (.cons (.int .i64) (.cons (.int .i64) (.cons (.int .i64) (.cons (.int .i64) (.cons (.sl (.cons (.int .i64) (.cons (.str) (.cons (.sl k5) (.one (.int .i64)))))) (.cons (.sl (.cons (.str) (.cons (.int .i64) (.one (.sl ku))))) (.cons (.sl (.one (.str))) (.one (.sl (.cons (.int .i64) (.cons (.int .i64) (.one (.sl ku))))))))))))),[.mv,.mv,.mv,.mv]⟩,⟨.one (.str),[]⟩,uP],[⟨.agg (.cons (.int .i64) (.cons (.int .i64) (.cons (.int .i64) (.cons (.int .i64) (.cons (.sl (.cons (.int .i64) (.cons (.str) (.cons (.sl k5) (.one (.int .i64)))))) (.cons (.sl (.cons (.str) (.cons (.int .i64) (.one (.sl ku))))) (.cons (.sl (.one (.str))) (.one (.sl (.cons (.int .i64) (.cons (.int .i64) (.one (.sl ku))))))))))))),[.mv,.mv,.mv,.mv]⟩],false⟩
abbrev abr:dX:=⟨[⟨.one (.int .u8),[]⟩,Om],[pu1],false⟩
abbrev abt:dX:=⟨[⟨.one (.int .u64),[]⟩],[⟨.one (.int .u64),[]⟩],false⟩
abbrev abu:dX:=⟨[⟨.one (.int .u64),[]⟩],[⟨.one (.int .u64),[]⟩,⟨.one (.int .u64),[]⟩],false⟩
abbrev anE:dX:=⟨[⟨.one (.int .u32),[]⟩],[lq],false⟩
abbrev anF:dX:=⟨[⟨.one (.int .u64),[]⟩],[lq],false⟩
abbrev YD:dX:=⟨[Om,⟨.one (.sl k5),[.ro]⟩],[MX,pb],false⟩
abbrev abv:dX:=⟨[Om],[pu1],false⟩
abbrev YE:dX:=⟨[Om],[pu1],false⟩
abbrev UW:dX:=⟨[Om],[pu1],false⟩
abbrev UY:dX:=⟨[uP],[pu1],false⟩
abbrev abw:dX:=⟨[Om],[MX],false⟩
abbrev abx:dX:=⟨[Om,⟨.agg k5,[]⟩],[MX,pb],false⟩
abbrev aby:dX:=⟨[⟨.one (.sl (.one (.sl ku))),[.ro]⟩,uP],[lq],false⟩
abbrev UZ:dX:=⟨[⟨.one (.sl (.cons (.int .i64) (.one (.int .i64)))),[.ro]⟩],[pu1],false⟩
abbrev U0:dX:=⟨[Om,⟨.agg k5,[]⟩],[MX],false⟩
abbrev U1:dX:=⟨[Om],[MX],false⟩
abbrev U2:dX:=⟨[Om],[MX],false⟩
abbrev U3:dX:=⟨[Om,⟨.agg k5,[]⟩],[MX],false⟩
abbrev YF:dX:=⟨[Om,⟨.agg k5,[]⟩],[MX],false⟩
abbrev YG:dX:=⟨[⟨.one (.sl (.one (.sl ku))),[.ro]⟩,uP],[lq],false⟩
abbrev abz:dX:=⟨[⟨.agg (.cons (.int .i64) (.one (.int .i64))),[]⟩],[pb],false⟩
abbrev abA:dX:=⟨[⟨.agg k4,[]⟩],[⟨.agg k4,[]⟩],false⟩
abbrev U4:dX:=⟨[Om,lq,lq],[⟨.agg k4,[]⟩],false⟩
abbrev abB:dX:=⟨[⟨.agg k4,[]⟩,⟨.agg k5,[]⟩],[⟨.agg k4,[]⟩],false⟩
abbrev abC:dX:=⟨[⟨.rP,[]⟩,uP],[MX,pb],false⟩
abbrev U5:dX:=⟨[uP],[MX,pb],false⟩
abbrev abD:dX:=⟨[uP],[⟨.agg k4,[]⟩],false⟩
abbrev abE:dX:=⟨[⟨.rP,[]⟩,uP],[MX,pb],false⟩
abbrev U6:dX:=⟨[Om],[MX],false⟩
abbrev abG:dX:=⟨[Om,lq,lq],[⟨.agg k4,[]⟩],false⟩
abbrev U7:dX:=⟨[⟨.rP,[]⟩,uP],[MX,pb],false⟩
abbrev abH:dX:=⟨[⟨.rP,[]⟩,uP],[MX,pb],false⟩
abbrev U8:dX:=⟨[uP],[pu1,pb],false⟩
abbrev Sj:dX:=⟨[⟨.st (.cons (.sl ku) (.cons (.sl (.cons (.int .i64) (.one (.int .i64)))) (.cons (.int .i64) (.one (.int .i64))))),[.mv,.mv]⟩,lq],[pb,⟨.st (.cons (.sl ku) (.cons (.sl (.cons (.int .i64) (.one (.int .i64)))) (.cons (.int .i64) (.one (.int .i64))))),[.mv,.mv]⟩],false⟩
abbrev abI:dX:=⟨[uP,lq],[pb],false⟩
abbrev r9(Rc:ah)(a:List (Int)):Option Bool:=Rc 9 s9 a
abbrev r12(Rc:ah)(a:List (Int)×(List I5)×ByteArray×Int):Option (ByteArray):=Rc 12 s12 a
abbrev r13(Rc:ah)(a:(List I5)×ByteArray×Int):Option Bool:=Rc 13 s13 a
abbrev r14(Rc:ah)(a:Unit):Option Bool:=Rc 14 s14 a
abbrev r17(Rc:ah)(a:List (Int)×ByteArray×Int):Option (((List I5)×ByteArray×Int)×Int):=Rc 17 s17 a
abbrev r26(Rc:ah)(a:(List (Int)×Int×I5)×Int×Int×Int×Int×(List (Int×ByteArray×(List I5)×Int))×(List (ByteArray×Int×List (Int)))×List (ByteArray)×List (Int×Int×List (Int))):Option (List (ByteArray)):=Rc 26 s26 a
abbrev r29(Rc:ah)(a:(List (Int)×Int×I5)×Int×Int×Int×Int×(List (Int×ByteArray×(List I5)×Int))×(List (ByteArray×Int×List (Int)))×List (ByteArray)×List (Int×Int×List (Int))):Option (List (ByteArray)):=Rc 29 s29 a
abbrev r46(Rc:ah)(a:List (Int)):Option ((List (Int)×Int×I5)×Int×Int×Int×Int×(List (Int×ByteArray×(List I5)×Int))×(List (ByteArray×Int×List (Int)))×List (ByteArray)×List (Int×Int×List (Int))):=Rc 46 s46 a
abbrev r47(Rc:ah)(a:List (ByteArray)×List (ByteArray)):Option Bool:=Rc 47 s47 a
abbrev r48(Rc:ah)(a:(List (Int)×Int×I5)×Int×Int×Int×Int×(List (Int×ByteArray×(List I5)×Int))×(List (ByteArray×Int×List (Int)))×List (ByteArray)×List (Int×Int×List (Int))):Option Bool:=Rc 48 s48 a
abbrev r50(Rc:ah)(a:(List (Int)×Int)×Int):Option (List (Int)×List (Int)×Int):=Rc 50 s50 a
abbrev r51(Rc:ah)(a:(List (Int)×Int)×Int):Option (((List I5)×ByteArray×Int)×List (Int)×Int):=Rc 51 s51 a
abbrev r53(Rc:ah)(a:List (Int)):Option (ByteArray):=Rc 53 s53 a
abbrev r55(Rc:ah)(a:(List I5)×ByteArray×Int):Option (ByteArray):=Rc 55 s55 a
abbrev r56(Rc:ah)(a:List (Int)×ByteArray):Option (ByteArray):=Rc 56 s56 a
abbrev r57(Rc:ah)(a:List I5):Option Bool:=Rc 57 s57 a
abbrev r58(Rc:ah)(a:ByteArray):Option Bool:=Rc 58 s58 a
abbrev xw(Rc:ah)(a:Int×Int×Int):Option Bool:=Rc 59 s59 a
abbrev r60(Rc:ah)(a:I4):Option Bool:=Rc 60 s60 a
abbrev r64(Rc:ah)(a:ByteArray):Option (((List I5)×ByteArray×Int)×Bool):=Rc 64 s64 a
abbrev WL(Rc:ah)(a:Int):Option (ByteArray):=Rc 73 s73 a
abbrev r74(Rc:ah)(a:List (Int)):Option (ByteArray):=Rc 74 s74 a
abbrev r79(Rc:ah)(a:(List (Int)×Int×I5)×Int×Int×Int×Int×(List (Int×ByteArray×(List I5)×Int))×(List (ByteArray×Int×List (Int)))×List (ByteArray)×List (Int×Int×List (Int))):Option Bool:=Rc 79 s79 a
abbrev r80(Rc:ah)(a:Int):Option (ByteArray):=Rc 80 s80 a
abbrev r81(Rc:ah)(a:List (Int)):Option (ByteArray):=Rc 81 s81 a
abbrev iZ(Rc:ah)(a:(List (Int)×Int)×Int):Option (Int×List (Int)×Int):=Rc 89 s89 a
abbrev r90(Rc:ah)(a:(List (Int)×Int)×ByteArray):Option (ByteArray×List (Int)×Int):=Rc 90 s90 a
abbrev r91(Rc:ah)(a:List I5):Option Bool:=Rc 91 s91 a
abbrev r92(Rc:ah)(a:ByteArray):Option Bool:=Rc 92 s92 a
abbrev Sl(Rc:ah)(a:Int×Int×Int):Option Bool:=Rc 93 s93 a
abbrev r98(Rc:ah)(a:ByteArray×Int):Option (List (ByteArray)):=Rc 98 s98 a
abbrev r99(Rc:ah)(a:ByteArray):Option Int:=Rc 99 s99 a
abbrev KZ(Rc:ah)(a:(List (Int)×Int)×Int):Option (Bool×List (Int)×Int):=Rc 102 aaG a
abbrev ahG(Rc:ah)(a:List (Int)):Option (ByteArray):=Rc 105 X8 a
abbrev ahH(Rc:ah)(a:(List (Int)×Int)×Int):Option ((List (Int)×Int×I5)×(Int×Int×Int×Int×(List (Int×ByteArray×(List I5)×Int))×(List (ByteArray×Int×List (Int)))×List (ByteArray)×List (Int×Int×List (Int)))×List (Int)×Int):=Rc 106 UK a
abbrev ahI(Rc:ah)(a:List (Int)×Int×I5):Option Bool:=Rc 107 aaH a
abbrev ajR(Rc:ah)(a:(List (Int)×Int×I5)×Int×Int×Int×Int×(List (Int×ByteArray×(List I5)×Int))×(List (ByteArray×Int×List (Int)))×List (ByteArray)×List (Int×Int×List (Int))):Option Bool:=Rc 108 X9 a
abbrev ajS(Rc:ah)(a:(List (Int)×Int×I5)×Int×Int×Int×Int×(List (Int×ByteArray×(List I5)×Int))×(List (ByteArray×Int×List (Int)))×List (ByteArray)×List (Int×Int×List (Int))):Option Bool:=Rc 109 Ya a
abbrev ajT(Rc:ah)(a:Int×Int×Int×Int×(List (Int×ByteArray×(List I5)×Int))×(List (ByteArray×Int×List (Int)))×List (ByteArray)×List (Int×Int×List (Int))):Option Bool:=Rc 110 UL a
abbrev ahJ(Rc:ah)(a:(List (Int)×Int)×Int):Option ((List I5)×List (Int)×Int):=Rc 111 RX a
abbrev ajU(Rc:ah)(a:List (Int)×Int):Option (ByteArray×List (Int)×Int):=Rc 112 aaI a
abbrev aeW(Rc:ah)(a:(List (Int)×Int)×Int):Option ((I5)×List (Int)×Int):=Rc 113 Yb a
abbrev ajV(Rc:ah)(a:List I5):Option (ByteArray):=Rc 117 Yc a
abbrev ajW(Rc:ah)(a:List (Int)×List (Int)):Option (List (Int)):=Rc 118 UM a
abbrev ahK(Rc:ah)(a:I5):Option Bool:=Rc 119 aaJ a
abbrev Sm(Rc:ah)(a:Int):Option Bool:=Rc 120 aaK a
abbrev ajX(Rc:ah)(a:ByteArray):Option ((List I5)×Bool):=Rc 127 Yd a
abbrev aeX(Rc:ah)(a:List (Int)):Option (Rs×Int):=Rc 132 aaL a
abbrev ajY(Rc:ah)(a:List (Int)×Int×I5):Option Bool:=Rc 136 aaM a
abbrev ajZ(Rc:ah)(a:(List (Int)×Int×I5)×Int×Int×Int×Int×(List (Int×ByteArray×(List I5)×Int))×(List (ByteArray×Int×List (Int)))×List (ByteArray)×List (Int×Int×List (Int))):Option Bool:=Rc 137 Ye a
abbrev aj0(Rc:ah)(a:(List (Int)×Int×I5)×Int×Int×Int×Int×(List (Int×ByteArray×(List I5)×Int))×(List (ByteArray×Int×List (Int)))×List (ByteArray)×List (Int×Int×List (Int))):Option Bool:=Rc 138 UN a
abbrev aj1(Rc:ah)(a:Int×Int×Int×Int×(List (Int×ByteArray×(List I5)×Int))×(List (ByteArray×Int×List (Int)))×List (ByteArray)×List (Int×Int×List (Int))):Option Bool:=Rc 139 Yf a
abbrev aj2(Rc:ah)(a:Int×Int×Int×Int×(List (Int×ByteArray×(List I5)×Int))×(List (ByteArray×Int×List (Int)))×List (ByteArray)×List (Int×Int×List (Int))):Option Bool:=Rc 140 Yg a
abbrev aj3(Rc:ah)(a:Int):Option (ByteArray):=Rc 141 aaN a
abbrev aj6(Rc:ah)(a:List (Int)):Option (Rs×Int):=Rc 142 aaO a
abbrev aj7(Rc:ah)(a:List (Int)×I4):Option (List (Int)):=Rc 143 aaP a
abbrev aj8(Rc:ah)(a:I5):Option Bool:=Rc 147 aaQ a
abbrev abK(Rc:ah)(a:(List (Int)×Int)×Int):Option ((List (Int)×Int×I5)×List (Int)×Int):=Rc 148 aaR a
abbrev aj9(Rc:ah)(a:(List (Int)×Int)×(List (Int)×Int×I5)×Int×Int×Int×Int×(List (Int×ByteArray×(List I5)×Int))×(List (ByteArray×Int×List (Int)))×List (ByteArray)×List (Int×Int×List (Int))):Option ((Int×ByteArray×Int×List (Int)×Int)×List (Int)×Int):=Rc 150 Yh a
abbrev akb(Rc:ah)(a:(List (Int)×Int)×Int):Option ((List (Int)×Int×I5)×(List (Int×ByteArray×Int×List (Int)×Int))×(Int×Int×Int×Int×(List (Int×ByteArray×(List I5)×Int))×(List (ByteArray×Int×List (Int)))×List (ByteArray)×List (Int×Int×List (Int)))×List (Int)×Int):=Rc 157 Yi a
abbrev aeY(Rc:ah)(a:(List (Int)×Int)×Int):Option (List (Int)×List (Int)×Int):=Rc 158 aaS a
abbrev aeZ(Rc:ah)(a:(List (ByteArray×Int×List (Int)))×ByteArray):Option Int:=Rc 159 Yj a
abbrev akc(Rc:ah)(a:Int):Option Bool:=Rc 160 Yk a
abbrev ae0(Rc:ah)(a:I5):Option (ByteArray):=Rc 168 Yl a
abbrev ae1(Rc:ah)(a:List (Int)):Option (List (Int)):=Rc 169 JH a
abbrev akd(Rc:ah)(a:ByteArray):Option ((I5)×Bool):=Rc 180 UO a
abbrev ahL(Rc:ah)(a:Int):Option Bool:=Rc 182 aaT a
abbrev ahM(Rc:ah)(a:Int×List (Int)):Option (Rs×Bool):=Rc 183 aaU a
abbrev YH(Rc:ah)(a:List (Int)):Option (List (Int)):=Rc 184 aaV a
abbrev U9(Rc:ah)(a:Rs):Option Bool:=Rc 185 Ym a
abbrev ake(Rc:ah)(a:Int):Option Bool:=Rc 187 aaW a
abbrev akf(Rc:ah)(a:Int×Int):Option (ByteArray):=Rc 188 RY a
abbrev Oo(Rc:ah)(a:Int):Option Bool:=Rc 191 aaX a
abbrev akg(Rc:ah)(a:List (Int)×Int×I5):Option (Int×Int×Int×Int×(List (Int×ByteArray×(List I5)×Int))×(List (ByteArray×Int×List (Int)))×List (ByteArray)×List (Int×Int×List (Int))):=Rc 192 aaY a
abbrev YI(Rc:ah)(a:(List (Int)×Int)×List (Int)):Option (ByteArray×List (Int)×Int):=Rc 193 aaZ a
abbrev akh(Rc:ah)(a:(List (Int)×Int×I5)×(Int×Int×Int×Int×(List (Int×ByteArray×(List I5)×Int))×(List (ByteArray×Int×List (Int)))×List (ByteArray)×List (Int×Int×List (Int)))×Int×ByteArray×Int×List (Int)×Int):Option (Int×Int×Int×Int×(List (Int×ByteArray×(List I5)×Int))×(List (ByteArray×Int×List (Int)))×List (ByteArray)×List (Int×Int×List (Int))):=Rc 194 aa0 a
abbrev aki(Rc:ah)(a:Int×Int×Int×Int×(List (Int×ByteArray×(List I5)×Int))×(List (ByteArray×Int×List (Int)))×List (ByteArray)×List (Int×Int×List (Int))):Option (Int×Int×Int×Int×(List (Int×ByteArray×(List I5)×Int))×(List (ByteArray×Int×List (Int)))×List (ByteArray)×List (Int×Int×List (Int))):=Rc 195 RZ a
abbrev ae2(Rc:ah)(a:Int×List (Int)×Rs):Option (List (Int)):=Rc 200 aa1 a
abbrev akj(Rc:ah)(a:List (Int)×Int):Option (Int×List (Int)×Int):=Rc 201 aa2 a
abbrev ahN(Rc:ah)(a:(List (Int)×Int)×Int):Option (Rs×List (Int)×Int):=Rc 202 Yn a
abbrev ahO(Rc:ah)(a:(List (Int)×Int)×List (Int)):Option (List (Int)×List (Int)×Int):=Rc 203 aa3 a
abbrev akk(Rc:ah)(a:Int):Option (ByteArray×Int):=Rc 207 aa4 a
abbrev akl(Rc:ah)(a:Int):Option (List (Int)):=Rc 208 Yo a
abbrev ahP(Rc:ah)(a:Int×Int):Option Int:=Rc 209 Yp a
abbrev akm(Rc:ah)(a:List (Int)):Option (List (Int)):=Rc 210 UQ a
abbrev akn(Rc:ah)(a:List (Int)):Option (List (Int)):=Rc 211 UR a
abbrev ahQ(Rc:ah)(a:List (Int)×Int×Int):Option (List (Int)):=Rc 212 aa5 a
abbrev Oq(Rc:ah)(a:Int):Option Int:=Rc 213 aa6 a
abbrev ae3(Rc:ah)(a:List (Int)):Option (Rs×Bool):=Rc 220 Yq a
abbrev ae4(Rc:ah)(a:Rs):Option Rs:=Rc 221 Yr a
abbrev ae5(Rc:ah)(a:List (Int)):Option (Rs×Bool):=Rc 222 Si a
abbrev ako(Rc:ah)(a:List (Int)):Option (List (Int)×Bool):=Rc 223 Yt a
abbrev akp(Rc:ah)(a:List (Int)):Option Int:=Rc 224 Yu a
abbrev akq(Rc:ah)(a:I4):Option Bool:=Rc 225 aa7 a
abbrev akr(Rc:ah)(a:Int):Option (ByteArray):=Rc 227 aa8 a
abbrev aks(Rc:ah)(a:Int):Option Int:=Rc 228 aa9 a
abbrev anJ(Rc:ah)(a:List (Int)×Int×Int×Bool×Bool):Option (List (Int)×ByteArray):=Rc 230 ajO a
abbrev Va(Rc:ah)(a:List (Int)):Option I4:=Rc 231 abb a
abbrev akt(Rc:ah)(a:(List (Int)×Int×I5)×(Int×Int×Int×Int×(List (Int×ByteArray×(List I5)×Int))×(List (ByteArray×Int×List (Int)))×List (ByteArray)×List (Int×Int×List (Int)))×ByteArray):Option (Int×Int×Int×Int×(List (Int×ByteArray×(List I5)×Int))×(List (ByteArray×Int×List (Int)))×List (ByteArray)×List (Int×Int×List (Int))):=Rc 232 abd a
abbrev ahR(Rc:ah)(a:(List (Int)×Int×I5)×(Int×Int×Int×Int×(List (Int×ByteArray×(List I5)×Int))×(List (ByteArray×Int×List (Int)))×List (ByteArray)×List (Int×Int×List (Int)))×Int×ByteArray×Int×List (Int)×Int):Option (Int×Int×Int×Int×(List (Int×ByteArray×(List I5)×Int))×(List (ByteArray×Int×List (Int)))×List (ByteArray)×List (Int×Int×List (Int))):=Rc 233 abe a
abbrev aku(Rc:ah)(a:(List (Int)×Int×I5)×(Int×Int×Int×Int×(List (Int×ByteArray×(List I5)×Int))×(List (ByteArray×Int×List (Int)))×List (ByteArray)×List (Int×Int×List (Int)))×Int):Option (Int×Int×Int×Int×(List (Int×ByteArray×(List I5)×Int))×(List (ByteArray×Int×List (Int)))×List (ByteArray)×List (Int×Int×List (Int))):=Rc 234 Yv a
abbrev akv(Rc:ah)(a:List I5):Option (List I5):=Rc 235 abf a
abbrev abL(Rc:ah)(a:Int×List (Int)×Rs):Option (List (Int)):=Rc 240 abg a
abbrev ahS(Rc:ah)(a:List (Int)×Int):Option (I4×List (Int)×Int):=Rc 241 abh a
abbrev akw(Rc:ah)(a:Int):Option Bool:=Rc 245 Yw a
abbrev akx(Rc:ah)(a:Int×Int×Int):Option Bool:=Rc 246 abj a
abbrev JI(Rc:ah)(a:Int×Int):Option Int:=Rc 247 abk a
abbrev aky(Rc:ah)(a:List (Int)×Int×Int):Option (Int×Bool):=Rc 250 Yx a
abbrev akz(Rc:ah)(a:List (Int)×Int):Option Bool:=Rc 251 Yy a
abbrev akA(Rc:ah)(a:Int):Option Int:=Rc 253 abl a
abbrev ahT(Rc:ah)(a:Int):Option Int:=Rc 254 Yz a
abbrev akB(Rc:ah)(a:Bool):Option Int:=Rc 255 abm a
abbrev akC(Rc:ah)(a:List (Int)):Option Int:=Rc 258 YA a
abbrev La(Rc:ah)(a:(Int×Int×Int×Int×(List (Int×ByteArray×(List I5)×Int))×(List (ByteArray×Int×List (Int)))×List (ByteArray)×List (Int×Int×List (Int)))×Int×Int×List (Int)):Option (Int×Int×Int×Int×(List (Int×ByteArray×(List I5)×Int))×(List (ByteArray×Int×List (Int)))×List (ByteArray)×List (Int×Int×List (Int))):=Rc 259 abn a
abbrev akD(Rc:ah)(a:(List (Int)×Int×I5)×(Int×Int×Int×Int×(List (Int×ByteArray×(List I5)×Int))×(List (ByteArray×Int×List (Int)))×List (ByteArray)×List (Int×Int×List (Int)))×ByteArray):Option Int:=Rc 260 abo a
abbrev abM(Rc:ah)(a:(List (ByteArray×Int×List (Int)))×Int):Option (List (ByteArray×Int×List (Int))):=Rc 261 abp a
abbrev YJ(Rc:ah)(a:List (Int)×List I5):Option (List (Int)×Int):=Rc 262 UU a
abbrev akE(Rc:ah)(a:(List (Int×ByteArray×(List I5)×Int))×Int):Option Int:=Rc 263 YB a
abbrev ahU(Rc:ah)(a:(List (Int×ByteArray×(List I5)×Int))×Int):Option (List (Int×ByteArray×(List I5)×Int)):=Rc 264 abq a
abbrev akF(Rc:ah)(a:(List (Int)×Int×I5)×(Int×Int×Int×Int×(List (Int×ByteArray×(List I5)×Int))×(List (ByteArray×Int×List (Int)))×List (ByteArray)×List (Int×Int×List (Int)))×ByteArray×List (Int)):Option (Int×Int×Int×Int×(List (Int×ByteArray×(List I5)×Int))×(List (ByteArray×Int×List (Int)))×List (ByteArray)×List (Int×Int×List (Int))):=Rc 265 YC a
abbrev akG(Rc:ah)(a:Int×Rs):Option (List (Int)):=Rc 271 abr a
abbrev akH(Rc:ah)(a:Int):Option Int:=Rc 273 abt a
abbrev ahV(Rc:ah)(a:Int):Option (Int×Int):=Rc 274 abu a
abbrev ahW(Rc:ah)(a:Rs×List I5):Option (Rs×Bool):=Rc 277 YD a
abbrev ahX(Rc:ah)(a:Rs):Option (List (Int)):=Rc 278 abv a
abbrev ae6(Rc:ah)(a:Rs):Option (List (Int)):=Rc 281 YE a
abbrev akI(Rc:ah)(a:Rs):Option (List (Int)):=Rc 282 UW a
abbrev akJ(Rc:ah)(a:List (Int)):Option (List (Int)):=Rc 283 UY a
abbrev akK(Rc:ah)(a:Rs):Option Rs:=Rc 284 abw a
abbrev akL(Rc:ah)(a:Rs×I5):Option (Rs×Bool):=Rc 285 abx a
abbrev Sr(Rc:ah)(a:List (List (Int))×List (Int)):Option Int:=Rc 286 aby a
abbrev abN(Rc:ah)(a:List (Int×Int)):Option (List (Int)):=Rc 287 UZ a
abbrev akM(Rc:ah)(a:Rs×I5):Option Rs:=Rc 288 U0 a
abbrev akN(Rc:ah)(a:Rs):Option Rs:=Rc 289 U1 a
abbrev akO(Rc:ah)(a:Rs):Option Rs:=Rc 290 U2 a
abbrev akP(Rc:ah)(a:Rs×I5):Option Rs:=Rc 291 U3 a
abbrev akQ(Rc:ah)(a:Rs×I5):Option Rs:=Rc 292 YF a
abbrev akR(Rc:ah)(a:List (List (Int))×List (Int)):Option Int:=Rc 293 YG a
abbrev akS(Rc:ah)(a:Int×Int):Option Bool:=Rc 294 abz a
abbrev akT(Rc:ah)(a:I4):Option I4:=Rc 295 abA a
abbrev akU(Rc:ah)(a:Rs×Int×Int):Option I4:=Rc 296 U4 a
abbrev akV(Rc:ah)(a:I4×I5):Option I4:=Rc 297 abB a
abbrev ahY(Rc:ah)(a:Unit×List (Int)):Option (Rs×Bool):=Rc 331 abC a
abbrev ae7(Rc:ah)(a:List (Int)):Option (Rs×Bool):=Rc 333 U5 a
abbrev abO(Rc:ah)(a:List (Int)):Option I4:=Rc 336 abD a
abbrev ahZ(Rc:ah)(a:Unit×List (Int)):Option (Rs×Bool):=Rc 338 abE a
abbrev akW(Rc:ah)(a:Rs):Option Rs:=Rc 340 U6 a
abbrev akX(Rc:ah)(a:Rs×Int×Int):Option I4:=Rc 342 abG a
abbrev ae8(Rc:ah)(a:Unit×List (Int)):Option (Rs×Bool):=Rc 343 U7 a
abbrev ah0(Rc:ah)(a:Unit×List (Int)):Option (Rs×Bool):=Rc 345 abH a
abbrev akY(Rc:ah)(a:List (Int)):Option (List (Int)×Bool):=Rc 347 U8 a
abbrev ae9(Rc:ah)(a:(List (Int)×(List (Int×Int))×Int×Int)×Int):Option (Bool×List (Int)×(List (Int×Int))×Int×Int):=Rc 349 Sj a
abbrev akZ(Rc:ah)(a:List (Int)×Int):Option Bool:=Rc 350 abI a
noncomputable def sigs:List (Nat×dX):=[(89,s89),(59,s59),(93,s93),(73,s73),(247,abk),(80,s80),(102,aaG),(191,aaX),(213,aa6),(120,aaK),(259,abn),(50,s50),(57,s57),(58,s58),(98,s98),(185,Ym),(92,s92),(113,Yb),(159,Yj),(169,JH),(220,Yq),(221,Yr),(261,abp),(281,YE),(333,U5),(13,s13),(48,s48),(55,s55),(56,s56),(99,s99),(105,X8),(107,aaH),(111,RX),(119,aaJ),(132,aaL),(148,aaR),(158,aaS),(168,Yl),(182,aaT),(184,aaV),(209,Yp),(240,abg),(241,abh),(262,UU),(264,abq),(274,abu),(286,aby),(336,abD),(12,s12),(14,s14),(17,s17),(26,s26),(29,s29),(46,s46),(47,s47),(51,s51),(53,s53),(60,s60),(64,s64),(74,s74),(79,s79),(81,s81),(90,s90),(91,s91),(106,UK),(108,X9),(109,Ya),(110,UL),(112,aaI),(117,Yc),(118,UM),(127,Yd),(136,aaM),(137,Ye),(138,UN),(139,Yf),(140,Yg),(141,aaN),(142,aaO),(143,aaP),(147,aaQ),(150,Yh),(157,Yi),(160,Yk),(180,UO),(183,aaU),(187,aaW),(188,RY),(192,aaY),(193,aaZ),(194,aa0),(195,RZ),(200,aa1),(201,aa2),(202,Yn),(203,aa3),(207,aa4),(208,Yo),(210,UQ),(211,UR),(212,aa5),(222,Si),(223,Yt),(224,Yu),(225,aa7),(227,aa8),(228,aa9),(230,ajO),(231,abb),(232,abd),(233,abe),(234,Yv),(235,abf),(245,Yw),(246,abj),(250,Yx),(251,Yy),(253,abl),(254,Yz),(255,abm),(256,anC),(257,anD),(258,YA),(260,abo),(263,YB),(265,YC),(271,abr),(273,abt),(275,anE),(276,anF),(277,YD),(278,abv),(282,UW),(283,UY),(284,abw),(285,abx),(287,UZ),(288,U0),(289,U1),(290,U2),(291,U3),(292,YF),(293,YG),(294,abz),(295,abA),(296,U4),(297,abB),(340,U6),(342,abG),(347,U8),(349,Sj),(350,abI),(9,s9),(331,abC),(338,abE),(343,U7),(345,abH)]
noncomputable def Qq : List (Nat × List (String × FuncId)) := [(309,[("loop.example/easel/impl.read",331)]),(310,[("loop.example/easel/impl.read",338)]),(311,[("loop.example/easel/impl.read",343)]),(312,[("loop.example/easel/impl.read",345)])]
noncomputable def nV:List aek:=[
 ⟨17,7,[[(0,[]),(1,[]),(2,[]),(3,[1,2]),(5,[]),(6,[]),(7,[6]),(8,[5,6,7]),(4,[0,1,2,3]),(9,[0,1,2,3,4,5,6,7,8]),(10,[0,1,2,3,4,5,6,7,8,9]),(11,[0,1,2,3,4,5,6,7,8,9,10]),(12,[0,1,2,3,4,5,6,7,8,9,10]),(13,[0,1,2,3,4,5,6,7,8,9,10,12]),(14,[0,1,2,3,4,5,6,7,8,9,10,11,12,13]),(15,[0,1,2,3,4,5,6,7,8,9,10,11,12,13,14])]],none⟩,
 ⟨26,3,[[(0,[]),(1,[0]),(5,[]),(6,[5]),(10,[]),(11,[10]),(12,[10,11]),(16,[]),(17,[16]),(18,[16,17]),(2,[0,1]),(3,[0,1,2]),(4,[0,1,2,3]),(7,[0,1,2,5,6]),(8,[0,1,2,3,4,5,6,7]),(9,[0,1,2,3,4,5,6,7,8]),(13,[0,1,2,5,6,7,10,11,12]),(14,[0,1,2,3,4,5,6,7,8,9,10,11,12,13]),(15,[0,1,2,3,4,5,6,7,8,9,10,11,12,13,14]),(19,[0,1,2,5,6,7,10,11,12,13,16,17,18]),(20,[0,1,2,3,4,5,6,7,8,9,10,11,12,13,14,15,16,17,18,19]),(21,[0,1,2,3,4,5,6,7,8,9,10,11,12,13,14,15,16,17,18,19,20]),(22,[0,1,2,3,4,5,6,7,8,9,10,11,12,13,14,15,16,17,18,19,20,21])]],none⟩,
 ⟨26,12,[[(0,[]),(1,[0]),(5,[]),(6,[5]),(2,[0,1]),(3,[0,1,2]),(4,[0,1,2,3]),(7,[0,1,2,5,6]),(8,[0,1,2,3,4,5,6,7]),(9,[0,1,2,3,4,5,6,7,8])]],none⟩,
 ⟨29,3,[[(0,[]),(1,[0]),(5,[]),(6,[5]),(10,[]),(11,[10]),(12,[10,11]),(16,[]),(17,[16]),(18,[16,17]),(2,[0,1]),(3,[0,1,2]),(4,[0,1,2,3]),(7,[0,1,2,5,6]),(8,[0,1,2,3,4,5,6,7]),(9,[0,1,2,3,4,5,6,7,8]),(13,[0,1,2,5,6,7,10,11,12]),(14,[0,1,2,3,4,5,6,7,8,9,10,11,12,13]),(15,[0,1,2,3,4,5,6,7,8,9,10,11,12,13,14]),(19,[0,1,2,5,6,7,10,11,12,13,16,17,18]),(20,[0,1,2,3,4,5,6,7,8,9,10,11,12,13,14,15,16,17,18,19]),(21,[0,1,2,3,4,5,6,7,8,9,10,11,12,13,14,15,16,17,18,19,20])]],none⟩,
 ⟨29,13,[[(0,[]),(1,[0]),(5,[]),(6,[5]),(2,[0,1]),(3,[0,1,2]),(4,[0,1,2,3]),(7,[0,1,2,5,6]),(8,[0,1,2,3,4,5,6,7]),(9,[0,1,2,3,4,5,6,7,8])]],none⟩,
 ⟨47,6,[[(0,[]),(1,[]),(2,[0,1]),(3,[0,1,2]),(4,[]),(5,[]),(6,[4,5]),(7,[4,5,6]),(8,[0,1,2,3,4,5,6,7])]],none⟩,
 ⟨51,4,[[(0,[]),(1,[0]),(2,[]),(3,[2]),(4,[2,3]),(5,[0,1,2,3,4]),(6,[0,1,2,3,4,5]),(7,[0,1,2,3,4,5,6])]],none⟩,
 ⟨53,5,[[(0,[]),(1,[]),(2,[1]),(3,[1,2]),(4,[]),(5,[4]),(6,[4,5]),(7,[1,2,3,4,5,6]),(8,[0,1,2,3,4,5,6,7]),(9,[0,1,2,3,4,5,6,7,8])]],none⟩,
 ⟨55,3,[[(0,[]),(1,[0]),(5,[]),(6,[5]),(9,[]),(10,[9]),(2,[0,1]),(3,[0,1,2]),(4,[0,1,2,3]),(7,[0,1,2,3,4,5,6]),(8,[0,1,2,3,4,5,6,7]),(11,[0,1,2,9,10]),(12,[0,1,2,3,4,5,6,7,8,9,10,11]),(13,[0,1,2,3,4,5,6,7,8,9,10,11,12])]],none⟩,
 ⟨64,8,[[(0,[]),(1,[]),(2,[1]),(3,[1,2]),(4,[]),(5,[4]),(6,[4,5]),(7,[4,5,6]),(10,[]),(8,[4,5,6,7]),(9,[0,1,2,3,4,5,6,7,8]),(11,[0,1,2,3,4,5,6,7,8,9,10])]],none⟩,
 ⟨74,4,[[(0,[]),(1,[0]),(4,[]),(5,[4]),(2,[0,1]),(3,[0,1,2]),(6,[0,1,2,4,5]),(7,[0,1,2,3,4,5,6]),(8,[0,1,2,3,4,5,6,7])]],none⟩,
 ⟨81,4,[[(0,[]),(1,[0]),(4,[]),(5,[4]),(2,[0,1]),(3,[0,1,2]),(6,[0,1,2,4,5]),(7,[0,1,2,3,4,5,6]),(8,[0,1,2,3,4,5,6,7])]],none⟩,
 ⟨89,7,[[(0,[]),(1,[0]),(2,[0,1]),(3,[0,1,2]),(4,[]),(5,[]),(6,[5]),(7,[5,6]),(8,[5,6,7]),(9,[5,6,7,8]),(10,[4,5,6,7,8,9]),(11,[0,1,2,3,4,5,6,7,8,9,10]),(12,[0,1,2,3,4,5,6,7,8,9,10,11]),(13,[0,1,2,3,4,5,6,7,8,9,10,11,12]),(14,[0,1,2,3,4,5,6,7,8,9,10,11,12,13]),(15,[]),(16,[15]),(17,[15,16]),(18,[15,16,17]),(19,[]),(20,[19]),(21,[19,20]),(22,[]),(23,[22]),(24,[22,23]),(25,[22,23,24]),(26,[22,23,24,25]),(27,[19,20,21,22,23,24,25,26]),(28,[15,16,17,18,19,20,21,22,23,24,25,26,27]),(29,[15,16,17,18,19,20,21,22,23,24,25,26,27,28]),(30,[15,16,17,18,19,20,21,22,23,24,25,26,27,28,29]),(31,[15,16,17,18,19,20,21,22,23,24,25,26,27,28,29,30]),(32,[0,1,2,3,4,5,6,7,8,9,10,11,12,13,14,15,16,17,18,19,20,21,22,23,24,25,26,27,28,29,30,31]),(33,[]),(34,[33]),(35,[0,1,2,3,4,5,6,7,8,9,10,11,12,13,14,15,16,17,18,19,20,21,22,23,24,25,26,27,28,29,30,31,32,33,34]),(36,[]),(37,[]),(38,[37]),(39,[37,38]),(40,[37,38,39]),(41,[37,38,39,40]),(42,[36,37,38,39,40,41]),(43,[36,37,38,39,40,41,42]),(44,[0,1,2,3,4,5,6,7,8,9,10,11,12,13,14,15,16,17,18,19,20,21,22,23,24,25,26,27,28,29,30,31,32,33,34,35,36,37,38,39,40,41,42,43]),(45,[0,1,2,3,4,5,6,7,8,9,10,11,12,13,14,15,16,17,18,19,20,21,22,23,24,25,26,27,28,29,30,31,32,33,34,35,36,37,38,39,40,41,42,43,44])]],none⟩,
 ⟨90,7,[[(0,[]),(1,[]),(2,[0,1]),(3,[]),(4,[0,1,2,3]),(5,[]),(6,[]),(7,[5,6]),(8,[0,1,2,3,4,5,6,7]),(9,[0,1,2,3,4,5,6,7,8])]],none⟩,
 ⟨90,10,[[(0,[]),(1,[]),(2,[0,1]),(3,[]),(4,[]),(5,[4]),(6,[3,4,5]),(7,[0,1,2,3,4,5,6]),(8,[0,1,2,3,4,5,6,7])]],none⟩,
 ⟨90,5,[[(0,[]),(1,[]),(2,[0,1]),(3,[]),(4,[0,1,2,3]),(5,[]),(6,[]),(7,[6]),(8,[5,6,7]),(9,[0,1,2,3,4,5,6,7,8]),(10,[0,1,2,3,4,5,6,7,8,9])]],none⟩,
 ⟨105,5,[[(0,[]),(1,[]),(2,[]),(3,[1,2]),(4,[1,2,3]),(5,[1,2,3,4]),(6,[]),(7,[]),(8,[6,7]),(9,[6,7,8]),(10,[6,7,8,9]),(11,[6,7,8,9,10]),(12,[1,2,3,4,5,6,7,8,9,10,11]),(13,[0,1,2,3,4,5,6,7,8,9,10,11,12]),(14,[]),(15,[]),(16,[14,15]),(17,[14,15,16]),(18,[14,15,16,17]),(19,[]),(20,[]),(21,[19,20]),(22,[19,20,21]),(23,[19,20,21,22]),(24,[19,20,21,22,23]),(25,[14,15,16,17,18,19,20,21,22,23,24]),(26,[0,1,2,3,4,5,6,7,8,9,10,11,12,13,14,15,16,17,18,19,20,21,22,23,24,25]),(27,[0,1,2,3,4,5,6,7,8,9,10,11,12,13,14,15,16,17,18,19,20,21,22,23,24,25,26])]],none⟩,
 ⟨106,11,[[(0,[]),(1,[0]),(2,[0,1]),(3,[0,1,2]),(4,[]),(5,[4]),(6,[0,1,2,3,4,5]),(7,[0,1,2,3,4,5,6]),(8,[0,1,2,3,4,5,6,7]),(9,[0,1,2,3,4,5,6,7,8])]],none⟩,
 ⟨106,13,[[(0,[]),(1,[0]),(2,[0,1]),(3,[0,1,2]),(4,[]),(5,[4]),(6,[0,1,2,3,4,5]),(7,[0,1,2,3,4,5,6]),(8,[0,1,2,3,4,5,6,7]),(9,[0,1,2,3,4,5,6,7,8])]],none⟩,
 ⟨106,17,[[(0,[]),(1,[0]),(2,[]),(5,[]),(6,[]),(10,[]),(12,[]),(3,[2]),(4,[2,3]),(7,[2,3,6]),(8,[2,3,5,6,7]),(9,[2,3,5,6,7,8]),(11,[2,3,6,7,10]),(13,[2,3,6,7,10,11,12]),(14,[2,3,6,7,10,11,12,13]),(15,[2,3,4,5,6,7,8,9,10,11,12,13,14]),(16,[2,3,4,5,6,7,8,9,10,11,12,13,14,15]),(17,[0,1,2,3,4,5,6,7,8,9,10,11,12,13,14,15,16]),(18,[0,1,2,3,4,5,6,7,8,9,10,11,12,13,14,15,16,17]),(19,[0,1,2,3,4,5,6,7,8,9,10,11,12,13,14,15,16,17,18])]],none⟩,
 ⟨106,19,[[(0,[]),(1,[0]),(2,[]),(3,[]),(7,[]),(10,[]),(4,[3]),(5,[2,3,4]),(6,[2,3,4,5]),(8,[3,4,7]),(9,[3,4,7,8]),(11,[3,4,7,8,10]),(12,[2,3,4,5,6,7,8,9,10,11]),(13,[2,3,4,5,6,7,8,9,10,11,12]),(14,[0,1,2,3,4,5,6,7,8,9,10,11,12,13]),(15,[0,1,2,3,4,5,6,7,8,9,10,11,12,13,14]),(16,[0,1,2,3,4,5,6,7,8,9,10,11,12,13,14,15])]],none⟩,
 ⟨106,21,[[(0,[]),(1,[0]),(2,[]),(5,[]),(6,[]),(10,[]),(3,[2]),(4,[2,3]),(7,[2,3,6]),(8,[2,3,5,6,7]),(9,[2,3,5,6,7,8]),(11,[2,3,6,7,10]),(12,[2,3,4,5,6,7,8,9,10,11]),(13,[2,3,4,5,6,7,8,9,10,11,12]),(14,[0,1,2,3,4,5,6,7,8,9,10,11,12,13]),(15,[0,1,2,3,4,5,6,7,8,9,10,11,12,13,14]),(16,[0,1,2,3,4,5,6,7,8,9,10,11,12,13,14,15])]],none⟩,
 ⟨106,23,[[(0,[]),(1,[0]),(2,[]),(3,[]),(4,[3]),(5,[2,3,4]),(6,[2,3,4,5]),(7,[2,3,4,5,6]),(8,[0,1,2,3,4,5,6,7]),(9,[0,1,2,3,4,5,6,7,8]),(10,[0,1,2,3,4,5,6,7,8,9])]],none⟩,
 ⟨106,5,[[(0,[]),(1,[0]),(2,[]),(3,[2]),(4,[2,3]),(5,[2,3,4]),(6,[2,3,4,5]),(7,[2,3,4,5,6]),(8,[0,1,2,3,4,5,6,7]),(9,[0,1,2,3,4,5,6,7,8]),(10,[0,1,2,3,4,5,6,7,8,9])]],none⟩,
 ⟨106,27,[[(0,[]),(1,[]),(2,[0]),(3,[0,1,2])]],none⟩,
 ⟨108,5,[[(0,[]),(1,[0]),(2,[]),(3,[2]),(4,[2,3]),(5,[0,1,2,3,4]),(6,[0,1,2,3,4,5]),(7,[0,1,2,3,4,5,6]),(8,[0,1,2,3,4,5,6,7]),(9,[0,1,2,3,4,5,6,7,8]),(10,[0,1,2,3,4,5,6,7,8,9]),(11,[0,1,2,3,4,5,6,7,8,9,10]),(12,[0,1,2,3,4,5,6,7,8,9,10,11]),(13,[0,1,2,3,4,5,6,7,8,9,10]),(14,[0,1,2,3,4,5,6,7,8,9,10,13]),(15,[0,1,2,3,4,5,6,7,8,9,10,11,12,13,14]),(16,[0,1,2,3,4,5,6,7,8,9,10,11,12,13,14,15]),(17,[0,1,2,3,4,5,6,7,8,9,10,11,12,13,14,15,16]),(18,[0,1,2,3,4,5,6,7,8,9,10]),(19,[0,1,2,3,4,5,6,7,8,9,10,18]),(20,[0,1,2,3,4,5,6,7,8,9,10,11,12,13,14,15,16,17,18,19]),(21,[0,1,2,3,4,5,6,7,8,9,10,11,12,13,14,15,16,17,18,19,20]),(22,[0,1,2,3,4,5,6,7,8,9,10,11,12,13,14,15,16,17,18,19,20,21]),(23,[0,1,2,3,4,5,6,7,8,9,10,11,12,13,14,15,16,17,18,19,20,21,22]),(24,[0,1,2,3,4,5,6,7,8,9,10,11,12,13,14,15,16,17,18,19,20,21,22,23]),(25,[0,1,2,3,4,5,6,7,8,9,10,11,12,13,14,15,16,17,18,19,20,21,22,23,24]),(26,[0,1,2,3,4,5,6,7,8,9,10,11,12,13,14,15,16,17,18,19,20,21,22,23,24,25]),(27,[0,1,2,3,4,5,6,7,8,9,10,11,12,13,14,15,16,17,18,19,20,21,22,23,24,25,26]),(28,[0,1,2,3,4,5,6,7,8,9,10,11,12,13,14,15,16,17,18,19,20,21,22,23,24,25,26,27]),(29,[0,1,2,3,4,5,6,7,8,9,10,11,12,13,14,15,16,17,18,19,20,21,22,23,24,25,26,27,28]),(30,[0,1,2,3,4,5,6,7,8,9,10,11,12,13,14,15,16,17,18,19,20,21,22,23,24,25,26,27,28,29]),(31,[0,1,2,3,4,5,6,7,8,9,10,11,12,13,14,15,16,17,18,19,20,21,22,23,24,25,26,27,28,29,30]),(32,[0,1,2,3,4,5,6,7,8,9,10,11,12,13,14,15,16,17,18,19,20,21,22,23,24,25,26,27,28,29,30,31]),(33,[0,1,2,3,4,5,6,7,8,9,10,11,12,13,14,15,16,17,18,19,20,21,22,23,24,25,26,27,28,29,30,31,32]),(34,[0,1,2,3,4,5,6,7,8,9,10,11,12,13,14,15,16,17,18,19,20,21,22,23,24,25,26,27,28,29,30,31,32,33]),(35,[0,1,2,3,4,5,6,7,8,9,10,11,12,13,14,15,16,17,18,19,20,21,22,23,24,25,26,27,28,29,30,31,32,33,34]),(36,[0,1,2,3,4,5,6,7,8,9,10,11,12,13,14,15,16,17,18,19,20,21,22,23,24,25,26,27,28,29,30,31,32,33,34,35]),(37,[0,1,2,3,4,5,6,7,8,9,10,11,12,13,14,15,16,17,18,19,20,21,22,23,24,25,26,27,28,29,30,31,32,33,34,35,36]),(38,[0,1,2,3,4,5,6,7,8,9,10,11,12,13,14,15,16,17,18,19,20,21,22,23,24,25,26,27,28,29,30,31,32,33,34,35]),(39,[0,1,2,3,4,5,6,7,8,9,10,11,12,13,14,15,16,17,18,19,20,21,22,23,24,25,26,27,28,29,30,31,32,33,34,35,38]),(40,[0,1,2,3,4,5,6,7,8,9,10,11,12,13,14,15,16,17,18,19,20,21,22,23,24,25,26,27,28,29,30,31,32,33,34,35,36,37,38,39]),(41,[0,1,2,3,4,5,6,7,8,9,10,11,12,13,14,15,16,17,18,19,20,21,22,23,24,25,26,27,28,29,30,31,32,33,34,35,36,37,38,39,40]),(42,[0,1,2,3,4,5,6,7,8,9,10,11,12,13,14,15,16,17,18,19,20,21,22,23,24,25,26,27,28,29,30,31,32,33,34,35,36,37,38,39,40,41])]],none⟩,
 ⟨109,5,[[(0,[]),(1,[0]),(2,[0,1]),(3,[0,1,2]),(4,[0,1,2,3]),(5,[0,1,2,3,4]),(6,[0,1,2,3,4,5]),(7,[0,1,2,3,4]),(8,[0,1,2,3,4,7]),(9,[0,1,2,3,4,5,6,7,8]),(10,[0,1,2,3,4,5,6,7,8,9]),(11,[0,1,2,3,4,5,6,7,8,9,10]),(12,[0,1,2,3,4,5,6,7,8,9,10,11]),(13,[0,1,2,3,4,5,6,7,8,9,10,11,12]),(14,[0,1,2,3,4,5,6,7,8,9,10,11,12,13]),(15,[0,1,2,3,4,5,6,7,8,9,10,11,12,13,14]),(16,[0,1,2,3,4,5,6,7,8,9,10,11,12,13,14,15]),(17,[0,1,2,3,4,5,6,7,8,9,10,11,12,13,14,15,16]),(18,[0,1,2,3,4,5,6,7,8,9,10,11,12,13,14,15,16,17]),(19,[0,1,2,3,4,5,6,7,8,9,10,11,12,13,14,15,16,17,18]),(20,[0,1,2,3,4,5,6,7,8,9,10,11,12,13,14,15,16,17,18,19]),(21,[0,1,2,3,4,5,6,7,8,9,10,11,12,13,14,15,16,17,18]),(22,[0,1,2,3,4,5,6,7,8,9,10,11,12,13,14,15,16,17,18,19,20,21]),(23,[0,1,2,3,4,5,6,7,8,9,10,11,12,13,14,15,16,17,18]),(24,[0,1,2,3,4,5,6,7,8,9,10,11,12,13,14,15,16,17,18,23]),(25,[0,1,2,3,4,5,6,7,8,9,10,11,12,13,14,15,16,17,18,19,20,21,22,23,24]),(26,[0,1,2,3,4,5,6,7,8,9,10,11,12,13,14,15,16,17,18,19,20,21,22,23,24,25]),(27,[0,1,2,3,4,5,6,7,8,9,10,11,12,13,14,15,16,17,18,19,20,21,22,23,24,25,26])]],none⟩,
 ⟨132,8,[[(0,[]),(1,[0]),(2,[0,1]),(3,[0,1,2]),(6,[0,1,2]),(7,[0,1,2]),(8,[0,1,2,7]),(9,[0,1,2,7,8]),(10,[0,1,2,6,7,8,9]),(4,[0,1,2,3]),(5,[0,1,2,3,4]),(11,[0,1,2,6,7,8,9,10]),(12,[0,1,2,3,4,5,6,7,8,9,10,11]),(13,[0,1,2,3,4,5,6,7,8,9,10,11,12]),(14,[0,1,2,3,4,5,6,7,8,9,10,11,12,13]),(15,[0,1,2,3,4,5,6,7,8,9,10,11,12,13,14]),(16,[0,1,2,3,4,5,6,7,8,9,10,11,12,13,14,15]),(17,[0,1,2,3,4,5,6,7,8,9,10,11,12,13,14,15,16]),(18,[0,1,2,3,4,5,6,7,8,9,10,11,12,13,14,15,16,17])],
  [(0,[]),(1,[0]),(2,[0,1]),(3,[0,1,2]),(6,[0,1,2]),(7,[0,1,2]),(8,[0,1,2,7]),(9,[0,1,2,7,8]),(10,[0,1,2,6,7,8,9]),(4,[0,1,2,3]),(11,[0,1,2,6,7,8,9,10]),(5,[0,1,2,3,4]),(12,[0,1,2,3,4,5,6,7,8,9,10,11]),(13,[0,1,2,3,4,5,6,7,8,9,10,11,12]),(14,[0,1,2,3,4,5,6,7,8,9,10,11,12,13]),(15,[0,1,2,3,4,5,6,7,8,9,10,11,12,13,14]),(16,[0,1,2,3,4,5,6,7,8,9,10,11,12,13,14,15]),(17,[0,1,2,3,4,5,6,7,8,9,10,11,12,13,14,15,16]),(18,[0,1,2,3,4,5,6,7,8,9,10,11,12,13,14,15,16,17])],
  [(0,[]),(1,[0]),(2,[0,1]),(3,[0,1,2]),(6,[0,1,2]),(7,[0,1,2]),(8,[0,1,2,7]),(9,[0,1,2,7,8]),(10,[0,1,2,6,7,8,9]),(11,[0,1,2,6,7,8,9,10]),(4,[0,1,2,3]),(5,[0,1,2,3,4]),(12,[0,1,2,3,4,5,6,7,8,9,10,11]),(13,[0,1,2,3,4,5,6,7,8,9,10,11,12]),(14,[0,1,2,3,4,5,6,7,8,9,10,11,12,13]),(15,[0,1,2,3,4,5,6,7,8,9,10,11,12,13,14]),(16,[0,1,2,3,4,5,6,7,8,9,10,11,12,13,14,15]),(17,[0,1,2,3,4,5,6,7,8,9,10,11,12,13,14,15,16]),(18,[0,1,2,3,4,5,6,7,8,9,10,11,12,13,14,15,16,17])]],none⟩,
 ⟨150,13,[[(0,[]),(1,[0]),(2,[]),(3,[]),(4,[3]),(5,[3,4]),(6,[2,3,4,5]),(7,[0,1,2,3,4,5,6]),(8,[0,1,2,3,4,5,6,7]),(9,[0,1,2,3,4,5,6,7,8]),(10,[0,1,2,3,4,5,6,7,8,9])]],none⟩,
 ⟨150,17,[[(0,[]),(1,[0]),(2,[]),(3,[2]),(4,[0,1,2,3]),(5,[0,1,2,3,4]),(6,[0,1,2,3,4,5]),(7,[0,1,2,3,4,5,6])]],none⟩,
 ⟨157,10,[[(0,[]),(1,[]),(2,[]),(3,[2]),(4,[0,2,3]),(5,[0,1,2,3,4]),(6,[0,1,2,3,4,5])]],none⟩,
 ⟨169,21,[[(0,[]),(1,[]),(2,[]),(3,[1,2]),(4,[1,2,3]),(5,[]),(6,[]),(7,[5,6]),(8,[5,6,7]),(9,[0,1,2,3,4,5,6,7,8]),(10,[0,1,2,3,4,5,6,7,8,9])]],none⟩,
 ⟨169,25,[[(0,[]),(1,[]),(2,[]),(3,[]),(4,[2,3]),(5,[2,3,4]),(6,[]),(7,[]),(8,[6,7]),(9,[6,7,8]),(10,[2,3,4,5,6,7,8,9]),(11,[2,3,4,5,6,7,8,9,10]),(12,[0,1,2,3,4,5,6,7,8,9,10,11]),(13,[0,1,2,3,4,5,6,7,8,9,10,11,12])]],none⟩,
 ⟨169,30,[[(0,[]),(1,[]),(2,[]),(3,[1,2]),(4,[1,2,3]),(5,[1,2,3,4]),(6,[1,2,3,4,5]),(7,[]),(8,[]),(9,[7,8]),(10,[7,8,9]),(11,[7,8,9,10]),(12,[7,8,9,10,11]),(13,[]),(14,[]),(15,[13,14]),(16,[13,14,15]),(17,[13,14,15,16]),(18,[13,14,15,16,17]),(19,[]),(20,[]),(21,[19,20]),(22,[19,20,21]),(23,[19,20,21,22]),(24,[1,2,3,4,5,6,7,8,9,10,11,12,13,14,15,16,17,18,19,20,21,22,23]),(25,[0,1,2,3,4,5,6,7,8,9,10,11,12,13,14,15,16,17,18,19,20,21,22,23,24]),(26,[0,1,2,3,4,5,6,7,8,9,10,11,12,13,14,15,16,17,18,19,20,21,22,23,24,25])]],none⟩,
 ⟨180,10,[[(0,[]),(1,[]),(2,[1]),(3,[1,2]),(4,[]),(5,[4]),(6,[4,5]),(7,[]),(8,[7]),(9,[7,8]),(10,[]),(11,[10]),(12,[10,11]),(13,[0,1,2,3,4,5,6,7,8,9,10,11,12]),(14,[]),(15,[0,1,2,3,4,5,6,7,8,9,10,11,12,13,14])]],none⟩,
 ⟨190,7,[[(0,[]),(1,[]),(3,[]),(4,[]),(5,[3,4]),(6,[3,4,5]),(7,[3,4,5,6]),(2,[1]),(8,[1,2,3,4,5,6,7]),(9,[0,1,2]),(10,[0,1,2,3,4,5,6,7,8,9])]],none⟩,
 ⟨195,1,[[(0,[]),(1,[0]),(2,[]),(3,[2]),(4,[]),(5,[4]),(6,[]),(7,[6]),(8,[]),(9,[]),(10,[9]),(13,[]),(11,[8,9,10]),(12,[0,1,2,3,4,5,6,7,8,9,10,11]),(14,[0,1,2,3,4,5,6,7,8,9,10,11,12,13])]],none⟩,
 ⟨202,13,[[(0,[]),(1,[0]),(2,[0,1]),(3,[0,1,2]),(4,[]),(5,[4]),(6,[0,1,2,3,4,5]),(7,[0,1,2,3,4,5,6]),(8,[0,1,2,3,4,5,6,7]),(9,[0,1,2,3,4,5,6,7,8])]],none⟩,
 ⟨202,11,[[(0,[]),(1,[0]),(2,[]),(3,[]),(4,[3]),(5,[3,4]),(7,[]),(8,[]),(6,[2,3,4,5]),(9,[2,3,4,5,6,8]),(10,[2,3,4,5,6,7,8,9]),(11,[2,3,4,5,6,7,8,9,10]),(12,[0,1,2,3,4,5,6,7,8,9,10,11]),(13,[0,1,2,3,4,5,6,7,8,9,10,11,12]),(14,[0,1,2,3,4,5,6,7,8,9,10,11,12,13])]],none⟩,
 ⟨203,6,[[(0,[]),(1,[]),(2,[]),(3,[1,2]),(5,[]),(6,[]),(7,[6]),(8,[5,6,7]),(4,[0,1,2,3]),(9,[0,1,2,3,4,5,6,7,8]),(10,[0,1,2,3,4,5,6,7,8,9])]],none⟩,
 ⟨203,8,[[(0,[]),(1,[]),(2,[]),(3,[1,2]),(5,[]),(10,[]),(11,[]),(12,[10,11]),(4,[0,1,2,3]),(6,[0,1,2,3,4,5]),(7,[0,1,2,3,4,5,6]),(8,[0,1,2,3,4,5,6,7]),(9,[0,1,2,3,4,5,6,7,8]),(13,[0,1,2,3,4,5,6,7,8,9,10,11,12]),(14,[0,1,2,3,4,5,6,7,8,9,10,11,12,13])]],none⟩,
 ⟨203,10,[[(0,[]),(1,[]),(2,[]),(3,[]),(4,[2,3]),(5,[2,3,4]),(6,[]),(7,[6]),(8,[6,7]),(9,[6,7,8]),(10,[2,3,4,5,6,7,8,9]),(11,[0,1,2,3,4,5,6,7,8,9,10]),(12,[0,1,2,3,4,5,6,7,8,9,10,11])]],none⟩,
 ⟨207,3,[[(0,[]),(1,[]),(2,[0,1]),(3,[0,1,2]),(4,[]),(5,[]),(6,[4,5]),(7,[4,5,6]),(8,[0,1,2,3]),(9,[0,1,2,3,4,5,6,7,8])]],none⟩,
 ⟨211,5,[[(0,[]),(1,[]),(2,[]),(3,[2]),(4,[1,2,3]),(5,[1,2,3,4]),(6,[1,2,3,4,5]),(7,[1,2,3,4,5,6]),(8,[]),(9,[]),(10,[9]),(11,[9,10]),(12,[8,9,10,11]),(13,[8,9,10,11,12]),(14,[8,9,10,11,12,13]),(15,[8,9,10,11,12,13,14]),(16,[1,2,3,4,5,6,7,8,9,10,11,12,13,14,15]),(17,[]),(18,[]),(19,[18]),(20,[18,19]),(21,[17,18,19,20]),(22,[17,18,19,20,21]),(23,[17,18,19,20,21,22]),(24,[17,18,19,20,21,22,23]),(25,[1,2,3,4,5,6,7,8,9,10,11,12,13,14,15,16,17,18,19,20,21,22,23,24]),(26,[]),(27,[]),(28,[27]),(29,[27,28]),(30,[26,27,28,29]),(31,[26,27,28,29,30]),(32,[26,27,28,29,30,31]),(33,[1,2,3,4,5,6,7,8,9,10,11,12,13,14,15,16,17,18,19,20,21,22,23,24,25,26,27,28,29,30,31,32]),(34,[1,2,3,4,5,6,7,8,9,10,11,12,13,14,15,16,17,18,19,20,21,22,23,24,25,26,27,28,29,30,31,32,33]),(35,[0,1,2,3,4,5,6,7,8,9,10,11,12,13,14,15,16,17,18,19,20,21,22,23,24,25,26,27,28,29,30,31,32,33,34]),(36,[0,1,2,3,4,5,6,7,8,9,10,11,12,13,14,15,16,17,18,19,20,21,22,23,24,25,26,27,28,29,30,31,32,33,34,35])]],none⟩,
 ⟨211,9,[[(0,[]),(1,[]),(2,[1]),(3,[0,1,2]),(4,[0,1,2,3]),(6,[]),(7,[]),(8,[7]),(9,[6,7,8]),(10,[6,7,8,9]),(13,[]),(14,[]),(15,[14]),(16,[13,14,15]),(17,[13,14,15,16]),(18,[13,14,15,16,17]),(5,[0,1,2,3,4]),(11,[0,1,2,3,4,5,6,7,8,9,10]),(12,[0,1,2,3,4,5,6,7,8,9,10,11]),(19,[0,1,2,3,4,5,6,7,8,9,10,11,12,13,14,15,16,17,18]),(20,[0,1,2,3,4,5,6,7,8,9,10,11,12,13,14,15,16,17,18,19])]],none⟩,
 ⟨211,10,[[(0,[]),(1,[]),(2,[1]),(3,[0,1,2]),(4,[0,1,2,3]),(6,[]),(7,[]),(8,[7]),(9,[6,7,8]),(10,[6,7,8,9]),(13,[]),(14,[]),(15,[14]),(16,[13,14,15]),(17,[13,14,15,16]),(18,[13,14,15,16,17]),(5,[0,1,2,3,4]),(11,[0,1,2,3,4,5,6,7,8,9,10]),(12,[0,1,2,3,4,5,6,7,8,9,10,11]),(19,[0,1,2,3,4,5,6,7,8,9,10,11,12,13,14,15,16,17,18]),(20,[0,1,2,3,4,5,6,7,8,9,10,11,12,13,14,15,16,17,18,19])]],none⟩,
 ⟨211,11,[[(0,[]),(1,[]),(2,[]),(3,[2]),(4,[1,2,3]),(5,[1,2,3,4]),(6,[]),(7,[1,2,3,4,5,6]),(8,[]),(9,[]),(10,[9]),(11,[8,9,10]),(12,[8,9,10,11]),(13,[1,2,3,4,5,6,7,8,9,10,11,12]),(14,[]),(15,[1,2,3,4,5,6,7,8,9,10,11,12,13,14]),(16,[1,2,3,4,5,6,7,8,9,10,11,12,13,14,15]),(17,[1,2,3,4,5,6,7,8,9,10,11,12,13,14,15,16]),(18,[0,1,2,3,4,5,6,7,8,9,10,11,12,13,14,15,16,17]),(19,[0,1,2,3,4,5,6,7,8,9,10,11,12,13,14,15,16,17,18])]],none⟩,
 ⟨212,1,[[(0,[]),(1,[0]),(2,[0,1]),(4,[]),(5,[4]),(6,[4,5]),(9,[]),(10,[9]),(11,[9,10]),(3,[0,1,2]),(7,[0,1,2,3,4,5,6]),(8,[0,1,2,3,4,5,6,7]),(12,[0,1,2,3,4,5,6,7,9,10,11]),(13,[0,1,2,3,4,5,6,7,8,9,10,11,12]),(14,[0,1,2,3,4,5,6,7,8,9,10,11,12,13])]],none⟩,
 ⟨212,2,[[(0,[]),(1,[0]),(2,[0,1]),(3,[]),(4,[3]),(5,[3,4]),(6,[0,1,2,3,4,5]),(7,[]),(8,[7]),(9,[7,8]),(10,[7,8,9]),(11,[]),(12,[11]),(13,[11,12]),(14,[7,8,9,10,11,12,13]),(15,[0,1,2,3,4,5,6,7,8,9,10,11,12,13,14]),(16,[0,1,2,3,4,5,6,7,8,9,10,11,12,13,14,15])]],none⟩,
 ⟨212,4,[[(0,[]),(1,[0]),(2,[0,1]),(4,[]),(5,[4]),(6,[4,5]),(9,[]),(10,[9]),(11,[9,10]),(3,[0,1,2]),(7,[0,1,2,3,4,5,6]),(8,[0,1,2,3,4,5,6,7]),(12,[0,1,2,3,4,5,6,7,9,10,11]),(13,[0,1,2,3,4,5,6,7,8,9,10,11,12]),(14,[0,1,2,3,4,5,6,7,8,9,10,11,12,13])]],none⟩,
 ⟨212,5,[[(0,[]),(1,[0]),(2,[0,1]),(3,[]),(4,[3]),(5,[3,4]),(6,[0,1,2,3,4,5]),(7,[]),(8,[7]),(9,[7,8]),(10,[]),(11,[10]),(12,[10,11]),(13,[7,8,9,10,11,12]),(14,[0,1,2,3,4,5,6,7,8,9,10,11,12,13]),(15,[]),(16,[15]),(17,[15,16]),(18,[]),(19,[18]),(20,[18,19]),(21,[15,16,17,18,19,20]),(22,[0,1,2,3,4,5,6,7,8,9,10,11,12,13,14,15,16,17,18,19,20,21]),(23,[0,1,2,3,4,5,6,7,8,9,10,11,12,13,14,15,16,17,18,19,20,21,22])]],none⟩,
 ⟨212,7,[[(0,[]),(1,[]),(2,[0,1]),(4,[]),(5,[4]),(6,[4,5]),(7,[]),(8,[7]),(9,[7,8]),(10,[]),(11,[10]),(12,[10,11]),(13,[]),(14,[13]),(15,[13,14]),(16,[]),(17,[13,14,15,16]),(19,[]),(20,[19]),(21,[19,20]),(22,[]),(23,[22]),(24,[22,23]),(25,[]),(26,[25]),(27,[25,26]),(3,[0,1,2]),(18,[0,1,2,3,13,14,15,16,17]),(28,[0,1,2,3,4,5,6,7,8,9,10,11,12,13,14,15,16,17,18,19,20,21,22,23,24,25,26,27]),(29,[0,1,2,3,4,5,6,7,8,9,10,11,12,13,14,15,16,17,18,19,20,21,22,23,24,25,26,27,28])]],none⟩,
 ⟨220,3,[[(0,[]),(1,[0]),(2,[0,1]),(3,[0,1,2]),(4,[]),(5,[4]),(6,[4,5]),(7,[4,5,6]),(8,[0,1,2,3,4,5,6,7]),(9,[]),(10,[0,1,2,3,4,5,6,7,8,9])]],none⟩,
 ⟨220,9,[[(0,[]),(1,[0]),(2,[]),(3,[]),(4,[2,3]),(5,[2,3,4]),(6,[2,3,4,5]),(7,[]),(8,[]),(9,[8]),(10,[7,8,9]),(11,[7,8,9,10]),(12,[7,8,9,10,11]),(13,[]),(14,[]),(15,[14]),(16,[13,14,15]),(17,[13,14,15,16]),(18,[13,14,15,16,17]),(19,[]),(20,[]),(21,[20]),(22,[19,20,21]),(23,[19,20,21,22]),(24,[19,20,21,22,23]),(25,[2,3,4,5,6,7,8,9,10,11,12,13,14,15,16,17,18,19,20,21,22,23,24]),(26,[2,3,4,5,6,7,8,9,10,11,12,13,14,15,16,17,18,19,20,21,22,23,24,25]),(27,[0,1,2,3,4,5,6,7,8,9,10,11,12,13,14,15,16,17,18,19,20,21,22,23,24,25,26]),(28,[0,1,2,3,4,5,6,7,8,9,10,11,12,13,14,15,16,17,18,19,20,21,22,23,24,25,26,27]),(29,[0,1,2,3,4,5,6,7,8,9,10,11,12,13,14,15,16,17,18,19,20,21,22,23,24,25,26,27,28])]],none⟩,
 ⟨221,5,[[(0,[]),(1,[0]),(2,[]),(3,[2]),(4,[]),(5,[]),(6,[5]),(7,[4,5,6]),(8,[]),(9,[8]),(10,[]),(11,[10]),(12,[8,9,10,11]),(13,[2,3,4,5,6,7,8,9,10,11,12]),(14,[0,1,2,3,4,5,6,7,8,9,10,11,12,13]),(15,[0,1,2,3,4,5,6,7,8,9,10,11,12,13,14]),(16,[0,1,2,3,4,5,6,7,8,9,10,11,12,13,14,15])]],none⟩,
 ⟨222,3,[[(0,[]),(1,[0]),(2,[0,1]),(3,[0,1,2]),(4,[]),(5,[4]),(6,[4,5]),(7,[4,5,6]),(8,[0,1,2,3,4,5,6,7]),(9,[]),(10,[0,1,2,3,4,5,6,7,8,9])]],none⟩,
 ⟨222,10,[[(0,[]),(1,[0]),(2,[]),(3,[]),(4,[3]),(5,[2,3,4]),(6,[2,3,4,5]),(7,[2,3,4,5,6]),(8,[]),(9,[]),(10,[9]),(11,[8,9,10]),(12,[8,9,10,11]),(13,[8,9,10,11,12]),(14,[]),(15,[]),(16,[15]),(17,[14,15,16]),(18,[14,15,16,17]),(19,[14,15,16,17,18]),(20,[]),(21,[]),(22,[21]),(23,[20,21,22]),(24,[20,21,22,23]),(25,[20,21,22,23,24]),(26,[2,3,4,5,6,7,8,9,10,11,12,13,14,15,16,17,18,19,20,21,22,23,24,25]),(27,[2,3,4,5,6,7,8,9,10,11,12,13,14,15,16,17,18,19,20,21,22,23,24,25,26]),(28,[0,1,2,3,4,5,6,7,8,9,10,11,12,13,14,15,16,17,18,19,20,21,22,23,24,25,26,27]),(29,[0,1,2,3,4,5,6,7,8,9,10,11,12,13,14,15,16,17,18,19,20,21,22,23,24,25,26,27,28]),(30,[0,1,2,3,4,5,6,7,8,9,10,11,12,13,14,15,16,17,18,19,20,21,22,23,24,25,26,27,28,29])]],none⟩,
 ⟨222,13,[[(0,[]),(1,[]),(2,[1]),(3,[1,2]),(4,[]),(5,[4]),(6,[]),(7,[6]),(8,[4,5,6,7]),(9,[1,2,3,4,5,6,7,8]),(10,[0]),(11,[0,1,2,3,4,5,6,7,8,9,10])]],none⟩,
 ⟨223,19,[[(0,[]),(1,[]),(2,[]),(4,[]),(5,[4]),(6,[4,5]),(7,[4,5,6]),(3,[1,2]),(8,[1,2,3,4,5,6,7]),(9,[1,2,3,4,5,6,7,8]),(10,[0,1,2,3,4,5,6,7,8,9]),(11,[0,1,2,3,4,5,6,7,8,9,10])]],none⟩,
 ⟨229,7,[[(0,[]),(1,[]),(2,[1]),(3,[]),(4,[]),(5,[4]),(6,[]),(7,[6]),(8,[6,7]),(9,[]),(10,[9]),(11,[0,1,2,6,7,8]),(12,[0,1,2,6,7,8,11]),(13,[0,1,2,3,4,5,6,7,8,9,10,11,12]),(14,[0,1,2,3,4,5,6,7,8,9,10,11,12,13])]],none⟩,
 ⟨229,8,[[(0,[]),(1,[]),(2,[1]),(3,[]),(4,[]),(5,[4]),(6,[]),(7,[6]),(8,[6,7]),(9,[]),(10,[9]),(11,[0,1,2,6,7,8]),(12,[0,1,2,6,7,8,11]),(13,[0,1,2,3,4,5,6,7,8,9,10,11,12]),(14,[0,1,2,3,4,5,6,7,8,9,10,11,12,13])]],none⟩,
 ⟨229,9,[[(0,[]),(1,[]),(2,[1]),(3,[]),(4,[]),(5,[4]),(6,[]),(7,[6]),(8,[6,7]),(9,[]),(10,[9]),(11,[0,1,2,6,7,8]),(12,[0,1,2,6,7,8,11]),(13,[0,1,2,3,4,5,6,7,8,9,10,11,12]),(14,[0,1,2,3,4,5,6,7,8,9,10,11,12,13])]],none⟩,
 ⟨229,10,[[(0,[]),(1,[]),(2,[1]),(3,[]),(4,[]),(5,[4]),(6,[]),(7,[6]),(8,[6,7]),(9,[]),(10,[9]),(11,[0,1,2,6,7,8]),(12,[0,1,2,6,7,8,11]),(13,[0,1,2,3,4,5,6,7,8,9,10,11,12]),(14,[0,1,2,3,4,5,6,7,8,9,10,11,12,13])]],none⟩,
 ⟨229,17,[[(0,[]),(1,[]),(2,[1]),(3,[]),(4,[]),(5,[4]),(6,[]),(7,[6]),(8,[6,7]),(9,[]),(10,[9]),(11,[0,1,2,6,7,8]),(12,[0,1,2,6,7,8,11]),(13,[0,1,2,3,4,5,6,7,8,9,10,11,12]),(14,[0,1,2,3,4,5,6,7,8,9,10,11,12,13])]],none⟩,
 ⟨229,18,[[(0,[]),(1,[]),(2,[1]),(3,[]),(4,[]),(5,[4]),(6,[]),(7,[6]),(8,[6,7]),(9,[]),(10,[9]),(11,[0,1,2,6,7,8]),(12,[0,1,2,6,7,8,11]),(13,[0,1,2,3,4,5,6,7,8,9,10,11,12]),(14,[0,1,2,3,4,5,6,7,8,9,10,11,12,13])]],none⟩,
 ⟨229,23,[[(0,[]),(1,[]),(2,[1]),(3,[]),(4,[]),(5,[4]),(6,[]),(7,[6]),(8,[6,7]),(9,[]),(10,[9]),(11,[0,1,2,6,7,8]),(12,[0,1,2,6,7,8,11]),(13,[0,1,2,3,4,5,6,7,8,9,10,11,12]),(14,[0,1,2,3,4,5,6,7,8,9,10,11,12,13])]],none⟩,
 ⟨232,16,[[(0,[]),(1,[0]),(2,[]),(4,[]),(3,[0,1,2]),(5,[4]),(6,[0,1,2,3,4,5]),(7,[0,1,2,3,4,5,6]),(8,[0,1,2,3,4,5,6,7])],
  [(0,[]),(1,[0]),(2,[]),(4,[]),(5,[4]),(3,[0,1,2]),(6,[0,1,2,3,4,5]),(7,[0,1,2,3,4,5,6]),(8,[0,1,2,3,4,5,6,7])]],none⟩,
 ⟨234,9,[[(0,[]),(1,[]),(2,[1]),(3,[]),(4,[1,2,3]),(5,[1,2,3,4]),(6,[1,2,3,4,5]),(7,[0,1,2,3,4,5,6]),(8,[]),(9,[8]),(10,[0,1,2,3,4,5,6,7,8,9])]],none⟩,
 ⟨234,10,[[(0,[]),(1,[]),(2,[1]),(3,[]),(4,[1,2,3]),(5,[1,2,3,4]),(6,[1,2,3,4,5]),(7,[]),(8,[0,1,2,3,4,5,6,7]),(9,[0,1,2,3,4,5,6,7,8])]],none⟩,
 ⟨241,2,[[(0,[]),(1,[]),(2,[]),(5,[]),(9,[]),(10,[]),(13,[]),(17,[]),(20,[]),(3,[2]),(4,[1,2,3]),(6,[2,3,5]),(7,[1,2,3,4,5,6]),(8,[1,2,3,4,5,6,7]),(11,[2,3,5,6,10]),(12,[2,3,5,6,9,10,11]),(14,[2,3,5,6,10,11,13]),(15,[2,3,5,6,9,10,11,12,13,14]),(16,[2,3,5,6,9,10,11,12,13,14,15]),(18,[2,3,5,6,10,11,13,14,17]),(19,[2,3,5,6,10,11,13,14,17,18]),(21,[2,3,5,6,10,11,13,14,17,18,20]),(22,[2,3,5,6,10,11,13,14,17,18,19,20,21]),(23,[2,3,5,6,10,11,13,14,17,18,19,20,21,22]),(24,[0,1,2,3,4,5,6,7,8,9,10,11,12,13,14,15,16,17,18,19,20,21,22,23]),(25,[0,1,2,3,4,5,6,7,8,9,10,11,12,13,14,15,16,17,18,19,20,21,22,23,24])]],none⟩,
 ⟨252,7,[[(0,[]),(1,[]),(3,[]),(4,[3]),(5,[3,4]),(6,[3,4,5]),(2,[0,1]),(7,[0,1,2,3,4,5,6]),(8,[0,1,2,3,4,5,6,7])]],none⟩,
 ⟨260,2,[[(0,[]),(1,[0]),(2,[0,1]),(3,[0,1,2]),(4,[0,1,2,3]),(5,[0,1,2]),(6,[0,1,2,5]),(7,[0,1,2]),(8,[0,1,2,5,6,7]),(9,[0,1,2,5,6,7,8]),(10,[0,1,2,5,6,7,8,9]),(11,[0,1,2,3,4,5,6,7,8,9,10]),(12,[0,1,2]),(13,[0,1,2,12]),(14,[0,1,2,3,4,5,6,7,8,9,10,11,12,13]),(15,[0,1,2,3,4,5,6,7,8,9,10,11,12,13,14])]],none⟩,
 ⟨265,6,[[(0,[]),(1,[0]),(2,[]),(3,[]),(4,[3]),(5,[]),(6,[]),(7,[5,6]),(8,[2,3,4,5,6,7]),(9,[2,3,4,5,6,7,8]),(10,[0,1,2,3,4,5,6,7,8,9]),(11,[0,1,2,3,4,5,6,7,8,9,10]),(12,[0,1,2,3,4,5,6,7,8,9,10,11])]],none⟩,
 ⟨277,7,[[(0,[]),(1,[]),(2,[]),(3,[1,2]),(4,[1,2,3]),(9,[]),(5,[0,1,2,3,4]),(6,[0,1,2,3,4,5]),(7,[0,1,2,3,4,5,6]),(8,[0,1,2,3,4,5,6]),(10,[0,1,2,3,4,5,6,7,9]),(11,[0,1,2,3,4,5,6,7,8,9,10])]],none⟩,
 ⟨282,5,[[(0,[]),(1,[]),(2,[0,1]),(3,[]),(4,[3]),(5,[3,4]),(6,[0,1,2,3,4,5]),(7,[0,1,2,3,4,5,6]),(8,[0,1,2,3,4,5,6,7]),(9,[0,1,2,3,4,5,6,7,8]),(10,[0,1,2,3,4,5,6,7]),(11,[0,1,2,3,4,5,6,7]),(12,[0,1,2,3,4,5,6,7,10,11]),(13,[0,1,2,3,4,5,6,7,8,9,10,11,12]),(14,[0,1,2,3,4,5,6,7,8,9,10,11,12,13]),(15,[0,1,2,3,4,5,6,7]),(16,[0,1,2,3,4,5,6,7,15]),(17,[0,1,2,3,4,5,6,7]),(18,[0,1,2,3,4,5,6,7,15,16,17]),(19,[0,1,2,3,4,5,6,7,15,16,17,18]),(20,[0,1,2,3,4,5,6,7,8,9,10,11,12,13,14,15,16,17,18,19]),(21,[0,1,2,3,4,5,6,7,8,9,10,11,12,13,14,15,16,17,18,19,20])]],none⟩,
 ⟨284,1,[[(0,[]),(1,[0]),(2,[]),(3,[2]),(4,[]),(5,[]),(6,[5]),(7,[4,5,6]),(8,[0,1,2,3,4,5,6,7]),(9,[0,1,2,3,4,5,6,7,8])]],none⟩,
 ⟨287,13,[[(0,[]),(1,[]),(2,[1]),(3,[]),(4,[]),(5,[4]),(6,[3,4,5]),(7,[3,4,5,6]),(8,[]),(9,[]),(10,[8,9]),(11,[8,9,10]),(12,[8,9,10,11]),(13,[]),(14,[8,9,10,11,12,13]),(15,[8,9,10,11,12,13,14]),(16,[]),(17,[16]),(18,[8,9,10,11,12,13,14,15,16,17]),(19,[8,9,10,11,12,13,14,15,16,17,18]),(20,[3,4,5,6,7,8,9,10,11,12,13,14,15,16,17,18,19]),(21,[0,1,2,3,4,5,6,7,8,9,10,11,12,13,14,15,16,17,18,19,20]),(22,[0,1,2,3,4,5,6,7,8,9,10,11,12,13,14,15,16,17,18,19,20,21])]],none⟩,
 ⟨288,8,[[(0,[]),(1,[0]),(2,[]),(3,[2]),(4,[]),(5,[4]),(6,[]),(7,[4,5,6]),(8,[]),(9,[8]),(10,[4,5,6,7,8,9]),(11,[]),(12,[11]),(13,[4,5,6,7,8,9,10,11,12]),(14,[]),(15,[4,5,6,7,8,9,10,11,12,13,14]),(16,[2,3,4,5,6,7,8,9,10,11,12,13,14,15]),(17,[2,3,4,5,6,7,8,9,10,11,12,13,14,15,16]),(18,[2,3,4,5,6,7,8,9,10,11,12,13,14,15,16,17]),(19,[0,1,2,3,4,5,6,7,8,9,10,11,12,13,14,15,16,17,18]),(20,[0,1,2,3,4,5,6,7,8,9,10,11,12,13,14,15,16,17,18,19]),(21,[0,1,2,3,4,5,6,7,8,9,10,11,12,13,14,15,16,17,18,19,20])]],none⟩,
 ⟨289,8,[[(0,[]),(1,[0]),(2,[]),(3,[2]),(4,[]),(5,[]),(6,[5]),(7,[4,5,6]),(8,[]),(9,[4,5,6,7,8]),(10,[2,3,4,5,6,7,8,9]),(11,[2,3,4,5,6,7,8,9,10]),(12,[2,3,4,5,6,7,8,9,10,11]),(13,[0,1,2,3,4,5,6,7,8,9,10,11,12]),(14,[0,1,2,3,4,5,6,7,8,9,10,11,12,13]),(15,[0,1,2,3,4,5,6,7,8,9,10,11,12,13,14])]],none⟩,
 ⟨290,8,[[(0,[]),(1,[0]),(2,[]),(3,[2]),(4,[]),(5,[4]),(6,[4,5]),(7,[]),(8,[4,5,6,7]),(9,[]),(10,[9]),(11,[4,5,6,7,8,9,10]),(12,[]),(13,[4,5,6,7,8,9,10,11,12]),(14,[2,3,4,5,6,7,8,9,10,11,12,13]),(15,[2,3,4,5,6,7,8,9,10,11,12,13,14]),(16,[2,3,4,5,6,7,8,9,10,11,12,13,14,15]),(17,[0,1,2,3,4,5,6,7,8,9,10,11,12,13,14,15,16]),(18,[0,1,2,3,4,5,6,7,8,9,10,11,12,13,14,15,16,17]),(19,[0,1,2,3,4,5,6,7,8,9,10,11,12,13,14,15,16,17,18])]],none⟩,
 ⟨291,8,[[(0,[]),(1,[0]),(2,[]),(3,[2]),(4,[]),(5,[4]),(6,[4,5]),(7,[]),(8,[7]),(9,[4,5,6,7,8]),(10,[]),(11,[10]),(12,[10,11]),(13,[4,5,6,7,8,9,10,11,12]),(14,[]),(15,[14]),(16,[4,5,6,7,8,9,10,11,12,13,14,15]),(17,[]),(18,[17]),(19,[17,18]),(20,[]),(21,[20]),(22,[17,18,19,20,21]),(23,[]),(24,[23]),(25,[23,24]),(26,[17,18,19,20,21,22,23,24,25]),(27,[4,5,6,7,8,9,10,11,12,13,14,15,16,17,18,19,20,21,22,23,24,25,26]),(28,[2,3,4,5,6,7,8,9,10,11,12,13,14,15,16,17,18,19,20,21,22,23,24,25,26,27]),(29,[2,3,4,5,6,7,8,9,10,11,12,13,14,15,16,17,18,19,20,21,22,23,24,25,26,27,28]),(30,[2,3,4,5,6,7,8,9,10,11,12,13,14,15,16,17,18,19,20,21,22,23,24,25,26,27,28,29]),(31,[0,1,2,3,4,5,6,7,8,9,10,11,12,13,14,15,16,17,18,19,20,21,22,23,24,25,26,27,28,29,30]),(32,[0,1,2,3,4,5,6,7,8,9,10,11,12,13,14,15,16,17,18,19,20,21,22,23,24,25,26,27,28,29,30,31]),(33,[0,1,2,3,4,5,6,7,8,9,10,11,12,13,14,15,16,17,18,19,20,21,22,23,24,25,26,27,28,29,30,31,32])]],none⟩,
 ⟨292,8,[[(0,[]),(1,[0]),(2,[]),(3,[2]),(4,[]),(5,[2,3,4]),(6,[2,3,4,5]),(7,[2,3,4,5,6]),(8,[2,3,4,5,6,7]),(9,[0,1,2,3,4,5,6,7,8]),(10,[0,1,2,3,4,5,6,7,8,9]),(11,[0,1,2,3,4,5,6,7,8,9,10])]],none⟩,
 ⟨292,10,[[(0,[]),(1,[0]),(2,[]),(3,[]),(4,[]),(5,[4]),(6,[3,4,5]),(7,[]),(8,[]),(9,[8]),(10,[7,8,9]),(11,[2,3,4,5,6,7,8,9,10]),(12,[2,3,4,5,6,7,8,9,10,11]),(13,[0,1,2,3,4,5,6,7,8,9,10,11,12]),(14,[0,1,2,3,4,5,6,7,8,9,10,11,12,13]),(15,[0,1,2,3,4,5,6,7,8,9,10,11,12,13,14])]],none⟩,
 ⟨292,6,[[(0,[]),(1,[0]),(2,[]),(3,[2]),(4,[]),(5,[2,3,4]),(6,[2,3,4,5]),(7,[]),(8,[2,3,4,5,6,7]),(9,[2,3,4,5,6,7,8]),(10,[0,1,2,3,4,5,6,7,8,9]),(11,[0,1,2,3,4,5,6,7,8,9,10]),(12,[0,1,2,3,4,5,6,7,8,9,10,11])]],none⟩,
 ⟨293,4,[[(0,[]),(1,[]),(2,[0,1]),(3,[0,1,2]),(5,[]),(4,[0,1,2,3]),(6,[5]),(7,[0,1,2,3,4,5,6])],
  [(0,[]),(1,[]),(2,[0,1]),(3,[0,1,2]),(5,[]),(6,[5]),(4,[0,1,2,3]),(7,[0,1,2,3,4,5,6])]],none⟩,
 ⟨294,1,[[(0,[]),(1,[0]),(2,[0,1]),(3,[0,1,2]),(4,[0,1,2,3]),(5,[0,1,2,3,4]),(6,[0,1,2,3]),(7,[0,1,2,3,6]),(8,[0,1,2,3,6,7]),(9,[0,1,2,3,6,7,8]),(10,[0,1,2,3,4,5,6,7,8,9]),(11,[0,1,2,3,4,5,6,7,8,9,10]),(12,[0,1,2,3,4,5,6,7,8,9,10,11])]],none⟩,
 ⟨296,12,[[(0,[]),(1,[0]),(2,[]),(3,[0,1,2]),(4,[]),(5,[4]),(6,[]),(7,[4,5,6]),(8,[]),(9,[8]),(10,[]),(11,[8,9,10]),(12,[]),(13,[12]),(14,[]),(15,[12,13,14]),(16,[0,1,2,3,4,5,6,7,8,9,10,11,12,13,14,15]),(17,[0,1,2,3,4,5,6,7,8,9,10,11,12,13,14,15,16])]],none⟩,
 ⟨333,3,[[(0,[]),(1,[0]),(2,[0,1]),(3,[0,1,2]),(4,[]),(5,[4]),(6,[4,5]),(7,[4,5,6]),(8,[]),(9,[0,1,2,3,8]),(10,[0,1,2,3,4,5,6,7,8,9])]],none⟩,
 ⟨336,1,[[(0,[]),(1,[0]),(2,[0,1]),(3,[0,1,2]),(4,[]),(5,[4]),(6,[4,5]),(7,[4,5,6]),(8,[]),(9,[8]),(10,[8,9]),(11,[8,9,10]),(12,[]),(13,[12]),(14,[12,13]),(15,[12,13,14]),(16,[0,1,2,3,4,5,6,7,8,9,10,11,12,13,14,15]),(17,[0,1,2,3,4,5,6,7,8,9,10,11,12,13,14,15,16])]],none⟩,
 ⟨343,3,[[(0,[]),(1,[0]),(2,[0,1]),(3,[0,1,2]),(4,[]),(5,[4]),(6,[4,5]),(7,[4,5,6]),(8,[0,1,2,3]),(9,[0,1,2,3,4,5,6,7,8])]],none⟩,
 ⟨348,1,[[(0,[]),(1,[0]),(2,[0,1]),(3,[0,1,2]),(4,[0,1,2,3]),(5,[0,1,2,3,4]),(6,[0,1,2,3,4,5]),(7,[0,1,2,3,4,5,6]),(8,[0,1,2,3,4,5,6,7]),(9,[0,1,2,3,4,5,6,7,8]),(10,[0,1,2,3,4,5,6,7,8,9]),(11,[0,1,2,3,4,5,6,7,8,9,10]),(12,[0,1,2,3,4,5,6,7,8,9,10,11]),(13,[0,1,2,3,4,5,6,7,8,9,10,11,12]),(14,[0,1,2,3,4,5,6,7,8,9,10,11,12,13]),(15,[0,1,2,3,4,5,6,7,8,9,10,11,12,13,14]),(16,[0,1,2,3,4,5,6,7,8,9,10,11,12,13,14,15]),(17,[0,1,2,3,4,5,6,7,8,9,10,11,12,13,14,15,16]),(18,[0,1,2,3,4,5,6,7,8,9,10,11,12,13,14,15,16,17]),(19,[0,1,2,3,4,5,6,7,8,9,10,11,12,13,14,15,16,17,18]),(20,[0,1,2,3,4,5,6,7,8,9,10,11,12,13,14,15,16,17,18,19]),(21,[0,1,2,3,4,5,6,7,8,9,10,11,12,13,14,15,16,17,18,19,20]),(22,[0,1,2,3,4,5,6,7,8,9,10,11,12,13,14,15,16,17,18,19,20,21]),(23,[0,1,2,3,4,5,6,7,8,9,10,11,12,13,14,15,16,17,18,19,20,21,22]),(24,[0,1,2,3,4,5,6,7,8,9,10,11,12,13,14,15,16,17,18,19,20,21,22,23]),(25,[0,1,2,3,4,5,6,7,8,9,10,11,12,13,14,15,16,17,18,19,20,21,22,23,24]),(26,[0,1,2,3,4,5,6,7,8,9,10,11,12,13,14,15,16,17,18,19]),(27,[0,1,2,3,4,5,6,7,8,9,10,11,12,13,14,15,16,17,18,19,26]),(28,[0,1,2,3,4,5,6,7,8,9,10,11,12,13,14,15,16,17,18,19,26,27]),(29,[0,1,2,3,4,5,6,7,8,9,10,11,12,13,14,15,16,17,18,19,26,27,28]),(30,[0,1,2,3,4,5,6,7,8,9,10,11,12,13,14,15,16,17,18,19,20,21,22,23,24,25,26,27,28,29]),(31,[0,1,2,3,4,5,6,7,8,9,10,11,12,13,14,15,16,17,18,19]),(32,[0,1,2,3,4,5,6,7,8,9,10,11,12,13,14,15,16,17,18,19,20,21,22,23,24,25,26,27,28,29,30,31]),(33,[0,1,2,3,4,5,6,7,8,9,10,11,12,13,14,15,16,17,18,19,20,21,22,23,24,25,26,27,28,29,30,31,32])]],none⟩,
 ⟨348,8,[[(0,[]),(1,[]),(2,[1]),(3,[1,2]),(4,[1,2,3]),(5,[]),(6,[5]),(7,[5,6]),(8,[5,6,7]),(9,[5,6,7,8]),(10,[1,2,3,4,5,6,7,8,9]),(11,[1,2,3,4,5,6,7,8,9,10]),(12,[]),(13,[12]),(14,[12,13]),(15,[12,13,14]),(16,[12,13,14,15]),(17,[1,2,3,4,5,6,7,8,9,10,11,12,13,14,15,16]),(18,[1,2,3,4,5,6,7,8,9,10,11,12,13,14,15,16,17]),(19,[1,2,3,4,5,6,7,8,9,10,11,12,13,14,15,16,17,18]),(20,[]),(21,[1,2,3,4,5,6,7,8,9,10,11,12,13,14,15,16,17,18,19,20]),(22,[0,1,2,3,4,5,6,7,8,9,10,11,12,13,14,15,16,17,18,19,20,21]),(23,[0,1,2,3,4,5,6,7,8,9,10,11,12,13,14,15,16,17,18,19,20,21,22])]],none⟩,
 ⟨349,3,[[(0,[]),(1,[]),(2,[1]),(3,[1,2]),(4,[1,2,3]),(5,[]),(6,[5]),(7,[5,6]),(8,[5,6,7]),(9,[5,6,7,8]),(10,[]),(11,[10]),(12,[10,11]),(13,[10,11,12]),(14,[10,11,12,13]),(15,[10,11,12,13,14]),(16,[5,6,7,8,9,10,11,12,13,14,15]),(17,[5,6,7,8,9,10,11,12,13,14,15,16]),(18,[1,2,3,4,5,6,7,8,9,10,11,12,13,14,15,16,17]),(19,[0,1,2,3,4,5,6,7,8,9,10,11,12,13,14,15,16,17,18]),(20,[0,1,2,3,4,5,6,7,8,9,10,11,12,13,14,15,16,17,18,19]),(21,[0,1,2,3,4,5,6,7,8,9,10,11,12,13,14,15,16,17,18,19,20])]],none⟩,
 ⟨349,12,[[(0,[]),(1,[]),(2,[1]),(3,[1,2]),(4,[1,2,3]),(5,[]),(6,[5]),(7,[5,6]),(8,[5,6,7]),(9,[]),(10,[9]),(11,[]),(12,[9,10,11]),(13,[5,6,7,8,9,10,11,12]),(14,[5,6,7,8,9,10,11,12,13]),(15,[5,6,7,8,9,10,11,12,13,14]),(16,[1,2,3,4,5,6,7,8,9,10,11,12,13,14,15]),(17,[0,1,2,3,4,5,6,7,8,9,10,11,12,13,14,15,16]),(18,[0,1,2,3,4,5,6,7,8,9,10,11,12,13,14,15,16,17]),(19,[0,1,2,3,4,5,6,7,8,9,10,11,12,13,14,15,16,17,18])]],none⟩]
noncomputable def subs:List Nat:=[387,303]
noncomputable def Zi:List Nat:=[225,52,53,54,209,125]
noncomputable def cuts:List Cut:=[
 Cut.mk 26 5 (some []) (dB.mk false [[3,5,6]] [((Loc.slot 0 3).cell 4,aC.cons (CT.int IntKind.i64) (aC.cons CT.str (aC.cons (CT.sl k5) (aC.one (CT.int IntKind.i64)))),true),((Loc.slot 0 3).cell 5,aC.cons CT.str (aC.cons (CT.int IntKind.i64) (aC.one (CT.sl ku))),true),((Loc.slot 0 3).cell 6,aC.one CT.str,true),((Loc.slot 0 3).cell 7,aC.cons (CT.int IntKind.i64) (aC.cons (CT.int IntKind.i64) (aC.one (CT.sl ku))),true)] [(Loc.slot 0 3,none),(Loc.slot 0 5,none)]) [],
 Cut.mk 26 9 (some []) (dB.mk false [[3,5,7]] [((Loc.slot 0 3).cell 4,aC.cons (CT.int IntKind.i64) (aC.cons CT.str (aC.cons (CT.sl k5) (aC.one (CT.int IntKind.i64)))),true),((Loc.slot 0 3).cell 5,aC.cons CT.str (aC.cons (CT.int IntKind.i64) (aC.one (CT.sl ku))),true),((Loc.slot 0 3).cell 6,aC.one CT.str,true),((Loc.slot 0 3).cell 7,aC.cons (CT.int IntKind.i64) (aC.cons (CT.int IntKind.i64) (aC.one (CT.sl ku))),true)] [(Loc.slot 0 3,none),(Loc.slot 0 5,none)]) [],
 Cut.mk 29 6 (some []) (dB.mk false [[3,6,40,41,42]] [((Loc.slot 0 3).cell 4,aC.cons (CT.int IntKind.i64) (aC.cons CT.str (aC.cons (CT.sl k5) (aC.one (CT.int IntKind.i64)))),true),((Loc.slot 0 3).cell 5,aC.cons CT.str (aC.cons (CT.int IntKind.i64) (aC.one (CT.sl ku))),true),((Loc.slot 0 3).cell 6,aC.one CT.str,true),((Loc.slot 0 3).cell 7,aC.cons (CT.int IntKind.i64) (aC.cons (CT.int IntKind.i64) (aC.one (CT.sl ku))),true),(Loc.slot 0 40,aC.one CT.str,true)] [(Loc.slot 0 3,none),(Loc.slot 0 6,none)]) [],
 Cut.mk 29 11 (some []) (dB.mk false [[6,53,54,55]] [(Loc.slot 0 53,aC.cons (CT.int IntKind.i64) (aC.cons (CT.int IntKind.i64) (aC.one (CT.sl ku))),true)] [(Loc.slot 0 6,none)]) [],
 Cut.mk 47 4 (some []) (dB.mk false [[0,1,5]] [(Loc.slot 0 0,aC.one CT.str,true),(Loc.slot 0 1,aC.one CT.str,true)] []) [],
 Cut.mk 50 3 (some []) (dB.mk false [[0,5,6]] [((Loc.slot 0 0).cell 0,ku,false)] [(Loc.slot 0 0,none),(Loc.slot 0 5,none)]) [],
 Cut.mk 53 3 (some []) (dB.mk false [[3,10,11,12]] [(Loc.slot 0 10,ku,true)] [(Loc.slot 0 3,none)]) [],
 Cut.mk 57 2 (some []) (dB.mk false [[0,3]] [(Loc.slot 0 0,k5,true)] []) [],
 Cut.mk 58 4 (some []) (dB.mk false [[0,3]] [] []) [],
 Cut.mk 73 2 (some []) (dB.mk false [[0,3]] [] []) [],
 Cut.mk 74 6 (some []) (dB.mk false [[3,5,6]] [] [(Loc.slot 0 3,none),((Loc.slot 0 3).cell 2,none)]) [],
 Cut.mk 81 6 (some []) (dB.mk false [[5,24,25,26]] [] [(Loc.slot 0 24,none)]) [],
 Cut.mk 91 4 (some []) (dB.mk false [[8,9,10]] [(Loc.slot 0 8,k5,true)] []) [],
 Cut.mk 92 4 (some []) (dB.mk false [[0,15,16]] [] []) [],
 Cut.mk 98 4 (some []) (dB.mk false [[0,1,5,6,7]] [] [(Loc.slot 0 5,none)]) [],
 Cut.mk 99 5 (some []) (dB.mk false [[0,3,4]] [] []) [],
 Cut.mk 105 3 (some []) (dB.mk false [[0,3,4]] [(Loc.slot 0 0,ku,true)] []) [],
 Cut.mk 106 25 (some []) (dB.mk false [[0,4,5,6,8]] [((Loc.slot 0 0).cell 0,ku,false)] [(Loc.slot 0 0,none),(Loc.slot 0 4,none),(Loc.slot 0 5,none),(Loc.slot 0 6,none),((Loc.slot 0 6).cell 0,none),(Loc.slot 0 8,none),((Loc.slot 0 8).cell 4,none),((Loc.slot 0 8).cell 5,none),((Loc.slot 0 8).cell 6,none),((Loc.slot 0 8).cell 7,none)]) [],
 Cut.mk 106 4 (some []) (dB.mk false [[0,4,5,6,8]] [((Loc.slot 0 0).cell 0,ku,false)] [(Loc.slot 0 0,none),(Loc.slot 0 4,none),(Loc.slot 0 5,none),(Loc.slot 0 6,none),((Loc.slot 0 6).cell 0,none),(Loc.slot 0 8,none),((Loc.slot 0 8).cell 4,none),((Loc.slot 0 8).cell 5,none),((Loc.slot 0 8).cell 6,none),((Loc.slot 0 8).cell 7,none)]) [],
 Cut.mk 108 2 (some []) (dB.mk false [[2,3,5]] [((Loc.slot 0 2).cell 0,ku,true),((Loc.slot 0 3).cell 4,aC.cons (CT.int IntKind.i64) (aC.cons CT.str (aC.cons (CT.sl k5) (aC.one (CT.int IntKind.i64)))),true),((Loc.slot 0 3).cell 5,aC.cons CT.str (aC.cons (CT.int IntKind.i64) (aC.one (CT.sl ku))),true),((Loc.slot 0 3).cell 6,aC.one CT.str,true),((Loc.slot 0 3).cell 7,aC.cons (CT.int IntKind.i64) (aC.cons (CT.int IntKind.i64) (aC.one (CT.sl ku))),true)] [(Loc.slot 0 2,none),(Loc.slot 0 3,none)]) [],
 Cut.mk 109 2 (some []) (dB.mk false [[2,3,5]] [((Loc.slot 0 2).cell 0,ku,true),((Loc.slot 0 3).cell 4,aC.cons (CT.int IntKind.i64) (aC.cons CT.str (aC.cons (CT.sl k5) (aC.one (CT.int IntKind.i64)))),true),((Loc.slot 0 3).cell 5,aC.cons CT.str (aC.cons (CT.int IntKind.i64) (aC.one (CT.sl ku))),true),((Loc.slot 0 3).cell 6,aC.one CT.str,true),((Loc.slot 0 3).cell 7,aC.cons (CT.int IntKind.i64) (aC.cons (CT.int IntKind.i64) (aC.one (CT.sl ku))),true)] [(Loc.slot 0 2,none),(Loc.slot 0 3,none)]) [],
 Cut.mk 110 4 (some []) (dB.mk false [[1,3]] [((Loc.slot 0 1).cell 4,aC.cons (CT.int IntKind.i64) (aC.cons CT.str (aC.cons (CT.sl k5) (aC.one (CT.int IntKind.i64)))),true),((Loc.slot 0 1).cell 5,aC.cons CT.str (aC.cons (CT.int IntKind.i64) (aC.one (CT.sl ku))),true),((Loc.slot 0 1).cell 6,aC.one CT.str,true),((Loc.slot 0 1).cell 7,aC.cons (CT.int IntKind.i64) (aC.cons (CT.int IntKind.i64) (aC.one (CT.sl ku))),true)] [(Loc.slot 0 1,none)]) [],
 Cut.mk 110 10 (some []) (dB.mk false [[1,5]] [((Loc.slot 0 1).cell 4,aC.cons (CT.int IntKind.i64) (aC.cons CT.str (aC.cons (CT.sl k5) (aC.one (CT.int IntKind.i64)))),true),((Loc.slot 0 1).cell 5,aC.cons CT.str (aC.cons (CT.int IntKind.i64) (aC.one (CT.sl ku))),true),((Loc.slot 0 1).cell 6,aC.one CT.str,true),((Loc.slot 0 1).cell 7,aC.cons (CT.int IntKind.i64) (aC.cons (CT.int IntKind.i64) (aC.one (CT.sl ku))),true)] [(Loc.slot 0 1,none)]) [],
 Cut.mk 111 3 (some []) (dB.mk false [[0,1,5,6]] [((Loc.slot 0 0).cell 0,ku,false)] [(Loc.slot 0 0,none),(Loc.slot 0 5,none)]) [],
 Cut.mk 111 8 (some []) (dB.mk false [[0,1,5]] [((Loc.slot 0 0).cell 0,ku,false)] [(Loc.slot 0 0,none),(Loc.slot 0 5,none)]) [],
 Cut.mk 111 9 (some []) (dB.mk false [[0,5]] [((Loc.slot 0 0).cell 0,ku,false)] [(Loc.slot 0 0,none),(Loc.slot 0 5,none)]) [],
 Cut.mk 113 9 (some []) (dB.mk false [[0,1,4,5]] [((Loc.slot 0 0).cell 0,ku,false)] [(Loc.slot 0 0,none),(Loc.slot 0 4,none),(Loc.slot 0 5,none)]) [],
 Cut.mk 117 5 (some []) (dB.mk false [[0,3,4]] [(Loc.slot 0 0,k5,true)] []) [],
 Cut.mk 118 6 (some []) (dB.mk false [[1,5]] [(Loc.slot 0 1,ku,true)] [(Loc.slot 0 5,none)]) [],
 Cut.mk 118 11 (some []) (dB.mk false [[1,5,6,7,8]] [(Loc.slot 0 1,ku,true)] [(Loc.slot 0 5,none),(Loc.slot 0 6,none),(Loc.slot 0 7,none)]) [],
 Cut.mk 127 6 (some []) (dB.mk false [[4,5,6]] [] [(Loc.slot 0 4,none),(Loc.slot 0 5,none)]) [],
 Cut.mk 137 5 (some []) (dB.mk false [[3,5,15,16,17]] [((Loc.slot 0 3).cell 4,aC.cons (CT.int IntKind.i64) (aC.cons CT.str (aC.cons (CT.sl k5) (aC.one (CT.int IntKind.i64)))),true),((Loc.slot 0 3).cell 5,aC.cons CT.str (aC.cons (CT.int IntKind.i64) (aC.one (CT.sl ku))),true),((Loc.slot 0 3).cell 6,aC.one CT.str,true),((Loc.slot 0 3).cell 7,aC.cons (CT.int IntKind.i64) (aC.cons (CT.int IntKind.i64) (aC.one (CT.sl ku))),true),(Loc.slot 0 15,aC.cons (CT.int IntKind.i64) (aC.cons CT.str (aC.cons (CT.sl k5) (aC.one (CT.int IntKind.i64)))),true)] [(Loc.slot 0 3,none)]) [],
 Cut.mk 138 4 (some []) (dB.mk false [[3,16,17,18]] [((Loc.slot 0 3).cell 4,aC.cons (CT.int IntKind.i64) (aC.cons CT.str (aC.cons (CT.sl k5) (aC.one (CT.int IntKind.i64)))),true),((Loc.slot 0 3).cell 5,aC.cons CT.str (aC.cons (CT.int IntKind.i64) (aC.one (CT.sl ku))),true),((Loc.slot 0 3).cell 6,aC.one CT.str,true),((Loc.slot 0 3).cell 7,aC.cons (CT.int IntKind.i64) (aC.cons (CT.int IntKind.i64) (aC.one (CT.sl ku))),true),(Loc.slot 0 16,aC.cons CT.str (aC.cons (CT.int IntKind.i64) (aC.one (CT.sl ku))),true)] [(Loc.slot 0 3,none)]) [],
 Cut.mk 138 9 (some []) (dB.mk false [[3,6,16,17,18,44,45,46]] [((Loc.slot 0 3).cell 4,aC.cons (CT.int IntKind.i64) (aC.cons CT.str (aC.cons (CT.sl k5) (aC.one (CT.int IntKind.i64)))),true),((Loc.slot 0 3).cell 5,aC.cons CT.str (aC.cons (CT.int IntKind.i64) (aC.one (CT.sl ku))),true),((Loc.slot 0 3).cell 6,aC.one CT.str,true),((Loc.slot 0 3).cell 7,aC.cons (CT.int IntKind.i64) (aC.cons (CT.int IntKind.i64) (aC.one (CT.sl ku))),true),((Loc.slot 0 6).cell 2,ku,false),(Loc.slot 0 16,aC.cons CT.str (aC.cons (CT.int IntKind.i64) (aC.one (CT.sl ku))),true),(Loc.slot 0 44,aC.cons CT.str (aC.cons (CT.int IntKind.i64) (aC.one (CT.sl ku))),true)] [(Loc.slot 0 3,none),(Loc.slot 0 6,none)]) [],
 Cut.mk 139 4 (some []) (dB.mk false [[10,11,12]] [(Loc.slot 0 10,aC.one CT.str,true)] []) [],
 Cut.mk 140 4 (some []) (dB.mk false [[1,10,11,12]] [((Loc.slot 0 1).cell 4,aC.cons (CT.int IntKind.i64) (aC.cons CT.str (aC.cons (CT.sl k5) (aC.one (CT.int IntKind.i64)))),true),((Loc.slot 0 1).cell 5,aC.cons CT.str (aC.cons (CT.int IntKind.i64) (aC.one (CT.sl ku))),true),((Loc.slot 0 1).cell 6,aC.one CT.str,true),((Loc.slot 0 1).cell 7,aC.cons (CT.int IntKind.i64) (aC.cons (CT.int IntKind.i64) (aC.one (CT.sl ku))),true),(Loc.slot 0 10,aC.cons (CT.int IntKind.i64) (aC.cons (CT.int IntKind.i64) (aC.one (CT.sl ku))),true)] [(Loc.slot 0 1,none)]) [],
 Cut.mk 150 14 (some []) (dB.mk false [[0,6,7]] [((Loc.slot 0 0).cell 0,ku,false)] [(Loc.slot 0 0,none),(Loc.slot 0 6,none)]) [],
 Cut.mk 157 5 (some []) (dB.mk false [[0,4,6,7,8,9,10]] [((Loc.slot 0 0).cell 0,ku,false)] [(Loc.slot 0 0,none),(Loc.slot 0 4,none),(Loc.slot 0 6,none),(Loc.slot 0 7,none),((Loc.slot 0 7).cell 0,none),(Loc.slot 0 8,none),((Loc.slot 0 8).cell 4,none),((Loc.slot 0 8).cell 5,none),((Loc.slot 0 8).cell 6,none),((Loc.slot 0 8).cell 7,none),(Loc.slot 0 9,none)]) [],
 Cut.mk 159 2 (some []) (dB.mk false [[0,1,5]] [(Loc.slot 0 0,aC.cons CT.str (aC.cons (CT.int IntKind.i64) (aC.one (CT.sl ku))),true)] []) [],
 Cut.mk 160 3 (some []) (dB.mk false [[0,3,4]] [] [(Loc.slot 0 3,none)]) [],
 Cut.mk 168 6 (some []) (dB.mk false [[3,4,5,6]] [] [(Loc.slot 0 5,none)]) [],
 Cut.mk 169 4 (some []) (dB.mk false [[0,3,4,5]] [(Loc.slot 0 0,ku,true)] [(Loc.slot 0 3,none),(Loc.slot 0 4,none)]) [],
 Cut.mk 169 10 (some []) (dB.mk false [[3,4,6,7,8]] [] [(Loc.slot 0 3,none),(Loc.slot 0 4,none),(Loc.slot 0 6,none),(Loc.slot 0 7,none)]) [],
 Cut.mk 169 14 (some []) (dB.mk false [[4,6,7,9]] [] [(Loc.slot 0 4,none),(Loc.slot 0 6,none),(Loc.slot 0 7,none)]) [],
 Cut.mk 169 19 (some []) (dB.mk false [[4,6,7,9,10,11,12]] [] [(Loc.slot 0 4,none),(Loc.slot 0 6,none),(Loc.slot 0 7,none),(Loc.slot 0 10,none),(Loc.slot 0 11,none)]) [],
 Cut.mk 169 28 (some []) (dB.mk false [[4,14,15]] [] [(Loc.slot 0 4,none),(Loc.slot 0 14,none)]) [],
 Cut.mk 169 23 (some []) (dB.mk false [[4,6,7,9,11,13]] [] [(Loc.slot 0 4,none),(Loc.slot 0 6,none),(Loc.slot 0 7,none),(Loc.slot 0 11,none)]) [],
 Cut.mk 180 4 (some []) (dB.mk false [[0,2,4,5,6]] [] [(Loc.slot 0 2,none),(Loc.slot 0 4,none),(Loc.slot 0 5,none)]) [],
 Cut.mk 180 8 (some []) (dB.mk false [[0,2,5,7]] [] [(Loc.slot 0 2,none),(Loc.slot 0 5,none)]) [],
 Cut.mk 185 4 (some []) (dB.mk false [[1,3]] [((Loc.slot 0 1).cell 2,k4,true)] [(Loc.slot 0 1,none)]) [],
 Cut.mk 188 8 (some []) (dB.mk false [[0,5,6]] [] [(Loc.slot 0 5,none)]) [],
 Cut.mk 229 1 (some [(188,32)]) (dB.mk false [[0,1,4],[0,5,7]] [] [(Loc.slot 1 5,none)]) [],
 Cut.mk 229 20 (some [(188,32)]) (dB.mk false [[0,4,12],[0,5,7]] [] [(Loc.slot 1 5,none)]) [],
 Cut.mk 195 3 (some []) (dB.mk false [[1,2,3,4]] [((Loc.slot 0 1).cell 4,aC.cons (CT.int IntKind.i64) (aC.cons CT.str (aC.cons (CT.sl k5) (aC.one (CT.int IntKind.i64)))),true),((Loc.slot 0 1).cell 5,aC.cons CT.str (aC.cons (CT.int IntKind.i64) (aC.one (CT.sl ku))),true),((Loc.slot 0 1).cell 6,aC.one CT.str,true),((Loc.slot 0 1).cell 7,aC.cons (CT.int IntKind.i64) (aC.cons (CT.int IntKind.i64) (aC.one (CT.sl ku))),true)] [(Loc.slot 0 1,none),(Loc.slot 0 2,none),(Loc.slot 0 3,none),((Loc.slot 0 3).cell 4,some (aC.cons (CT.int IntKind.i64) (aC.cons CT.str (aC.cons (CT.sl k5) (aC.one (CT.int IntKind.i64)))))),((Loc.slot 0 3).cell 6,none)]) [],
 Cut.mk 195 9 (some []) (dB.mk false [[1,2,3,6]] [((Loc.slot 0 1).cell 4,aC.cons (CT.int IntKind.i64) (aC.cons CT.str (aC.cons (CT.sl k5) (aC.one (CT.int IntKind.i64)))),true),((Loc.slot 0 1).cell 5,aC.cons CT.str (aC.cons (CT.int IntKind.i64) (aC.one (CT.sl ku))),true),((Loc.slot 0 1).cell 6,aC.one CT.str,true),((Loc.slot 0 1).cell 7,aC.cons (CT.int IntKind.i64) (aC.cons (CT.int IntKind.i64) (aC.one (CT.sl ku))),true)] [(Loc.slot 0 1,none),(Loc.slot 0 2,none),(Loc.slot 0 3,none),((Loc.slot 0 3).cell 4,some (aC.cons (CT.int IntKind.i64) (aC.cons CT.str (aC.cons (CT.sl k5) (aC.one (CT.int IntKind.i64)))))),((Loc.slot 0 3).cell 5,some (aC.cons CT.str (aC.cons (CT.int IntKind.i64) (aC.one (CT.sl ku))))),((Loc.slot 0 3).cell 6,none)]) [],
 Cut.mk 195 15 (some []) (dB.mk false [[1,2,3,8]] [((Loc.slot 0 1).cell 4,aC.cons (CT.int IntKind.i64) (aC.cons CT.str (aC.cons (CT.sl k5) (aC.one (CT.int IntKind.i64)))),true),((Loc.slot 0 1).cell 5,aC.cons CT.str (aC.cons (CT.int IntKind.i64) (aC.one (CT.sl ku))),true),((Loc.slot 0 1).cell 6,aC.one CT.str,true),((Loc.slot 0 1).cell 7,aC.cons (CT.int IntKind.i64) (aC.cons (CT.int IntKind.i64) (aC.one (CT.sl ku))),true)] [(Loc.slot 0 1,none),(Loc.slot 0 2,none),(Loc.slot 0 3,none),((Loc.slot 0 3).cell 4,none),((Loc.slot 0 3).cell 5,some (aC.cons CT.str (aC.cons (CT.int IntKind.i64) (aC.one (CT.sl ku))))),((Loc.slot 0 3).cell 6,none),((Loc.slot 0 3).cell 7,some (aC.cons (CT.int IntKind.i64) (aC.cons (CT.int IntKind.i64) (aC.one (CT.sl ku)))))]) [],
 Cut.mk 202 4 (some []) (dB.mk false [[0,1,4,5,6,7]] [((Loc.slot 0 0).cell 0,ku,false)] [(Loc.slot 0 0,none),(Loc.slot 0 4,none),(Loc.slot 0 5,none),((Loc.slot 0 5).cell 2,some k4),(Loc.slot 0 6,none)]) [],
 Cut.mk 208 3 (some []) (dB.mk false [[0,3,4]] [] [(Loc.slot 0 3,none)]) [],
 Cut.mk 209 3 (some []) (dB.mk false [[0,1,5,6]] [] []) [],
 Cut.mk 210 2 (some []) (dB.mk false [[0,3]] [(Loc.slot 0 0,ku,true)] [(Loc.slot 0 3,none)]) [],
 Cut.mk 210 6 (some []) (dB.mk false [[3,4,5]] [] [(Loc.slot 0 3,none)]) [],
 Cut.mk 211 3 (some []) (dB.mk false [[0,3,4]] [(Loc.slot 0 0,ku,true)] [(Loc.slot 0 3,none)]) [],
 Cut.mk 211 7 (some []) (dB.mk false [[3,5]] [] [(Loc.slot 0 3,none)]) [],
 Cut.mk 220 7 (some []) (dB.mk false [[0,2,4,5]] [(Loc.slot 0 0,ku,true)] [(Loc.slot 0 2,none),(Loc.slot 0 4,none),((Loc.slot 0 4).cell 2,some k4)]) [],
 Cut.mk 221 3 (some []) (dB.mk false [[1,2,3,4]] [((Loc.slot 0 1).cell 2,k4,true)] [(Loc.slot 0 1,none),(Loc.slot 0 2,none),(Loc.slot 0 3,none),((Loc.slot 0 3).cell 2,some k4)]) [],
 Cut.mk 222 5 (some []) (dB.mk false [[0,2,4,5]] [(Loc.slot 0 0,ku,true)] [(Loc.slot 0 2,none),(Loc.slot 0 4,none),((Loc.slot 0 4).cell 2,some k4)]) [],
 Cut.mk 222 8 (some []) (dB.mk false [[0,2,4,5,6]] [(Loc.slot 0 0,ku,true)] [(Loc.slot 0 2,none),(Loc.slot 0 4,none),((Loc.slot 0 4).cell 2,some k4)]) [],
 Cut.mk 223 5 (some []) (dB.mk false [[0,4,5,6,7]] [(Loc.slot 0 0,ku,true),(Loc.slot 0 6,ku,false)] [(Loc.slot 0 4,none),(Loc.slot 0 5,none)]) [],
 Cut.mk 224 4 (some []) (dB.mk false [[0,3,4,5]] [(Loc.slot 0 0,ku,true)] []) [],
 Cut.mk 234 8 (some []) (dB.mk false [[2,3,4,6,8]] [((Loc.slot 0 3).cell 0,ku,true)] [(Loc.slot 0 3,none),(Loc.slot 0 4,none),((Loc.slot 0 4).cell 4,none),((Loc.slot 0 4).cell 5,none),((Loc.slot 0 4).cell 6,none),((Loc.slot 0 4).cell 7,none),(Loc.slot 0 6,none)]) [],
 Cut.mk 245 2 (some []) (dB.mk false [[0,3]] [] []) [],
 Cut.mk 250 5 (some []) (dB.mk false [[0,1,2,8,9]] [(Loc.slot 0 0,ku,true)] []) [],
 Cut.mk 251 2 (some []) (dB.mk false [[0,5]] [(Loc.slot 0 0,ku,true)] []) [],
 Cut.mk 254 4 (some []) (dB.mk false [[0,2]] [] []) [],
 Cut.mk 258 3 (some []) (dB.mk false [[3,4,7,8,9]] [(Loc.slot 0 7,ku,true)] []) [],
 Cut.mk 263 2 (some []) (dB.mk false [[0,1,5]] [(Loc.slot 0 0,aC.cons (CT.int IntKind.i64) (aC.cons CT.str (aC.cons (CT.sl k5) (aC.one (CT.int IntKind.i64)))),true)] []) [],
 Cut.mk 265 4 (some []) (dB.mk false [[2,3,4,5,8]] [(Loc.slot 0 3,ku,true),((Loc.slot 0 4).cell 0,ku,true)] [(Loc.slot 0 4,none),(Loc.slot 0 5,none),((Loc.slot 0 5).cell 4,none),((Loc.slot 0 5).cell 5,none),((Loc.slot 0 5).cell 6,none),((Loc.slot 0 5).cell 7,none),(Loc.slot 0 8,none)]) [],
 Cut.mk 277 5 (some []) (dB.mk false [[1,4,6,7]] [(Loc.slot 0 1,k5,true)] [(Loc.slot 0 4,none),(Loc.slot 0 6,none),((Loc.slot 0 6).cell 2,none)]) [],
 Cut.mk 281 3 (some []) (dB.mk false [[1,3,4]] [((Loc.slot 0 1).cell 2,k4,true)] [(Loc.slot 0 1,none),(Loc.slot 0 3,none)]) [],
 Cut.mk 282 3 (some []) (dB.mk false [[1,3,4]] [((Loc.slot 0 1).cell 2,k4,true)] [(Loc.slot 0 1,none),(Loc.slot 0 3,none)]) [],
 Cut.mk 282 5 (some []) (dB.mk false [[1,3,4,5]] [((Loc.slot 0 1).cell 2,k4,true)] [(Loc.slot 0 1,none),(Loc.slot 0 3,none)]) [],
 Cut.mk 283 6 (some []) (dB.mk false [[0,3,4,5]] [(Loc.slot 0 0,ku,true)] [(Loc.slot 0 3,none),(Loc.slot 0 4,none)]) [],
 Cut.mk 283 8 (some []) (dB.mk false [[0,3,4,5,6]] [(Loc.slot 0 0,ku,true)] [(Loc.slot 0 3,none),(Loc.slot 0 4,none)]) [],
 Cut.mk 287 4 (some []) (dB.mk false [[0,3,4,5]] [(Loc.slot 0 0,aC.cons (CT.int IntKind.i64) (aC.one (CT.int IntKind.i64)),true)] [(Loc.slot 0 3,none)]) [],
 Cut.mk 287 9 (some []) (dB.mk false [[0,3,4,5,6]] [(Loc.slot 0 0,aC.cons (CT.int IntKind.i64) (aC.one (CT.int IntKind.i64)),true)] [(Loc.slot 0 3,none)]) [],
 Cut.mk 288 3 (some []) (dB.mk false [[2,3,4,5,6]] [((Loc.slot 0 2).cell 2,k4,true)] [(Loc.slot 0 2,none),(Loc.slot 0 3,none),(Loc.slot 0 4,none),(Loc.slot 0 5,none),((Loc.slot 0 5).cell 2,some k4)]) [],
 Cut.mk 288 6 (some []) (dB.mk false [[2,3,4,5,6,7]] [((Loc.slot 0 2).cell 2,k4,true)] [(Loc.slot 0 2,none),(Loc.slot 0 3,none),(Loc.slot 0 4,none),(Loc.slot 0 5,none),((Loc.slot 0 5).cell 2,some k4)]) [],
 Cut.mk 289 3 (some []) (dB.mk false [[1,2,3,4]] [((Loc.slot 0 1).cell 2,k4,true)] [(Loc.slot 0 1,none),(Loc.slot 0 2,none),(Loc.slot 0 3,none),((Loc.slot 0 3).cell 2,some k4)]) [],
 Cut.mk 289 6 (some []) (dB.mk false [[1,2,3,4,5]] [((Loc.slot 0 1).cell 2,k4,true)] [(Loc.slot 0 1,none),(Loc.slot 0 2,none),(Loc.slot 0 3,none),((Loc.slot 0 3).cell 2,some k4)]) [],
 Cut.mk 290 3 (some []) (dB.mk false [[1,2,3,4]] [((Loc.slot 0 1).cell 2,k4,true)] [(Loc.slot 0 1,none),(Loc.slot 0 2,none),(Loc.slot 0 3,none),((Loc.slot 0 3).cell 2,some k4)]) [],
 Cut.mk 290 6 (some []) (dB.mk false [[1,2,3,4,5]] [((Loc.slot 0 1).cell 2,k4,true)] [(Loc.slot 0 1,none),(Loc.slot 0 2,none),(Loc.slot 0 3,none),((Loc.slot 0 3).cell 2,some k4)]) [],
 Cut.mk 291 3 (some []) (dB.mk false [[2,3,4,5,6]] [((Loc.slot 0 2).cell 2,k4,true)] [(Loc.slot 0 2,none),(Loc.slot 0 3,none),(Loc.slot 0 4,none),(Loc.slot 0 5,none),((Loc.slot 0 5).cell 2,some k4)]) [],
 Cut.mk 291 6 (some []) (dB.mk false [[2,3,4,5,6,7]] [((Loc.slot 0 2).cell 2,k4,true)] [(Loc.slot 0 2,none),(Loc.slot 0 3,none),(Loc.slot 0 4,none),(Loc.slot 0 5,none),((Loc.slot 0 5).cell 2,some k4)]) [],
 Cut.mk 292 3 (some []) (dB.mk false [[2,3,4,5,6]] [((Loc.slot 0 2).cell 2,k4,true)] [(Loc.slot 0 2,none),(Loc.slot 0 3,none),(Loc.slot 0 4,none),(Loc.slot 0 5,none),((Loc.slot 0 5).cell 2,some k4)]) [],
 Cut.mk 293 2 (some []) (dB.mk false [[0,1,5]] [(Loc.slot 0 0,aC.one (CT.sl ku),true),(Loc.slot 0 1,ku,true)] []) [],
 Cut.mk 296 4 (some []) (dB.mk false [[1,2,3,6,7,8,9]] [((Loc.slot 0 3).cell 2,k4,true)] [(Loc.slot 0 3,none),(Loc.slot 0 6,none),(Loc.slot 0 8,none)]) [],
 Cut.mk 296 7 (some []) (dB.mk false [[1,2,3,6,7,8,9,10]] [((Loc.slot 0 3).cell 2,k4,true)] [(Loc.slot 0 3,none),(Loc.slot 0 6,none),(Loc.slot 0 8,none)]) [],
 Cut.mk 334 3 (some [(333,40)]) (dB.mk false [[0,1,2,6,7,15,16],[2]] [(((Loc.slot 0 2).cell 0).cell 0,ku,true)] [((Loc.slot 0 2).cell 0,none),((Loc.slot 0 2).cell 1,none),(Loc.slot 0 6,none),(Loc.slot 0 7,none),(Loc.slot 1 2,none)]) [(Loc.slot 0 2,335)],
 Cut.mk 334 7 (some [(333,40)]) (dB.mk false [[0,1,2,6,7,8,9,15,16,24,25],[2]] [(((Loc.slot 0 2).cell 0).cell 0,ku,true)] [((Loc.slot 0 2).cell 0,none),((Loc.slot 0 2).cell 1,none),(Loc.slot 0 6,none),(Loc.slot 0 7,none),(Loc.slot 1 2,none)]) [(Loc.slot 0 2,335)],
 Cut.mk 334 3 (some [(340,8)]) (dB.mk false [[0,1,2,6,7,15,16],[2]] [(((Loc.slot 0 2).cell 0).cell 2,k4,true)] [((Loc.slot 0 2).cell 0,none),(Loc.slot 0 6,none),(Loc.slot 0 7,none),(Loc.slot 1 2,none)]) [(Loc.slot 0 2,341)],
 Cut.mk 334 7 (some [(340,8)]) (dB.mk false [[0,1,2,6,7,8,9,15,16,24,25],[2]] [(((Loc.slot 0 2).cell 0).cell 2,k4,true)] [((Loc.slot 0 2).cell 0,none),(Loc.slot 0 6,none),(Loc.slot 0 7,none),(Loc.slot 1 2,none)]) [(Loc.slot 0 2,341)],
 Cut.mk 343 8 (some []) (dB.mk false [[4,6,7,8,9]] [(Loc.slot 0 9,ku,true)] [(Loc.slot 0 4,none),(Loc.slot 0 8,none)]) [],
 Cut.mk 343 15 (some []) (dB.mk false [[4,6,7,8,9,11,71,72]] [(Loc.slot 0 9,ku,true)] [(Loc.slot 0 4,none),(Loc.slot 0 8,none),(Loc.slot 0 11,none)]) [],
 Cut.mk 347 3 (some []) (dB.mk false [[0,4,5]] [(Loc.slot 0 0,ku,true),((Loc.slot 0 4).cell 0,ku,true)] [(Loc.slot 0 4,none),(Loc.slot 0 5,none),((Loc.slot 0 5).cell 0,some ku),((Loc.slot 0 5).cell 1,some (aC.cons (CT.int IntKind.i64) (aC.one (CT.int IntKind.i64))))]) [],
 Cut.mk 348 6 (some [(347,9)]) (dB.mk false [[0,5,44,45],[0,4,5]] [((Loc.slot 0 0).cell 0,ku,true),(Loc.slot 1 0,ku,true)] [(Loc.slot 0 0,none),(Loc.slot 1 5,none),((Loc.slot 1 5).cell 0,some ku),((Loc.slot 1 5).cell 1,some (aC.cons (CT.int IntKind.i64) (aC.one (CT.int IntKind.i64))))]) [],
 Cut.mk 349 5 (some []) (dB.mk false [[0,1,5]] [] [(Loc.slot 0 0,none),((Loc.slot 0 0).cell 0,none),((Loc.slot 0 0).cell 1,none)]) [],
 Cut.mk 349 14 (some []) (dB.mk false [[0,5]] [] [(Loc.slot 0 0,none),((Loc.slot 0 0).cell 0,none),((Loc.slot 0 0).cell 1,none)]) [],
 Cut.mk 349 10 (some []) (dB.mk false [[0,5,6,81,82]] [] [(Loc.slot 0 0,none),((Loc.slot 0 0).cell 0,none),((Loc.slot 0 0).cell 1,none),(Loc.slot 0 6,none)]) []]
abbrev ni:ByteArray:=ByteArray.mk #[0,1,2,2,3,3,3,3,4,4,4,4,4,4,4,4,5,5,5,5,5,5,5,5,5,5,5,5,5,5,5,5,6,6,6,6,6,6,6,6,6,6,6,6,6,6,6,6,6,6,6,6,6,6,6,6,6,6,6,6,6,6,6,6,7,7,7,7,7,7,7,7,7,7,7,7,7,7,7,7,7,7,7,7,7,7,7,7,7,7,7,7,7,7,7,7,7,7,7,7,7,7,7,7,7,7,7,7,7,7,7,7,7,7,7,7,7,7,7,7,7,7,7,7,7,7,7,7,8,8,8,8,8,8,8,8,8,8,8,8,8,8,8,8,8,8,8,8,8,8,8,8,8,8,8,8,8,8,8,8,8,8,8,8,8,8,8,8,8,8,8,8,8,8,8,8,8,8,8,8,8,8,8,8,8,8,8,8,8,8,8,8,8,8,8,8,8,8,8,8,8,8,8,8,8,8,8,8,8,8,8,8,8,8,8,8,8,8,8,8,8,8,8,8,8,8,8,8,8,8,8,8,8,8,8,8,8,8,8,8,8,8,8,8,8,8,8,8,8,8,8,8,8,8,8,8]
abbrev je:ByteArray:=ByteArray.mk #[48,48,48,49,48,50,48,51,48,52,48,53,48,54,48,55,48,56,48,57,49,48,49,49,49,50,49,51,49,52,49,53,49,54,49,55,49,56,49,57,50,48,50,49,50,50,50,51,50,52,50,53,50,54,50,55,50,56,50,57,51,48,51,49,51,50,51,51,51,52,51,53,51,54,51,55,51,56,51,57,52,48,52,49,52,50,52,51,52,52,52,53,52,54,52,55,52,56,52,57,53,48,53,49,53,50,53,51,53,52,53,53,53,54,53,55,53,56,53,57,54,48,54,49,54,50,54,51,54,52,54,53,54,54,54,55,54,56,54,57,55,48,55,49,55,50,55,51,55,52,55,53,55,54,55,55,55,56,55,57,56,48,56,49,56,50,56,51,56,52,56,53,56,54,56,55,56,56,56,57,57,48,57,49,57,50,57,51,57,52,57,53,57,54,57,55,57,56,57,57]
noncomputable def C:kC:=⟨tys,fns,sigs,cuts,nV,subs,Qq,Zi⟩
noncomputable def pr:ah:=fun _ _ _=>none
abbrev dd:ah:=D C pr
abbrev LL(s:dX):St->Option s.B:=L C pr s
theorem eL{s:dX}{q:St}{r:s.B}(h:from_ C dd s (LL s) q=some r):LL s q=some r:=ahB h
theorem dL{f:FuncId}{s:dX}{a:s.A}{r:s.B}(hp:pr f s a=none)(h:body C dd f s (LL s) a=some r):dd f s a=some r:=aay hp h
end
end T
end
