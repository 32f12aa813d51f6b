/- The configuration: types, functions, cuts, orders. -/
import Derived.Test.YtmceeioelenigaaGreatProg
import Derived.KernelRfl
import Derived.Test.YtmceeioelenigaaGreatEh
section
namespace Go.E
def wi (x : Int) : Int := IntKind.i64.wrap x
def wb (x : Int) : Int := IntKind.u8.wrap x
def ln {α : Type} (l : List α) : Int := (l.length : Int)
def gt {α : Type} (l : List α) (i : Int) (z : α) : α := l.getD i.toNat z
end Go.E
namespace T
abbrev I4 := Int × Int × Int × Int
abbrev I5 := Int × I4
abbrev Rs := Int × Int × List I4
abbrev zp : I4 := (0, 0, 0, 0)
abbrev zo : I5 := (0, 0, 0, 0, 0)
open Go.E
abbrev k4 : cZ := .cons (.int .i64) (.cons (.int .i64) (.cons (.int .i64) (.one (.int .i64))))
abbrev k5 : cZ := .cons (.int .i64) k4
abbrev ku : cZ := .one (.int .u8)
def m1 (o : List I5) (i c : Int) : List I5 := o.set i.toNat (c,(gt o i zo).snd)
def m2 (o : List I5) (i c : Int) : List I5 := o.set i.toNat ((gt o i zo).fst,c,(gt o i zo).snd.snd)
def m3 (o : List I5) (i c : Int) : List I5 := o.set i.toNat ((gt o i zo).fst,(gt o i zo).snd.fst,c,(gt o i zo).snd.snd.snd)
def m4 (o : List I5) (i c : Int) : List I5 := o.set i.toNat ((gt o i zo).fst,(gt o i zo).snd.fst,(gt o i zo).snd.snd.fst,c,(gt o i zo).snd.snd.snd.snd)
def m5 (o : List I5) (i c : Int) : List I5 := o.set i.toNat ((gt o i zo).fst,(gt o i zo).snd.fst,(gt o i zo).snd.snd.fst,(gt o i zo).snd.snd.snd.fst,c)
abbrev kr : cZ := .cons (.int .i64) (.cons (.int .i64) (.one (.sl k4)))
abbrev kt : cZ := .one .bool
abbrev pb : PT := ⟨.one .bool, []⟩
abbrev zO : PT := ⟨.agg kr, [.ro]⟩
abbrev Jr : PT := ⟨.agg kr, [.mv]⟩
abbrev oZ : PT := ⟨.one (.int .i64), []⟩
abbrev xG : PT := ⟨.one (.sl ku), [.ro]⟩
abbrev pu1 : PT := ⟨.one (.sl ku), [.mv]⟩
abbrev iv (x : Int) : AV := .int .i64 x
abbrev uv (x : Int) : AV := .int .u8 x
end T
end
section
namespace T
noncomputable section
open Go Go.E Go.Proofs
noncomputable def tys : List (Nat × TI) := [
 (1,{ size := 1,bytes := 8,kd := 3,zero := [.aQ] }),
 (2,{ size := 1,bytes := 8,kd := 11,zero := [.int .i64 0],row := some (.one (.int .i64)) }),
 (3,{ size := 1,bytes := 8,kd := 11,zero := [.int .i64 0],row := some (.one (.int .i64)) }),
 (4,{ size := 1,bytes := 1,kd := 10,zero := [.bool false],row := some kt }),
 (5,{ size := 1,bytes := 1,kd := 11,zero := [.int .u8 0],row := some ku }),
 (6,{ size := 1,bytes := 1,kd := 11,zero := [.int .u8 0],row := some ku }),
 (7,{ size := 4,bytes := 24,kd := 6,agg := true,fields := [(0,2),(1,3),(2,4),(3,6)],cmp := [.int .i64,.int .i64,.bool,.int .u8],zero := [.int .i64 0,.int .i64 0,.bool false,.int .u8 0],row := some (.cons (.int .i64) (.cons (.int .i64) (.cons (.bool) ku))) }),
 (8,{ size := 4,bytes := 24,kd := 6,agg := true,fields := [(0,2),(1,3),(2,4),(3,6)],cmp := [.int .i64,.int .i64,.bool,.int .u8],zero := [.int .i64 0,.int .i64 0,.bool false,.int .u8 0],row := some (.cons (.int .i64) (.cons (.int .i64) (.cons (.bool) ku))) }),
 (9,{ size := 1,bytes := 16,kd := 9,zero := [.str ⟨#[]⟩],row := some (.one (.str)) }),
 (10,{ size := 1,bytes := 16,kd := 9,zero := [.str ⟨#[]⟩],row := some (.one (.str)) }),
 (11,{ size := 1,bytes := 16,kd := 9,zero := [.str ⟨#[]⟩],row := some (.one (.str)) }),
 (12,{ size := 1,bytes := 8,kd := 11,zero := [.int .u64 0],row := some (.one (.int .u64)) }),
 (15,{ size := 1,bytes := 8,kd := 1,elem := 125,zero := [.fH] }),
 (16,{ size := 1,bytes := 8,kd := 1,elem := 128,zero := [.fH] }),
 (17,{ size := 1,bytes := 8,kd := 1,elem := 138,zero := [.fH] }),
 (18,{ size := 1,bytes := 8,kd := 6,agg := true,fields := [(0,17)],zero := [.fH] }),
 (19,{ size := 1,bytes := 8,kd := 6,agg := true,fields := [(0,17)],zero := [.fH] }),
 (20,{ size := 1,bytes := 16,kd := 2,zero := [.o7] }),
 (21,{ size := 1,bytes := 4,kd := 11,zero := [.int .i32 0],row := some (.one (.int .i32)) }),
 (22,{ size := 1,bytes := 24,kd := 4,elem := 5,zero := [.aO],row := some (.one (.sl ku)) }),
 (23,{ size := 1,bytes := 24,kd := 4,elem := 53,zero := [.aO],row := some (.one (.sl k5)) }),
 (24,{ size := 1,bytes := 8,kd := 3,zero := [.aQ] }),
 (26,{ size := 1,bytes := 8,kd := 3,zero := [.aQ] }),
 (27,{ size := 1,bytes := 8,kd := 3,zero := [.aQ] }),
 (28,{ size := 1,bytes := 24,kd := 4,elem := 40,zero := [.aO],row := some (.one (.sl k5)) }),
 (29,{ size := 1,bytes := 8,kd := 3,zero := [.aQ] }),
 (30,{ size := 1,bytes := 8,kd := 3,zero := [.aQ] }),
 (31,{ size := 1,bytes := 8,kd := 3,zero := [.aQ] }),
 (32,{ size := 1,bytes := 8,kd := 3,zero := [.aQ] }),
 (33,{ size := 1,bytes := 8,kd := 3,zero := [.aQ] }),
 (34,{ size := 1,bytes := 8,kd := 3,zero := [.aQ] }),
 (36,{ size := 1,bytes := 8,kd := 3,zero := [.aQ] }),
 (37,{ size := 1,bytes := 8,kd := 3,zero := [.aQ] }),
 (38,{ size := 1,bytes := 8,kd := 3,zero := [.aQ] }),
 (39,{ size := 5,bytes := 40,kd := 6,agg := true,fields := [(0,3),(1,3),(2,3),(3,3),(4,3)],cmp := [.int .i64,.int .i64,.int .i64,.int .i64,.int .i64],zero := [.int .i64 0,.int .i64 0,.int .i64 0,.int .i64 0,.int .i64 0],row := some k5 }),
 (40,{ size := 5,bytes := 40,kd := 6,agg := true,fields := [(0,3),(1,3),(2,3),(3,3),(4,3)],cmp := [.int .i64,.int .i64,.int .i64,.int .i64,.int .i64],zero := [.int .i64 0,.int .i64 0,.int .i64 0,.int .i64 0,.int .i64 0],row := some k5 }),
 (41,{ size := 1,bytes := 24,kd := 4,elem := 61,zero := [.aO],row := some (.one (.sl k4)) }),
 (42,{ size := 3,bytes := 40,kd := 6,agg := true,fields := [(0,3),(1,3),(2,41)],zero := [.int .i64 0,.int .i64 0,.aO],row := some kr }),
 (43,{ size := 3,bytes := 40,kd := 6,agg := true,fields := [(0,3),(1,3),(2,41)],zero := [.int .i64 0,.int .i64 0,.aO],row := some kr }),
 (45,{ size := 1,bytes := 8,kd := 3,zero := [.aQ] }),
 (46,{ size := 1,bytes := 8,kd := 3,zero := [.aQ] }),
 (47,{ size := 1,bytes := 8,kd := 3,zero := [.aQ] }),
 (49,{ size := 1,bytes := 8,kd := 3,zero := [.aQ] }),
 (50,{ size := 1,bytes := 8,kd := 3,zero := [.aQ] }),
 (51,{ size := 1,bytes := 8,kd := 3,zero := [.aQ] }),
 (52,{ size := 1,bytes := 8,kd := 3,zero := [.aQ] }),
 (53,{ size := 5,bytes := 40,kd := 6,agg := true,fields := [(0,3),(1,3),(2,3),(3,3),(4,3)],cmp := [.int .i64,.int .i64,.int .i64,.int .i64,.int .i64],zero := [.int .i64 0,.int .i64 0,.int .i64 0,.int .i64 0,.int .i64 0],row := some k5 }),
 (54,{ size := 1,bytes := 8,kd := 3,zero := [.aQ] }),
 (55,{ size := 1,bytes := 8,kd := 1,elem := 83,zero := [.fH] }),
 (56,{ size := 1,bytes := 8,kd := 3,zero := [.aQ] }),
 (57,{ size := 1,bytes := 8,kd := 3,zero := [.aQ] }),
 (58,{ size := 1,bytes := 8,kd := 3,zero := [.aQ] }),
 (59,{ size := 1,bytes := 8,kd := 3,zero := [.aQ] }),
 (60,{ size := 4,bytes := 32,kd := 6,agg := true,fields := [(0,3),(1,3),(2,3),(3,3)],cmp := [.int .i64,.int .i64,.int .i64,.int .i64],zero := [.int .i64 0,.int .i64 0,.int .i64 0,.int .i64 0],row := some k4 }),
 (61,{ size := 4,bytes := 32,kd := 6,agg := true,fields := [(0,3),(1,3),(2,3),(3,3)],cmp := [.int .i64,.int .i64,.int .i64,.int .i64],zero := [.int .i64 0,.int .i64 0,.int .i64 0,.int .i64 0],row := some k4 }),
 (62,{ size := 1,bytes := 8,kd := 3,zero := [.aQ] }),
 (63,{ size := 1,bytes := 16,kd := 2,zero := [.o7] }),
 (64,{ size := 1,bytes := 16,kd := 2,zero := [.o7] }),
 (65,{ size := 1,bytes := 8,kd := 3,zero := [.aQ] }),
 (67,{ size := 1,bytes := 8,kd := 3,zero := [.aQ] }),
 (68,{ size := 1,bytes := 8,kd := 3,zero := [.aQ] }),
 (69,{ size := 1,bytes := 8,kd := 3,zero := [.aQ] }),
 (70,{ size := 4,bytes := 4,kd := 5,agg := true,elem := 5,len := 4,cmp := [.int .u8,.int .u8,.int .u8,.int .u8],zero := [.int .u8 0,.int .u8 0,.int .u8 0,.int .u8 0] }),
 (71,{ size := 1,bytes := 8,kd := 3,zero := [.aQ] }),
 (72,{ size := 1,bytes := 8,kd := 3,zero := [.aQ] }),
 (73,{ size := 1,bytes := 8,kd := 3,zero := [.aQ] }),
 (74,{ size := 1,bytes := 8,kd := 3,zero := [.aQ] }),
 (75,{ size := 1,bytes := 8,kd := 3,zero := [.aQ] }),
 (76,{ size := 1,bytes := 8,kd := 3,zero := [.aQ] }),
 (77,{ size := 1,bytes := 8,kd := 3,zero := [.aQ] }),
 (78,{ size := 1,bytes := 8,kd := 3,zero := [.aQ] }),
 (79,{ size := 1,bytes := 8,kd := 3,zero := [.aQ] }),
 (80,{ size := 1,bytes := 8,kd := 3,zero := [.aQ] }),
 (81,{ size := 1,bytes := 8,kd := 3,zero := [.aQ] }),
 (82,{ size := 2,bytes := 32,kd := 6,agg := true,fields := [(0,22),(1,3)],zero := [.aO,.int .i64 0],row := some (.cons (.sl ku) (.one (.int .i64))) }),
 (83,{ size := 2,bytes := 32,kd := 6,agg := true,fields := [(0,22),(1,3)],zero := [.aO,.int .i64 0],row := some (.cons (.sl ku) (.one (.int .i64))) }),
 (84,{ size := 1,bytes := 8,kd := 3,zero := [.aQ] }),
 (85,{ size := 1,bytes := 8,kd := 3,zero := [.aQ] }),
 (86,{ size := 1,bytes := 8,kd := 3,zero := [.aQ] }),
 (87,{ size := 1,bytes := 8,kd := 3,zero := [.aQ] }),
 (88,{ size := 1,bytes := 8,kd := 3,zero := [.aQ] }),
 (89,{ size := 1,bytes := 8,kd := 3,zero := [.aQ] }),
 (90,{ size := 0,bytes := 0,kd := 6,agg := true,zero := [] }),
 (91,{ size := 0,bytes := 0,kd := 6,agg := true,zero := [] }),
 (92,{ size := 0,bytes := 0,kd := 6,agg := true,zero := [] }),
 (93,{ size := 0,bytes := 0,kd := 6,agg := true,zero := [] }),
 (94,{ size := 0,bytes := 0,kd := 6,agg := true,zero := [] }),
 (95,{ size := 1,bytes := 8,kd := 7,elem := 5,len := 64,zero := [.raw (.map none)] }),
 (96,{ size := 1,bytes := 8,kd := 3,zero := [.aQ] }),
 (97,{ size := 1,bytes := 8,kd := 11,zero := [.int .u64 0],row := some (.one (.int .u64)) }),
 (98,{ size := 1,bytes := 24,kd := 4,elem := 61,zero := [.aO],row := some (.one (.sl k4)) }),
 (99,{ size := 1,bytes := 8,kd := 3,zero := [.aQ] }),
 (100,{ size := 1,bytes := 8,kd := 3,zero := [.aQ] }),
 (101,{ size := 1,bytes := 8,kd := 3,zero := [.aQ] }),
 (102,{ size := 1,bytes := 8,kd := 3,zero := [.aQ] }),
 (103,{ size := 1,bytes := 8,kd := 3,zero := [.aQ] }),
 (104,{ size := 1,bytes := 8,kd := 3,zero := [.aQ] }),
 (105,{ size := 1,bytes := 8,kd := 3,zero := [.aQ] }),
 (106,{ size := 1,bytes := 8,kd := 3,zero := [.aQ] }),
 (107,{ size := 1,bytes := 24,kd := 4,elem := 3,zero := [.aO],row := some (.one (.sl (.one (.int .i64)))) }),
 (108,{ size := 1,bytes := 8,kd := 3,zero := [.aQ] }),
 (110,{ size := 1,bytes := 8,kd := 3,zero := [.aQ] }),
 (111,{ size := 1,bytes := 24,kd := 4,elem := 22,zero := [.aO],row := some (.one (.sl (.one (.sl ku)))) }),
 (113,{ size := 1,bytes := 8,kd := 3,zero := [.aQ] }),
 (114,{ size := 1,bytes := 8,kd := 3,zero := [.aQ] }),
 (115,{ size := 1,bytes := 8,kd := 3,zero := [.aQ] }),
 (116,{ size := 1,bytes := 8,kd := 3,zero := [.aQ] }),
 (117,{ size := 1,bytes := 24,kd := 4,elem := 120,zero := [.aO],row := some (.one (.sl (.cons (.int .i64) (.one (.int .i64))))) }),
 (118,{ size := 1,bytes := 8,kd := 3,zero := [.aQ] }),
 (119,{ size := 2,bytes := 16,kd := 6,agg := true,fields := [(0,3),(1,3)],cmp := [.int .i64,.int .i64],zero := [.int .i64 0,.int .i64 0],row := some (.cons (.int .i64) (.one (.int .i64))) }),
 (120,{ size := 2,bytes := 16,kd := 6,agg := true,fields := [(0,3),(1,3)],cmp := [.int .i64,.int .i64],zero := [.int .i64 0,.int .i64 0],row := some (.cons (.int .i64) (.one (.int .i64))) }),
 (121,{ size := 1,bytes := 8,kd := 3,zero := [.aQ] }),
 (122,{ size := 1,bytes := 8,kd := 3,zero := [.aQ] }),
 (123,{ size := 1,bytes := 8,kd := 3,zero := [.aQ] }),
 (124,{ size := 4,bytes := 40,kd := 6,agg := true,fields := [(0,17),(1,17),(2,17),(3,9)],zero := [.fH,.fH,.fH,.str ⟨#[]⟩] }),
 (125,{ size := 4,bytes := 40,kd := 6,agg := true,fields := [(0,17),(1,17),(2,17),(3,9)],zero := [.fH,.fH,.fH,.str ⟨#[]⟩] }),
 (126,{ size := 0,bytes := 0,kd := 5,agg := true,elem := 16,len := 0,zero := [] }),
 (127,{ size := 0,bytes := 0,kd := 6,agg := true,fields := [(0,126)],zero := [] }),
 (128,{ size := 0,bytes := 0,kd := 6,agg := true,fields := [(0,126)],zero := [] }),
 (129,{ size := 1,bytes := 8,kd := 3,zero := [.aQ] }),
 (130,{ size := 1,bytes := 4,kd := 11,zero := [.int .u32 0],row := some (.one (.int .u32)) }),
 (131,{ size := 1,bytes := 1,kd := 11,zero := [.int .u8 0],row := some ku }),
 (132,{ size := 1,bytes := 1,kd := 11,zero := [.int .u8 0],row := some ku }),
 (133,{ size := 1,bytes := 8,kd := 3,zero := [.aQ] }),
 (134,{ size := 1,bytes := 8,kd := 1,elem := 5,zero := [.fH] }),
 (135,{ size := 1,bytes := 4,kd := 11,zero := [.int .i32 0],row := some (.one (.int .i32)) }),
 (136,{ size := 1,bytes := 4,kd := 11,zero := [.int .i32 0],row := some (.one (.int .i32)) }),
 (137,{ size := 11,bytes := 48,kd := 6,agg := true,fields := [(0,12),(1,12),(2,130),(3,131),(4,5),(5,5),(6,132),(7,133),(8,134),(9,135),(10,136)],zero := [.int .u64 0,.int .u64 0,.int .u32 0,.int .u8 0,.int .u8 0,.int .u8 0,.int .u8 0,.aQ,.fH,.int .i32 0,.int .i32 0] }),
 (138,{ size := 11,bytes := 48,kd := 6,agg := true,fields := [(0,12),(1,12),(2,130),(3,131),(4,5),(5,5),(6,132),(7,133),(8,134),(9,135),(10,136)],zero := [.int .u64 0,.int .u64 0,.int .u32 0,.int .u8 0,.int .u8 0,.int .u8 0,.int .u8 0,.aQ,.fH,.int .i32 0,.int .i32 0] }),
 (139,{ size := 1,bytes := 8,kd := 3,zero := [.aQ] }),
 (140,{ size := 1,bytes := 8,kd := 3,zero := [.aQ] }),
 (141,{ size := 3,bytes := 40,kd := 6,agg := true,fields := [(0,22),(1,3),(2,4)],zero := [.aO,.int .i64 0,.bool false],row := some (.cons (.sl ku) (.cons (.int .i64) kt)) }),
 (142,{ size := 3,bytes := 40,kd := 6,agg := true,fields := [(0,22),(1,3),(2,4)],zero := [.aO,.int .i64 0,.bool false],row := some (.cons (.sl ku) (.cons (.int .i64) kt)) }),
 (143,{ size := 1,bytes := 24,kd := 4,elem := 145,zero := [.aO],row := some (.one (.sl (.cons (.int .i64) (.one (.int .i64))))) }),
 (144,{ size := 2,bytes := 16,kd := 6,agg := true,fields := [(0,3),(1,3)],cmp := [.int .i64,.int .i64],zero := [.int .i64 0,.int .i64 0],row := some (.cons (.int .i64) (.one (.int .i64))) }),
 (145,{ size := 2,bytes := 16,kd := 6,agg := true,fields := [(0,3),(1,3)],cmp := [.int .i64,.int .i64],zero := [.int .i64 0,.int .i64 0],row := some (.cons (.int .i64) (.one (.int .i64))) }),
 (146,{ size := 4,bytes := 64,kd := 6,agg := true,fields := [(0,22),(1,143),(2,145)],zero := [.aO,.aO,.int .i64 0,.int .i64 0],row := some (.cons (.sl ku) (.cons (.sl (.cons (.int .i64) (.one (.int .i64)))) (.cons (.int .i64) (.one (.int .i64))))) }),
 (147,{ size := 4,bytes := 64,kd := 6,agg := true,fields := [(0,22),(1,143),(2,145)],zero := [.aO,.aO,.int .i64 0,.int .i64 0],row := some (.cons (.sl ku) (.cons (.sl (.cons (.int .i64) (.one (.int .i64)))) (.cons (.int .i64) (.one (.int .i64))))) }),
 (148,{ size := 1,bytes := 8,kd := 1,elem := 154,zero := [.fH] }),
 (149,{ size := 1,bytes := 8,kd := 3,zero := [.aQ] }),
 (151,{ size := 1,bytes := 8,kd := 3,zero := [.aQ] }),
 (152,{ size := 1,bytes := 8,kd := 7,elem := 5,len := 148,zero := [.raw (.map none)] }),
 (153,{ size := 2,bytes := 16,kd := 6,agg := true,fields := [(0,3),(1,152)],zero := [.int .i64 0,.raw (.map none)] }),
 (154,{ size := 2,bytes := 16,kd := 6,agg := true,fields := [(0,3),(1,152)],zero := [.int .i64 0,.raw (.map none)] }),
 (155,{ size := 1,bytes := 8,kd := 3,zero := [.aQ] }),
 (156,{ size := 1,bytes := 8,kd := 1,elem := 142,zero := [.fH] }),
 (157,{ size := 1,bytes := 8,kd := 1,elem := 147,zero := [.fH] }),
 (158,{ size := 3,bytes := 40,kd := 6,agg := true,fields := [(0,22),(1,3),(2,4)],zero := [.aO,.int .i64 0,.bool false],row := some (.cons (.sl ku) (.cons (.int .i64) kt)) }),
 (159,{ size := 3,bytes := 40,kd := 6,agg := true,fields := [(0,22),(1,3),(2,4)],zero := [.aO,.int .i64 0,.bool false],row := some (.cons (.sl ku) (.cons (.int .i64) kt)) }),
 (160,{ size := 1,bytes := 8,kd := 3,zero := [.aQ] }),
 (161,{ size := 1,bytes := 8,kd := 3,zero := [.aQ] }),
 (162,{ size := 1,bytes := 8,kd := 1,elem := 159,zero := [.fH] }),
 (163,{ size := 1,bytes := 8,zero := [.fH] })]
noncomputable def fns : List (Nat × Func) := [(2,Tryz.f2),(3,Tryz.f3),(4,Tryz.f4),(5,Tryz.f5),(6,Tryz.f6),(7,Tryz.f7),(8,Tryz.f8),(9,Tryz.f9),(10,Tryz.f10),(11,Tryz.f11),(12,Tryz.f12),(13,Tryz.f13),(14,Tryz.f14),(15,Tryz.f15),(16,Tryz.f16),(17,Tryz.f17),(18,Tryz.f18),(19,Tryz.f19),(20,Tryz.f20),(21,Tryz.f21),(22,Tryz.f22),(23,Tryz.f23),(24,Tryz.f24),(25,Tryz.f25),(26,Tryz.f26),(27,Tryz.f27),(28,Tryz.f28),(29,Tryz.f29),(30,Tryz.f30),(31,Tryz.f31),(32,Tryz.f32),(33,Tryz.f33),(34,Tryz.f34),(35,Tryz.f35),(36,Tryz.f36),(37,Tryz.f37),(38,Tryz.f38),(39,Tryz.f39),(40,Tryz.f40),(41,Tryz.f41),(42,Tryz.f42),(43,Tryz.f43),(44,Tryz.f44),(45,Tryz.f45),(46,Tryz.f46),(47,Tryz.f47),(48,Tryz.f48),(49,Tryz.f49),(50,Tryz.f50),(51,Tryz.f51),(52,Tryz.f52),(53,Tryz.f53),(54,Tryz.f54),(55,Tryz.f55),(56,Tryz.f56),(57,Tryz.f57),(58,Tryz.f58),(59,Tryz.f59),(60,Tryz.f60),(61,Tryz.f61),(62,Tryz.f62),(63,Tryz.f63),(64,Tryz.f64),(65,Tryz.f65),(66,Tryz.f66),(67,Tryz.f67),(68,Tryz.f68),(69,Tryz.f69),(70,Tryz.f70),(71,Tryz.f71),(72,Tryz.f72),(73,Tryz.f73),(74,Tryz.f74),(75,Tryz.f75),(76,Tryz.f76),(77,Tryz.f77),(78,Tryz.f78),(79,Tryz.f79),(80,Tryz.f80),(81,Tryz.f81),(82,Tryz.f82),(83,Tryz.f83),(84,Tryz.f84),(85,Tryz.f85),(86,Tryz.f86),(87,Tryz.f87),(88,Tryz.f88),(89,Tryz.f89),(90,Tryz.f90),(91,Tryz.f91),(92,Tryz.f92),(93,Tryz.f93),(94,Tryz.f94),(95,Tryz.f95),(96,Tryz.f96),(97,Tryz.f97),(98,Tryz.f98),(99,Tryz.f99),(100,Tryz.f100),(101,Tryz.f101),(102,Tryz.f102),(103,Tryz.f103),(104,Tryz.f104),(105,Tryz.f105),(106,Tryz.f106),(107,Tryz.f107),(108,Tryz.f108),(109,Tryz.f109),(110,Tryz.f110),(111,Tryz.f111),(112,Tryz.f112),(113,Tryz.f113),(114,Tryz.f114),(115,Tryz.f115),(131,Tryz.f131),(132,Tryz.f132),(133,Tryz.f133),(134,Tryz.f134),(135,Tryz.f135),(136,Tryz.f136),(137,Tryz.f137),(138,Tryz.f138),(139,Tryz.f139),(140,Tryz.f140),(141,Tryz.f141),(142,Tryz.f142),(143,Tryz.f143),(144,Tryz.f144),(145,Tryz.f145),(146,Tryz.f146),(147,Tryz.f147),(148,Tryz.f148),(149,Tryz.f149),(150,Tryz.f150),(151,Tryz.f151),(152,Tryz.f152),(153,Tryz.f153),(154,Tryz.f154),(155,Tryz.f155),(156,Tryz.f156),(157,Tryz.f157)]
abbrev s3 : fM := ⟨[xG,⟨.one (.sl k5),[.ro]⟩],[pb],false⟩
abbrev s4 : fM := ⟨[⟨.one (.sl ku),[.leak]⟩],[pb],false⟩
abbrev s5 : fM := ⟨[⟨.one (.sl ku),[.leak]⟩],[pb],false⟩
abbrev s6 : fM := ⟨[⟨.one (.sl ku),[.leak]⟩],[pb],false⟩
abbrev s7 : fM := ⟨[⟨.one (.sl k5),[.ro]⟩,oZ],[oZ],false⟩
abbrev s8 : fM := ⟨[xG,⟨.one (.sl k5),[.ro]⟩],[pu1,oZ],false⟩
abbrev s9 : fM := ⟨[xG],[pu1],false⟩
abbrev s10 : fM := ⟨[⟨.one (.sl k5),[.ro]⟩],[⟨.one (.sl k5),[.mv]⟩],false⟩
abbrev s11 : fM := ⟨[xG,⟨.one (.sl k5),[.ro]⟩],[pu1,oZ],false⟩
abbrev s12 : fM := ⟨[xG,xG],[pb],false⟩
abbrev s13 : fM := ⟨[⟨.one (.sl k5),[.ro]⟩,⟨.one (.sl k5),[.ro]⟩],[pb],false⟩
abbrev s16 : fM := ⟨[xG,oZ],[oZ],false⟩
abbrev s17 : fM := ⟨[⟨.one (.sl ku),[.leak]⟩],[pu1,⟨.one (.sl k5),[.mv]⟩],false⟩
abbrev s18 : fM := ⟨[],[pb],false⟩
abbrev s19 : fM := ⟨[⟨.agg k5,[]⟩],[pb],false⟩
abbrev s20 : fM := ⟨[xG],[Jr,oZ],false⟩
abbrev s21 : fM := ⟨[xG,xG],[pb],false⟩
abbrev s22 : fM := ⟨[⟨.one (.int .u8),[]⟩,xG,zO],[pu1],false⟩
abbrev s23 : fM := ⟨[zO,⟨.one (.sl k5),[.ro]⟩],[Jr,pb],false⟩
abbrev s24 : fM := ⟨[zO],[pu1],false⟩
abbrev s25 : fM := ⟨[⟨.one (.sl k5),[.ro]⟩],[pb],false⟩
abbrev s26 : fM := ⟨[xG],[Jr,oZ],false⟩
abbrev s27 : fM := ⟨[zO,⟨.one (.sl k5),[.ro]⟩],[Jr,pb],false⟩
abbrev s28 : fM := ⟨[zO],[pu1],false⟩
abbrev s29 : fM := ⟨[⟨.agg k5,[]⟩],[⟨.agg k5,[]⟩],false⟩
abbrev s30 : fM := ⟨[⟨.one (.sl k5),[.ro]⟩],[pb],false⟩
abbrev s31 : fM := ⟨[⟨.agg k5,[]⟩,⟨.agg k5,[]⟩],[pb],false⟩
abbrev s33 : fM := ⟨[⟨.st (.cons (.sl ku) (.one (.int .i64))),[.leak]⟩,oZ],[pu1,⟨.st (.cons (.sl ku) (.one (.int .i64))),[.ro]⟩],false⟩
abbrev s34 : fM := ⟨[⟨.st (.cons (.sl ku) (.one (.int .i64))),[.leak]⟩,oZ],[⟨.one (.sl k5),[.mv]⟩,⟨.st (.cons (.sl ku) (.one (.int .i64))),[.ro]⟩],false⟩
abbrev s35 : fM := ⟨[⟨.agg k4,[]⟩],[pb],false⟩
abbrev s36 : fM := ⟨[oZ,oZ,oZ],[pb],false⟩
abbrev s39 : fM := ⟨[zO],[pb],false⟩
abbrev s40 : fM := ⟨[xG],[⟨.agg (.cons (.int .u8) (.cons (.int .u8) (.cons (.int .u8) ku))),[]⟩],false⟩
abbrev s43 : fM := ⟨[zO,oZ,oZ],[⟨.agg k4,[]⟩],false⟩
abbrev s45 : fM := ⟨[⟨.one (.int .u8),[]⟩],[pb],false⟩
abbrev s46 : fM := ⟨[⟨.one (.int .u8),[]⟩,xG],[Jr,pb],false⟩
abbrev s47 : fM := ⟨[xG],[pu1],false⟩
abbrev s48 : fM := ⟨[zO],[pb],false⟩
abbrev s49 : fM := ⟨[zO],[Jr],false⟩
abbrev s50 : fM := ⟨[zO,⟨.agg k5,[]⟩],[Jr,pb],false⟩
abbrev s51 : fM := ⟨[⟨.one (.int .u8),[]⟩,xG,zO],[pu1],false⟩
abbrev s52 : fM := ⟨[⟨.agg k5,[]⟩],[pb],false⟩
abbrev s53 : fM := ⟨[⟨.one (.int .u8),[]⟩,xG,zO],[pu1],false⟩
abbrev s54 : fM := ⟨[⟨.st (.cons (.sl ku) (.one (.int .i64))),[.leak]⟩],[⟨.one (.int .u8),[]⟩,⟨.st (.cons (.sl ku) (.one (.int .i64))),[.ro]⟩],false⟩
abbrev s55 : fM := ⟨[⟨.st (.cons (.sl ku) (.one (.int .i64))),[.leak]⟩,oZ],[pu1,⟨.st (.cons (.sl ku) (.one (.int .i64))),[.ro]⟩],false⟩
abbrev s56 : fM := ⟨[⟨.st (.cons (.sl ku) (.one (.int .i64))),[.leak]⟩,oZ],[⟨.agg kr,[.leak]⟩,⟨.st (.cons (.sl ku) (.one (.int .i64))),[.ro]⟩],false⟩
abbrev s57 : fM := ⟨[⟨.st (.cons (.sl ku) (.one (.int .i64))),[.leak]⟩,oZ],[pb,⟨.st (.cons (.sl ku) (.one (.int .i64))),[.ro]⟩],false⟩
abbrev s58 : fM := ⟨[⟨.st (.cons (.sl ku) (.one (.int .i64))),[.leak]⟩,oZ],[oZ,⟨.st (.cons (.sl ku) (.one (.int .i64))),[.ro]⟩],false⟩
abbrev s59 : fM := ⟨[⟨.st (.cons (.sl ku) (.one (.int .i64))),[.leak]⟩,xG],[pu1,⟨.st (.cons (.sl ku) (.one (.int .i64))),[.ro]⟩],false⟩
abbrev s60 : fM := ⟨[⟨.st (.cons (.sl ku) (.one (.int .i64))),[.leak]⟩,oZ],[⟨.agg k5,[]⟩,⟨.st (.cons (.sl ku) (.one (.int .i64))),[.ro]⟩],false⟩
abbrev s61 : fM := ⟨[oZ],[pb],false⟩
abbrev s62 : fM := ⟨[oZ],[pb],false⟩
abbrev s63 : fM := ⟨[xG],[oZ],false⟩
abbrev s67 : fM := ⟨[zO],[oZ,oZ],false⟩
abbrev s68 : fM := ⟨[zO,oZ,oZ],[oZ,oZ],false⟩
abbrev s69 : fM := ⟨[zO,oZ,oZ],[oZ,oZ],false⟩
abbrev s70 : fM := ⟨[zO],[oZ,oZ],false⟩
abbrev s71 : fM := ⟨[zO,oZ,oZ],[oZ,oZ],false⟩
abbrev s73 : fM := ⟨[⟨.agg k4,[]⟩],[⟨.agg k4,[]⟩],false⟩
abbrev Z5 : fM := ⟨[zO],[Jr,pb],false⟩
abbrev s77 : fM := ⟨[xG],[Jr,pb],false⟩
abbrev s78 : fM := ⟨[zO],[Jr],false⟩
abbrev s79 : fM := ⟨[xG],[Jr,pb],false⟩
abbrev s80 : fM := ⟨[xG],[pu1,pb],false⟩
abbrev s81 : fM := ⟨[xG],[oZ],false⟩
abbrev s82 : fM := ⟨[⟨.agg k4,[]⟩],[pb],false⟩
abbrev s83 : fM := ⟨[zO,⟨.agg k5,[]⟩],[Jr],false⟩
abbrev s84 : fM := ⟨[zO],[Jr],false⟩
abbrev s85 : fM := ⟨[zO],[Jr],false⟩
abbrev s86 : fM := ⟨[zO,⟨.agg k5,[]⟩],[Jr],false⟩
abbrev s87 : fM := ⟨[zO,⟨.agg k5,[]⟩],[Jr],false⟩
abbrev s88 : fM := ⟨[⟨.one (.int .u8),[]⟩,zO],[pu1],false⟩
abbrev s89 : fM := ⟨[oZ,oZ,oZ],[pb],false⟩
abbrev s90 : fM := ⟨[⟨.st (.cons (.sl ku) (.one (.int .i64))),[.leak]⟩],[⟨.agg k4,[]⟩,⟨.st (.cons (.sl ku) (.one (.int .i64))),[.ro]⟩],false⟩
abbrev Xq : fM := ⟨[⟨.agg k4,[]⟩,⟨.st k5,[]⟩],[⟨.agg k4,[]⟩,⟨.st k5,[]⟩],true⟩
abbrev Xr : fM := ⟨[oZ,oZ,⟨.st k4,[]⟩],[oZ,⟨.st k4,[]⟩],true⟩
abbrev Vb : fM := ⟨[xG,oZ,oZ],[oZ,pb],false⟩
abbrev Vd : fM := ⟨[xG,oZ],[pb],false⟩
abbrev Xt : fM := ⟨[⟨.agg k4,[]⟩],[⟨.agg k4,[]⟩],false⟩
abbrev Rq : fM := ⟨[zO,oZ,oZ],[⟨.agg k4,[]⟩],false⟩
abbrev Xu : fM := ⟨[⟨.agg k4,[]⟩,⟨.agg k5,[]⟩],[⟨.agg k4,[]⟩],false⟩
abbrev Ve : fM := ⟨[zO],[pu1],false⟩
abbrev Ru : fM := ⟨[zO],[pu1],false⟩
abbrev Rw : fM := ⟨[xG],[pu1],false⟩
abbrev Xv : fM := ⟨[⟨.one (.sl (.one (.sl ku))),[.ro]⟩,xG],[oZ],false⟩
abbrev Rx : fM := ⟨[⟨.one (.sl (.cons (.int .i64) (.one (.int .i64)))),[.ro]⟩],[pu1],false⟩
abbrev Vf : fM := ⟨[⟨.one (.sl (.one (.sl ku))),[.ro]⟩,xG],[oZ],false⟩
abbrev Xw : fM := ⟨[⟨.agg (.cons (.int .i64) (.one (.int .i64))),[]⟩],[pb],false⟩
abbrev Xx : fM := ⟨[⟨.pz,[]⟩,xG],[Jr,pb],false⟩
abbrev Xy : fM := ⟨[⟨.pz,[]⟩,zO],[pu1],false⟩
abbrev Ry : fM := ⟨[xG],[Jr,pb],false⟩
abbrev Rz : fM := ⟨[zO],[pu1],false⟩
abbrev Xz : fM := ⟨[xG],[⟨.agg k4,[]⟩],false⟩
abbrev XA : fM := ⟨[pu1,⟨.agg k4,[]⟩],[pu1],false⟩
abbrev XB : fM := ⟨[⟨.pz,[]⟩,xG],[Jr,pb],false⟩
abbrev XC : fM := ⟨[⟨.pz,[]⟩,zO],[pu1],false⟩
abbrev RD : fM := ⟨[zO],[Jr],false⟩
abbrev RF : fM := ⟨[⟨.pz,[]⟩,xG],[Jr,pb],false⟩
abbrev RG : fM := ⟨[⟨.pz,[]⟩,zO],[pu1],false⟩
abbrev XD : fM := ⟨[⟨.pz,[]⟩,xG],[Jr,pb],false⟩
abbrev XE : fM := ⟨[⟨.pz,[]⟩,zO],[pu1],false⟩
abbrev RH : fM := ⟨[xG],[pu1,pb],false⟩
abbrev iM : fM := ⟨[xG],[pu1],false⟩
abbrev Pg : fM := ⟨[⟨.st (.cons (.sl ku) (.cons (.sl (.cons (.int .i64) (.one (.int .i64)))) (.cons (.int .i64) (.one (.int .i64))))),[.mv,.mv]⟩,oZ],[pb,⟨.st (.cons (.sl ku) (.cons (.sl (.cons (.int .i64) (.one (.int .i64)))) (.cons (.int .i64) (.one (.int .i64))))),[.mv,.mv]⟩],false⟩
abbrev XF : fM := ⟨[xG,oZ],[pb],false⟩
abbrev RI : fM := ⟨[⟨.one (.sl (.cons (.int .i64) (.one (.int .i64)))),[.ro]⟩],[pu1],false⟩
abbrev Vg : fM := ⟨[⟨.st (.cons (.sl ku) (.cons (.int .i64) kt)),[.mv]⟩,⟨.agg (.cons (.int .i64) (.one (.int .i64))),[]⟩],[⟨.st (.cons (.sl ku) (.cons (.int .i64) kt)),[.mv]⟩],false⟩
abbrev XG : fM := ⟨[⟨.agg (.cons (.int .i64) (.one (.int .i64))),[]⟩],[pb],false⟩
abbrev r6 (Rc : ak) (a : List (Int)) : Option Bool := Rc 6 s6 a
abbrev r8 (Rc : ak) (a : List (Int) × List I5) : Option (List (Int) × Int) := Rc 8 s8 a
abbrev r11 (Rc : ak) (a : List (Int) × List I5) : Option (List (Int) × Int) := Rc 11 s11 a
abbrev r17 (Rc : ak) (a : List (Int)) : Option (List (Int) × List I5) := Rc 17 s17 a
abbrev r18 (Rc : ak) (a : Unit) : Option Bool := Rc 18 s18 a
abbrev r19 (Rc : ak) (a : I5) : Option Bool := Rc 19 s19 a
abbrev r20 (Rc : ak) (a : List (Int)) : Option (Rs × Int) := Rc 20 s20 a
abbrev r21 (Rc : ak) (a : List (Int) × List (Int)) : Option Bool := Rc 21 s21 a
abbrev r22 (Rc : ak) (a : Int × List (Int) × Rs) : Option (List (Int)) := Rc 22 s22 a
abbrev r23 (Rc : ak) (a : Rs × List I5) : Option (Rs × Bool) := Rc 23 s23 a
abbrev r24 (Rc : ak) (a : Rs) : Option (List (Int)) := Rc 24 s24 a
abbrev r25 (Rc : ak) (a : List I5) : Option Bool := Rc 25 s25 a
abbrev r26 (Rc : ak) (a : List (Int)) : Option (Rs × Int) := Rc 26 s26 a
abbrev r27 (Rc : ak) (a : Rs × List I5) : Option (Rs × Bool) := Rc 27 s27 a
abbrev r28 (Rc : ak) (a : Rs) : Option (List (Int)) := Rc 28 s28 a
abbrev r30 (Rc : ak) (a : List I5) : Option Bool := Rc 30 s30 a
abbrev r33 (Rc : ak) (a : (List (Int) × Int) × Int) : Option (List (Int) × List (Int) × Int) := Rc 33 s33 a
abbrev r34 (Rc : ak) (a : (List (Int) × Int) × Int) : Option ((List I5) × List (Int) × Int) := Rc 34 s34 a
abbrev r35 (Rc : ak) (a : I4) : Option Bool := Rc 35 s35 a
abbrev KG (Rc : ak) (a : Int × Int × Int) : Option Bool := Rc 36 s36 a
abbrev r39 (Rc : ak) (a : Rs) : Option Bool := Rc 39 s39 a
abbrev Vz (Rc : ak) (a : List (Int)) : Option I4 := Rc 40 s40 a
abbrev NH (Rc : ak) (a : Rs × Int × Int) : Option I4 := Rc 43 s43 a
abbrev r45 (Rc : ak) (a : Int) : Option Bool := Rc 45 s45 a
abbrev r46 (Rc : ak) (a : Int × List (Int)) : Option (Rs × Bool) := Rc 46 s46 a
abbrev r47 (Rc : ak) (a : List (Int)) : Option (List (Int)) := Rc 47 s47 a
abbrev r48 (Rc : ak) (a : Rs) : Option Bool := Rc 48 s48 a
abbrev r49 (Rc : ak) (a : Rs) : Option Rs := Rc 49 s49 a
abbrev r50 (Rc : ak) (a : Rs × I5) : Option (Rs × Bool) := Rc 50 s50 a
abbrev r51 (Rc : ak) (a : Int × List (Int) × Rs) : Option (List (Int)) := Rc 51 s51 a
abbrev r52 (Rc : ak) (a : I5) : Option Bool := Rc 52 s52 a
abbrev r53 (Rc : ak) (a : Int × List (Int) × Rs) : Option (List (Int)) := Rc 53 s53 a
abbrev r54 (Rc : ak) (a : List (Int) × Int) : Option (Int × List (Int) × Int) := Rc 54 s54 a
abbrev r55 (Rc : ak) (a : (List (Int) × Int) × Int) : Option (List (Int) × List (Int) × Int) := Rc 55 s55 a
abbrev r56 (Rc : ak) (a : (List (Int) × Int) × Int) : Option (Rs × List (Int) × Int) := Rc 56 s56 a
abbrev r57 (Rc : ak) (a : (List (Int) × Int) × Int) : Option (Bool × List (Int) × Int) := Rc 57 s57 a
abbrev qA (Rc : ak) (a : (List (Int) × Int) × Int) : Option (Int × List (Int) × Int) := Rc 58 s58 a
abbrev r59 (Rc : ak) (a : (List (Int) × Int) × List (Int)) : Option (List (Int) × List (Int) × Int) := Rc 59 s59 a
abbrev r60 (Rc : ak) (a : (List (Int) × Int) × Int) : Option ((I5) × List (Int) × Int) := Rc 60 s60 a
abbrev r61 (Rc : ak) (a : Int) : Option Bool := Rc 61 s61 a
abbrev XH (Rc : ak) (a : Int) : Option Bool := Rc 62 s62 a
abbrev r63 (Rc : ak) (a : List (Int)) : Option Int := Rc 63 s63 a
abbrev r67 (Rc : ak) (a : Rs) : Option (Int × Int) := Rc 67 s67 a
abbrev r68 (Rc : ak) (a : Rs × Int × Int) : Option (Int × Int) := Rc 68 s68 a
abbrev r69 (Rc : ak) (a : Rs × Int × Int) : Option (Int × Int) := Rc 69 s69 a
abbrev r70 (Rc : ak) (a : Rs) : Option (Int × Int) := Rc 70 s70 a
abbrev r71 (Rc : ak) (a : Rs × Int × Int) : Option (Int × Int) := Rc 71 s71 a
abbrev r73 (Rc : ak) (a : I4) : Option I4 := Rc 73 s73 a
abbrev r74 (Rc : ak) (a : Rs) : Option (Rs × Bool) := Rc 74 Z5 a
abbrev r77 (Rc : ak) (a : List (Int)) : Option (Rs × Bool) := Rc 77 s77 a
abbrev r78 (Rc : ak) (a : Rs) : Option Rs := Rc 78 s78 a
abbrev r79 (Rc : ak) (a : List (Int)) : Option (Rs × Bool) := Rc 79 s79 a
abbrev r80 (Rc : ak) (a : List (Int)) : Option (List (Int) × Bool) := Rc 80 s80 a
abbrev r81 (Rc : ak) (a : List (Int)) : Option Int := Rc 81 s81 a
abbrev r82 (Rc : ak) (a : I4) : Option Bool := Rc 82 s82 a
abbrev r83 (Rc : ak) (a : Rs × I5) : Option Rs := Rc 83 s83 a
abbrev r84 (Rc : ak) (a : Rs) : Option Rs := Rc 84 s84 a
abbrev r85 (Rc : ak) (a : Rs) : Option Rs := Rc 85 s85 a
abbrev r86 (Rc : ak) (a : Rs × I5) : Option Rs := Rc 86 s86 a
abbrev r87 (Rc : ak) (a : Rs × I5) : Option Rs := Rc 87 s87 a
abbrev r88 (Rc : ak) (a : Int × Rs) : Option (List (Int)) := Rc 88 s88 a
abbrev r89 (Rc : ak) (a : Int × Int × Int) : Option Bool := Rc 89 s89 a
abbrev r90 (Rc : ak) (a : List (Int) × Int) : Option (I4 × List (Int) × Int) := Rc 90 s90 a
abbrev acG (Rc : ak) (a : I4 × I5) : Option (I4 × I5) := Rc 101 Xq a
abbrev Z7 (Rc : ak) (a : Int × I5) : Option (I5) := Rc 102 Xr a
abbrev aeU (Rc : ak) (a : List (Int) × Int × Int) : Option (Int × Bool) := Rc 103 Vb a
abbrev aeV (Rc : ak) (a : List (Int) × Int) : Option Bool := Rc 104 Vd a
abbrev aeW (Rc : ak) (a : I4) : Option I4 := Rc 106 Xt a
abbrev aeX (Rc : ak) (a : Rs × Int × Int) : Option I4 := Rc 107 Rq a
abbrev aeY (Rc : ak) (a : I4 × I5) : Option I4 := Rc 108 Xu a
abbrev Z8 (Rc : ak) (a : Rs) : Option (List (Int)) := Rc 109 Ve a
abbrev aeZ (Rc : ak) (a : Rs) : Option (List (Int)) := Rc 110 Ru a
abbrev ae0 (Rc : ak) (a : List (Int)) : Option (List (Int)) := Rc 111 Rw a
abbrev Ph (Rc : ak) (a : List (List (Int)) × List (Int)) : Option Int := Rc 112 Xv a
abbrev XI (Rc : ak) (a : List (Int × Int)) : Option (List (Int)) := Rc 113 Rx a
abbrev ae1 (Rc : ak) (a : List (List (Int)) × List (Int)) : Option Int := Rc 114 Vf a
abbrev ae2 (Rc : ak) (a : Int × Int) : Option Bool := Rc 115 Xw a
abbrev acH (Rc : ak) (a : Unit × List (Int)) : Option (Rs × Bool) := Rc 131 Xx a
abbrev acI (Rc : ak) (a : Unit × Rs) : Option (List (Int)) := Rc 132 Xy a
abbrev Z9 (Rc : ak) (a : List (Int)) : Option (Rs × Bool) := Rc 133 Ry a
abbrev aac (Rc : ak) (a : Rs) : Option (List (Int)) := Rc 134 Rz a
abbrev XJ (Rc : ak) (a : List (Int)) : Option I4 := Rc 136 Xz a
abbrev aad (Rc : ak) (a : List (Int) × I4) : Option (List (Int)) := Rc 137 XA a
abbrev acJ (Rc : ak) (a : Unit × List (Int)) : Option (Rs × Bool) := Rc 138 XB a
abbrev acK (Rc : ak) (a : Unit × Rs) : Option (List (Int)) := Rc 139 XC a
abbrev acL (Rc : ak) (a : Rs) : Option Rs := Rc 140 RD a
abbrev aae (Rc : ak) (a : Unit × List (Int)) : Option (Rs × Bool) := Rc 142 RF a
abbrev aaf (Rc : ak) (a : Unit × Rs) : Option (List (Int)) := Rc 143 RG a
abbrev acM (Rc : ak) (a : Unit × List (Int)) : Option (Rs × Bool) := Rc 144 XD a
abbrev acN (Rc : ak) (a : Unit × Rs) : Option (List (Int)) := Rc 145 XE a
abbrev ae3 (Rc : ak) (a : List (Int)) : Option (List (Int) × Bool) := Rc 146 RH a
abbrev acO (Rc : ak) (a : List (Int)) : Option (List (Int)) := Rc 147 iM a
abbrev aag (Rc : ak) (a : (List (Int) × (List (Int × Int)) × Int × Int) × Int) : Option (Bool × List (Int) × (List (Int × Int)) × Int × Int) := Rc 149 Pg a
abbrev ae4 (Rc : ak) (a : List (Int) × Int) : Option Bool := Rc 150 XF a
abbrev Vh (Rc : ak) (a : List (Int × Int)) : Option (List (Int)) := Rc 154 RI a
abbrev ae5 (Rc : ak) (a : (List (Int) × Int × Bool) × Int × Int) : Option (List (Int) × Int × Bool) := Rc 155 Vg a
abbrev ae6 (Rc : ak) (a : Int × Int) : Option Bool := Rc 157 XG a
noncomputable def sigs : List (Nat × fM) := [(3,s3),(4,s4),(5,s5),(6,s6),(7,s7),(8,s8),(9,s9),(10,s10),(11,s11),(12,s12),(13,s13),(16,s16),(17,s17),(18,s18),(19,s19),(20,s20),(21,s21),(22,s22),(23,s23),(24,s24),(25,s25),(26,s26),(27,s27),(28,s28),(29,s29),(30,s30),(31,s31),(33,s33),(34,s34),(35,s35),(36,s36),(39,s39),(40,s40),(43,s43),(45,s45),(46,s46),(47,s47),(48,s48),(49,s49),(50,s50),(51,s51),(52,s52),(53,s53),(54,s54),(55,s55),(56,s56),(57,s57),(58,s58),(59,s59),(60,s60),(61,s61),(62,s62),(63,s63),(67,s67),(68,s68),(69,s69),(70,s70),(71,s71),(73,s73),(74,Z5),(77,s77),(78,s78),(79,s79),(80,s80),(81,s81),(82,s82),(83,s83),(84,s84),(85,s85),(86,s86),(87,s87),(88,s88),(89,s89),(90,s90),(101,Xq),(102,Xr),(103,Vb),(104,Vd),(106,Xt),(107,Rq),(108,Xu),(109,Ve),(110,Ru),(111,Rw),(112,Xv),(113,Rx),(114,Vf),(115,Xw),(131,Xx),(132,Xy),(133,Ry),(134,Rz),(136,Xz),(137,XA),(138,XB),(139,XC),(140,RD),(142,RF),(143,RG),(144,XD),(145,XE),(146,RH),(147,iM),(149,Pg),(150,XF),(154,RI),(155,Vg),(157,XG)]
noncomputable def NJ : List (Nat × List (String × FuncId)) := [(91,[("loop.example/easel/impl.read",131),("loop.example/easel/impl.write",132)]),(92,[("loop.example/easel/impl.read",138),("loop.example/easel/impl.write",139)]),(93,[("loop.example/easel/impl.read",142),("loop.example/easel/impl.write",143)]),(94,[("loop.example/easel/impl.read",144),("loop.example/easel/impl.write",145)])]
noncomputable def ou : List Zo := [
 ⟨5,15,[[(0,[]),(1,[]),(2,[0,1]),(3,[0,1,2]),(4,[]),(5,[4]),(6,[4,5]),(7,[]),(9,[]),(8,[0,1,2,3,4,5,6,7]),(10,[0,1,2,3,4,5,6,7,8,9]),(11,[0,1,2,3,4,5,6,7,8,9,10]),(12,[0,1,2,3,4,5,6,7,8,9,10,11]),(13,[0,1,2,3,4,5,6,7,8,9,10,11]),(14,[0,1,2,3,4,5,6,7,8,9,10,11,12]),(15,[0,1,2,3,4,5,6,7,8,9,10,11,12,13,14])]],none⟩,
 ⟨12,6,[[(0,[]),(1,[]),(2,[0,1]),(3,[0,1,2]),(4,[]),(5,[]),(6,[4,5]),(7,[4,5,6]),(8,[0,1,2,3,4,5,6,7])]],none⟩,
 ⟨13,6,[[(0,[]),(1,[]),(2,[0,1]),(3,[0,1,2]),(4,[]),(5,[]),(6,[4,5]),(7,[4,5,6]),(8,[0,1,2,3,4,5,6,7]),(9,[0,1,2,3,4,5,6,7,8])]],none⟩,
 ⟨23,7,[[(0,[]),(1,[0]),(2,[]),(3,[0,1,2]),(4,[0,1,2,3]),(5,[0,1,2,3,4]),(6,[0,1,2,3,4]),(7,[]),(8,[0,1,2,3,4,5,7]),(9,[0,1,2,3,4,5,6,7,8])],
  [(0,[]),(1,[0]),(2,[]),(7,[]),(3,[0,1,2]),(4,[0,1,2,3]),(5,[0,1,2,3,4]),(6,[0,1,2,3,4]),(8,[0,1,2,3,4,5,7]),(9,[0,1,2,3,4,5,6,7,8])],
  [(0,[]),(1,[0]),(7,[]),(2,[]),(3,[0,1,2]),(4,[0,1,2,3]),(5,[0,1,2,3,4]),(6,[0,1,2,3,4]),(8,[0,1,2,3,4,5,7]),(9,[0,1,2,3,4,5,6,7,8])],
  [(0,[]),(2,[]),(1,[0]),(3,[0,1,2]),(4,[0,1,2,3]),(5,[0,1,2,3,4]),(6,[0,1,2,3,4]),(7,[]),(8,[0,1,2,3,4,5,7]),(9,[0,1,2,3,4,5,6,7,8])],
  [(0,[]),(2,[]),(1,[0]),(7,[]),(3,[0,1,2]),(4,[0,1,2,3]),(5,[0,1,2,3,4]),(6,[0,1,2,3,4]),(8,[0,1,2,3,4,5,7]),(9,[0,1,2,3,4,5,6,7,8])],
  [(0,[]),(2,[]),(7,[]),(1,[0]),(3,[0,1,2]),(4,[0,1,2,3]),(5,[0,1,2,3,4]),(6,[0,1,2,3,4]),(8,[0,1,2,3,4,5,7]),(9,[0,1,2,3,4,5,6,7,8])],
  [(0,[]),(7,[]),(1,[0]),(2,[]),(3,[0,1,2]),(4,[0,1,2,3]),(5,[0,1,2,3,4]),(6,[0,1,2,3,4]),(8,[0,1,2,3,4,5,7]),(9,[0,1,2,3,4,5,6,7,8])],
  [(0,[]),(7,[]),(2,[]),(1,[0]),(3,[0,1,2]),(4,[0,1,2,3]),(5,[0,1,2,3,4]),(6,[0,1,2,3,4]),(8,[0,1,2,3,4,5,7]),(9,[0,1,2,3,4,5,6,7,8])]],some [2,7]⟩,
 ⟨26,8,[[(0,[]),(1,[0]),(2,[0,1]),(3,[0,1,2]),(6,[0,1,2]),(7,[0,1,2]),(8,[0,1,2,7]),(9,[0,1,2,7,8]),(10,[0,1,2,6,7,8,9]),(4,[0,1,2,3]),(5,[0,1,2,3,4]),(11,[0,1,2,6,7,8,9,10]),(12,[0,1,2,3,4,5,6,7,8,9,10,11]),(13,[0,1,2,3,4,5,6,7,8,9,10,11,12]),(14,[0,1,2,3,4,5,6,7,8,9,10,11,12,13]),(15,[0,1,2,3,4,5,6,7,8,9,10,11,12,13,14]),(16,[0,1,2,3,4,5,6,7,8,9,10,11,12,13,14,15]),(17,[0,1,2,3,4,5,6,7,8,9,10,11,12,13,14,15,16]),(18,[0,1,2,3,4,5,6,7,8,9,10,11,12,13,14,15,16,17])],
  [(0,[]),(1,[0]),(2,[0,1]),(3,[0,1,2]),(6,[0,1,2]),(7,[0,1,2]),(8,[0,1,2,7]),(9,[0,1,2,7,8]),(10,[0,1,2,6,7,8,9]),(4,[0,1,2,3]),(11,[0,1,2,6,7,8,9,10]),(5,[0,1,2,3,4]),(12,[0,1,2,3,4,5,6,7,8,9,10,11]),(13,[0,1,2,3,4,5,6,7,8,9,10,11,12]),(14,[0,1,2,3,4,5,6,7,8,9,10,11,12,13]),(15,[0,1,2,3,4,5,6,7,8,9,10,11,12,13,14]),(16,[0,1,2,3,4,5,6,7,8,9,10,11,12,13,14,15]),(17,[0,1,2,3,4,5,6,7,8,9,10,11,12,13,14,15,16]),(18,[0,1,2,3,4,5,6,7,8,9,10,11,12,13,14,15,16,17])],
  [(0,[]),(1,[0]),(2,[0,1]),(3,[0,1,2]),(6,[0,1,2]),(7,[0,1,2]),(8,[0,1,2,7]),(9,[0,1,2,7,8]),(10,[0,1,2,6,7,8,9]),(11,[0,1,2,6,7,8,9,10]),(4,[0,1,2,3]),(5,[0,1,2,3,4]),(12,[0,1,2,3,4,5,6,7,8,9,10,11]),(13,[0,1,2,3,4,5,6,7,8,9,10,11,12]),(14,[0,1,2,3,4,5,6,7,8,9,10,11,12,13]),(15,[0,1,2,3,4,5,6,7,8,9,10,11,12,13,14]),(16,[0,1,2,3,4,5,6,7,8,9,10,11,12,13,14,15]),(17,[0,1,2,3,4,5,6,7,8,9,10,11,12,13,14,15,16]),(18,[0,1,2,3,4,5,6,7,8,9,10,11,12,13,14,15,16,17])]],none⟩,
 ⟨27,7,[[(0,[]),(1,[]),(2,[]),(3,[1,2]),(4,[1,2,3]),(9,[]),(5,[0,1,2,3,4]),(6,[0,1,2,3,4,5]),(7,[0,1,2,3,4,5,6]),(8,[0,1,2,3,4,5,6]),(10,[0,1,2,3,4,5,6,7,9]),(11,[0,1,2,3,4,5,6,7,8,9,10])]],none⟩,
 ⟨38,7,[[(0,[]),(1,[]),(3,[]),(4,[]),(5,[3,4]),(6,[3,4,5]),(7,[3,4,5,6]),(2,[1]),(8,[1,2,3,4,5,6,7]),(9,[0,1,2]),(10,[0,1,2,3,4,5,6,7,8,9])]],none⟩,
 ⟨49,1,[[(0,[]),(1,[0]),(2,[]),(3,[2]),(4,[]),(5,[]),(6,[5]),(7,[4,5,6]),(8,[0,1,2,3,4,5,6,7]),(9,[0,1,2,3,4,5,6,7,8])]],none⟩,
 ⟨56,13,[[(0,[]),(1,[0]),(2,[0,1]),(3,[0,1,2]),(4,[]),(5,[4]),(6,[0,1,2,3,4,5]),(7,[0,1,2,3,4,5,6]),(8,[0,1,2,3,4,5,6,7]),(9,[0,1,2,3,4,5,6,7,8])]],none⟩,
 ⟨56,11,[[(0,[]),(1,[0]),(2,[]),(3,[]),(4,[3]),(5,[3,4]),(7,[]),(8,[]),(6,[2,3,4,5]),(9,[2,3,4,5,6,8]),(10,[2,3,4,5,6,7,8,9]),(11,[2,3,4,5,6,7,8,9,10]),(12,[0,1,2,3,4,5,6,7,8,9,10,11]),(13,[0,1,2,3,4,5,6,7,8,9,10,11,12]),(14,[0,1,2,3,4,5,6,7,8,9,10,11,12,13])]],none⟩,
 ⟨58,7,[[(0,[]),(1,[0]),(2,[0,1]),(3,[0,1,2]),(4,[]),(5,[]),(6,[5]),(7,[5,6]),(8,[5,6,7]),(9,[5,6,7,8]),(10,[4,5,6,7,8,9]),(11,[0,1,2,3,4,5,6,7,8,9,10]),(12,[0,1,2,3,4,5,6,7,8,9,10,11]),(13,[0,1,2,3,4,5,6,7,8,9,10,11,12]),(14,[0,1,2,3,4,5,6,7,8,9,10,11,12,13]),(15,[]),(16,[15]),(17,[15,16]),(18,[15,16,17]),(19,[]),(20,[19]),(21,[19,20]),(22,[]),(23,[22]),(24,[22,23]),(25,[22,23,24]),(26,[22,23,24,25]),(27,[19,20,21,22,23,24,25,26]),(28,[15,16,17,18,19,20,21,22,23,24,25,26,27]),(29,[15,16,17,18,19,20,21,22,23,24,25,26,27,28]),(30,[15,16,17,18,19,20,21,22,23,24,25,26,27,28,29]),(31,[15,16,17,18,19,20,21,22,23,24,25,26,27,28,29,30]),(32,[0,1,2,3,4,5,6,7,8,9,10,11,12,13,14,15,16,17,18,19,20,21,22,23,24,25,26,27,28,29,30,31]),(33,[]),(34,[33]),(35,[0,1,2,3,4,5,6,7,8,9,10,11,12,13,14,15,16,17,18,19,20,21,22,23,24,25,26,27,28,29,30,31,32,33,34]),(36,[]),(37,[]),(38,[37]),(39,[37,38]),(40,[37,38,39]),(41,[37,38,39,40]),(42,[36,37,38,39,40,41]),(43,[36,37,38,39,40,41,42]),(44,[0,1,2,3,4,5,6,7,8,9,10,11,12,13,14,15,16,17,18,19,20,21,22,23,24,25,26,27,28,29,30,31,32,33,34,35,36,37,38,39,40,41,42,43]),(45,[0,1,2,3,4,5,6,7,8,9,10,11,12,13,14,15,16,17,18,19,20,21,22,23,24,25,26,27,28,29,30,31,32,33,34,35,36,37,38,39,40,41,42,43,44])]],none⟩,
 ⟨59,6,[[(0,[]),(1,[]),(2,[]),(3,[1,2]),(5,[]),(6,[]),(7,[6]),(8,[5,6,7]),(4,[0,1,2,3]),(9,[0,1,2,3,4,5,6,7,8]),(10,[0,1,2,3,4,5,6,7,8,9])]],none⟩,
 ⟨59,8,[[(0,[]),(1,[]),(2,[]),(3,[1,2]),(5,[]),(10,[]),(11,[]),(12,[10,11]),(4,[0,1,2,3]),(6,[0,1,2,3,4,5]),(7,[0,1,2,3,4,5,6]),(8,[0,1,2,3,4,5,6,7]),(9,[0,1,2,3,4,5,6,7,8]),(13,[0,1,2,3,4,5,6,7,8,9,10,11,12]),(14,[0,1,2,3,4,5,6,7,8,9,10,11,12,13])]],none⟩,
 ⟨59,10,[[(0,[]),(1,[]),(2,[]),(3,[]),(4,[2,3]),(5,[2,3,4]),(6,[]),(7,[6]),(8,[6,7]),(9,[6,7,8]),(10,[2,3,4,5,6,7,8,9]),(11,[0,1,2,3,4,5,6,7,8,9,10]),(12,[0,1,2,3,4,5,6,7,8,9,10,11])]],none⟩,
 ⟨67,1,[[(0,[]),(1,[0]),(2,[]),(3,[2]),(4,[0,1]),(5,[0,1,2,3,4])]],none⟩,
 ⟨69,1,[[(0,[]),(1,[]),(2,[1]),(3,[1,2]),(4,[]),(5,[1,2,3,4]),(6,[0]),(7,[0,1,2,3,4,5,6])]],none⟩,
 ⟨70,1,[[(0,[]),(1,[0]),(2,[]),(3,[2]),(4,[0,1]),(5,[0,1,2,3,4])]],none⟩,
 ⟨71,1,[[(0,[]),(1,[]),(2,[1]),(3,[1,2]),(4,[]),(5,[1,2,3,4]),(6,[0]),(7,[0,1,2,3,4,5,6])]],none⟩,
 ⟨77,3,[[(0,[]),(1,[0]),(2,[0,1]),(3,[0,1,2]),(4,[]),(5,[4]),(6,[4,5]),(7,[4,5,6]),(8,[0,1,2,3,4,5,6,7]),(9,[]),(10,[0,1,2,3,4,5,6,7,8,9])]],none⟩,
 ⟨77,9,[[(0,[]),(1,[0]),(2,[]),(3,[]),(4,[2,3]),(5,[2,3,4]),(6,[2,3,4,5]),(7,[]),(8,[]),(9,[8]),(10,[7,8,9]),(11,[7,8,9,10]),(12,[7,8,9,10,11]),(13,[]),(14,[]),(15,[14]),(16,[13,14,15]),(17,[13,14,15,16]),(18,[13,14,15,16,17]),(19,[]),(20,[]),(21,[20]),(22,[19,20,21]),(23,[19,20,21,22]),(24,[19,20,21,22,23]),(25,[2,3,4,5,6,7,8,9,10,11,12,13,14,15,16,17,18,19,20,21,22,23,24]),(26,[2,3,4,5,6,7,8,9,10,11,12,13,14,15,16,17,18,19,20,21,22,23,24,25]),(27,[0,1,2,3,4,5,6,7,8,9,10,11,12,13,14,15,16,17,18,19,20,21,22,23,24,25,26]),(28,[0,1,2,3,4,5,6,7,8,9,10,11,12,13,14,15,16,17,18,19,20,21,22,23,24,25,26,27]),(29,[0,1,2,3,4,5,6,7,8,9,10,11,12,13,14,15,16,17,18,19,20,21,22,23,24,25,26,27,28])]],none⟩,
 ⟨78,5,[[(0,[]),(1,[0]),(2,[]),(3,[2]),(4,[]),(5,[]),(6,[5]),(7,[4,5,6]),(8,[]),(9,[8]),(10,[]),(11,[10]),(12,[8,9,10,11]),(13,[2,3,4,5,6,7,8,9,10,11,12]),(14,[0,1,2,3,4,5,6,7,8,9,10,11,12,13]),(15,[0,1,2,3,4,5,6,7,8,9,10,11,12,13,14]),(16,[0,1,2,3,4,5,6,7,8,9,10,11,12,13,14,15])]],none⟩,
 ⟨79,3,[[(0,[]),(1,[0]),(2,[0,1]),(3,[0,1,2]),(4,[]),(5,[4]),(6,[4,5]),(7,[4,5,6]),(8,[0,1,2,3,4,5,6,7]),(9,[]),(10,[0,1,2,3,4,5,6,7,8,9])]],none⟩,
 ⟨79,10,[[(0,[]),(1,[0]),(2,[]),(3,[]),(4,[3]),(5,[2,3,4]),(6,[2,3,4,5]),(7,[2,3,4,5,6]),(8,[]),(9,[]),(10,[9]),(11,[8,9,10]),(12,[8,9,10,11]),(13,[8,9,10,11,12]),(14,[]),(15,[]),(16,[15]),(17,[14,15,16]),(18,[14,15,16,17]),(19,[14,15,16,17,18]),(20,[]),(21,[]),(22,[21]),(23,[20,21,22]),(24,[20,21,22,23]),(25,[20,21,22,23,24]),(26,[2,3,4,5,6,7,8,9,10,11,12,13,14,15,16,17,18,19,20,21,22,23,24,25]),(27,[2,3,4,5,6,7,8,9,10,11,12,13,14,15,16,17,18,19,20,21,22,23,24,25,26]),(28,[0,1,2,3,4,5,6,7,8,9,10,11,12,13,14,15,16,17,18,19,20,21,22,23,24,25,26,27]),(29,[0,1,2,3,4,5,6,7,8,9,10,11,12,13,14,15,16,17,18,19,20,21,22,23,24,25,26,27,28]),(30,[0,1,2,3,4,5,6,7,8,9,10,11,12,13,14,15,16,17,18,19,20,21,22,23,24,25,26,27,28,29])]],none⟩,
 ⟨79,13,[[(0,[]),(1,[]),(2,[1]),(3,[1,2]),(4,[]),(5,[4]),(6,[]),(7,[6]),(8,[4,5,6,7]),(9,[1,2,3,4,5,6,7,8]),(10,[0]),(11,[0,1,2,3,4,5,6,7,8,9,10])]],none⟩,
 ⟨80,19,[[(0,[]),(1,[]),(2,[]),(4,[]),(5,[4]),(6,[4,5]),(7,[4,5,6]),(3,[1,2]),(8,[1,2,3,4,5,6,7]),(9,[1,2,3,4,5,6,7,8]),(10,[0,1,2,3,4,5,6,7,8,9]),(11,[0,1,2,3,4,5,6,7,8,9,10])]],none⟩,
 ⟨83,8,[[(0,[]),(1,[0]),(2,[]),(3,[2]),(4,[]),(5,[4]),(6,[]),(7,[4,5,6]),(8,[]),(9,[8]),(10,[4,5,6,7,8,9]),(11,[]),(12,[11]),(13,[4,5,6,7,8,9,10,11,12]),(14,[]),(15,[4,5,6,7,8,9,10,11,12,13,14]),(16,[2,3,4,5,6,7,8,9,10,11,12,13,14,15]),(17,[2,3,4,5,6,7,8,9,10,11,12,13,14,15,16]),(18,[2,3,4,5,6,7,8,9,10,11,12,13,14,15,16,17]),(19,[0,1,2,3,4,5,6,7,8,9,10,11,12,13,14,15,16,17,18]),(20,[0,1,2,3,4,5,6,7,8,9,10,11,12,13,14,15,16,17,18,19]),(21,[0,1,2,3,4,5,6,7,8,9,10,11,12,13,14,15,16,17,18,19,20])]],none⟩,
 ⟨84,8,[[(0,[]),(1,[0]),(2,[]),(3,[2]),(4,[]),(5,[]),(6,[5]),(7,[4,5,6]),(8,[]),(9,[4,5,6,7,8]),(10,[2,3,4,5,6,7,8,9]),(11,[2,3,4,5,6,7,8,9,10]),(12,[2,3,4,5,6,7,8,9,10,11]),(13,[0,1,2,3,4,5,6,7,8,9,10,11,12]),(14,[0,1,2,3,4,5,6,7,8,9,10,11,12,13]),(15,[0,1,2,3,4,5,6,7,8,9,10,11,12,13,14])]],none⟩,
 ⟨85,8,[[(0,[]),(1,[0]),(2,[]),(3,[2]),(4,[]),(5,[4]),(6,[4,5]),(7,[]),(8,[4,5,6,7]),(9,[]),(10,[9]),(11,[4,5,6,7,8,9,10]),(12,[]),(13,[4,5,6,7,8,9,10,11,12]),(14,[2,3,4,5,6,7,8,9,10,11,12,13]),(15,[2,3,4,5,6,7,8,9,10,11,12,13,14]),(16,[2,3,4,5,6,7,8,9,10,11,12,13,14,15]),(17,[0,1,2,3,4,5,6,7,8,9,10,11,12,13,14,15,16]),(18,[0,1,2,3,4,5,6,7,8,9,10,11,12,13,14,15,16,17]),(19,[0,1,2,3,4,5,6,7,8,9,10,11,12,13,14,15,16,17,18])]],none⟩,
 ⟨86,8,[[(0,[]),(1,[0]),(2,[]),(3,[2]),(4,[]),(5,[4]),(6,[4,5]),(7,[]),(8,[7]),(9,[4,5,6,7,8]),(10,[]),(11,[10]),(12,[10,11]),(13,[4,5,6,7,8,9,10,11,12]),(14,[]),(15,[14]),(16,[4,5,6,7,8,9,10,11,12,13,14,15]),(17,[]),(18,[17]),(19,[17,18]),(20,[]),(21,[20]),(22,[17,18,19,20,21]),(23,[]),(24,[23]),(25,[23,24]),(26,[17,18,19,20,21,22,23,24,25]),(27,[4,5,6,7,8,9,10,11,12,13,14,15,16,17,18,19,20,21,22,23,24,25,26]),(28,[2,3,4,5,6,7,8,9,10,11,12,13,14,15,16,17,18,19,20,21,22,23,24,25,26,27]),(29,[2,3,4,5,6,7,8,9,10,11,12,13,14,15,16,17,18,19,20,21,22,23,24,25,26,27,28]),(30,[2,3,4,5,6,7,8,9,10,11,12,13,14,15,16,17,18,19,20,21,22,23,24,25,26,27,28,29]),(31,[0,1,2,3,4,5,6,7,8,9,10,11,12,13,14,15,16,17,18,19,20,21,22,23,24,25,26,27,28,29,30]),(32,[0,1,2,3,4,5,6,7,8,9,10,11,12,13,14,15,16,17,18,19,20,21,22,23,24,25,26,27,28,29,30,31]),(33,[0,1,2,3,4,5,6,7,8,9,10,11,12,13,14,15,16,17,18,19,20,21,22,23,24,25,26,27,28,29,30,31,32])]],none⟩,
 ⟨87,8,[[(0,[]),(1,[0]),(2,[]),(3,[2]),(4,[]),(5,[2,3,4]),(6,[2,3,4,5]),(7,[2,3,4,5,6]),(8,[2,3,4,5,6,7]),(9,[0,1,2,3,4,5,6,7,8]),(10,[0,1,2,3,4,5,6,7,8,9]),(11,[0,1,2,3,4,5,6,7,8,9,10])]],none⟩,
 ⟨87,10,[[(0,[]),(1,[0]),(2,[]),(3,[]),(4,[]),(5,[4]),(6,[3,4,5]),(7,[]),(8,[]),(9,[8]),(10,[7,8,9]),(11,[2,3,4,5,6,7,8,9,10]),(12,[2,3,4,5,6,7,8,9,10,11]),(13,[0,1,2,3,4,5,6,7,8,9,10,11,12]),(14,[0,1,2,3,4,5,6,7,8,9,10,11,12,13]),(15,[0,1,2,3,4,5,6,7,8,9,10,11,12,13,14])]],none⟩,
 ⟨87,6,[[(0,[]),(1,[0]),(2,[]),(3,[2]),(4,[]),(5,[2,3,4]),(6,[2,3,4,5]),(7,[]),(8,[2,3,4,5,6,7]),(9,[2,3,4,5,6,7,8]),(10,[0,1,2,3,4,5,6,7,8,9]),(11,[0,1,2,3,4,5,6,7,8,9,10]),(12,[0,1,2,3,4,5,6,7,8,9,10,11])]],none⟩,
 ⟨90,2,[[(0,[]),(1,[]),(2,[]),(5,[]),(9,[]),(10,[]),(13,[]),(17,[]),(20,[]),(3,[2]),(4,[1,2,3]),(6,[2,3,5]),(7,[1,2,3,4,5,6]),(8,[1,2,3,4,5,6,7]),(11,[2,3,5,6,10]),(12,[2,3,5,6,9,10,11]),(14,[2,3,5,6,10,11,13]),(15,[2,3,5,6,9,10,11,12,13,14]),(16,[2,3,5,6,9,10,11,12,13,14,15]),(18,[2,3,5,6,10,11,13,14,17]),(19,[2,3,5,6,10,11,13,14,17,18]),(21,[2,3,5,6,10,11,13,14,17,18,20]),(22,[2,3,5,6,10,11,13,14,17,18,19,20,21]),(23,[2,3,5,6,10,11,13,14,17,18,19,20,21,22]),(24,[0,1,2,3,4,5,6,7,8,9,10,11,12,13,14,15,16,17,18,19,20,21,22,23]),(25,[0,1,2,3,4,5,6,7,8,9,10,11,12,13,14,15,16,17,18,19,20,21,22,23,24])]],none⟩,
 ⟨91,1,[[(0,[]),(1,[0]),(2,[]),(3,[2]),(4,[0,1]),(5,[0,1,2,3,4])]],none⟩,
 ⟨92,1,[[(0,[]),(1,[0]),(2,[]),(3,[0,1,2]),(4,[]),(5,[4]),(6,[]),(7,[4,5,6]),(8,[0,1,2,3]),(9,[0,1,2,3,4,5,6,7,8])]],none⟩,
 ⟨97,1,[[(0,[]),(1,[]),(2,[]),(3,[]),(4,[1,2,3]),(5,[0,1,2,3,4]),(6,[0,1,2,3,4,5])]],none⟩,
 ⟨98,15,[[(0,[]),(1,[0]),(2,[]),(3,[0,1,2]),(4,[]),(5,[4]),(6,[]),(7,[4,5,6]),(8,[]),(9,[8]),(10,[]),(11,[8,9,10]),(12,[]),(13,[12]),(14,[]),(15,[12,13,14]),(16,[0,1,2,3,4,5,6,7,8,9,10,11,12,13,14,15]),(17,[0,1,2,3,4,5,6,7,8,9,10,11,12,13,14,15,16])]],none⟩,
 ⟨99,1,[[(0,[]),(1,[0]),(2,[]),(3,[2]),(4,[0,1]),(5,[0,1,2,3,4])]],none⟩,
 ⟨100,1,[[(0,[]),(1,[0]),(2,[0,1]),(3,[]),(4,[3]),(5,[0,1,2,3,4]),(6,[]),(7,[6]),(8,[6,7]),(9,[0,1,2,3,4,5,6,7,8]),(10,[]),(11,[10]),(12,[10,11]),(13,[]),(14,[13]),(15,[10,11,12,13,14]),(16,[]),(17,[16]),(18,[16,17]),(19,[10,11,12,13,14,15,16,17,18]),(20,[0,1,2,3,4,5,6,7,8,9]),(21,[0,1,2,3,4,5,6,7,8,9,10,11,12,13,14,15,16,17,18,19,20])]],none⟩,
 ⟨101,2,[[(0,[]),(1,[]),(2,[1]),(3,[]),(4,[3]),(6,[]),(7,[]),(8,[7]),(9,[]),(10,[9]),(12,[]),(13,[]),(14,[13]),(15,[]),(16,[15]),(5,[0,1,2,3,4]),(11,[0,1,2,3,4,5,6,7,8,9,10]),(17,[0,1,2,3,4,5,6,7,8,9,10,11,12,13,14,15,16]),(18,[0,1,2,3,4,5,6,7,8,9,10,11,12,13,14,15,16,17]),(19,[0,1,2,3,4,5,6,7,8,9,10,11,12,13,14,15,16,17,18])]],none⟩,
 ⟨105,7,[[(0,[]),(1,[]),(3,[]),(4,[3]),(5,[3,4]),(6,[3,4,5]),(2,[0,1]),(7,[0,1,2,3,4,5,6]),(8,[0,1,2,3,4,5,6,7])]],none⟩,
 ⟨107,12,[[(0,[]),(1,[0]),(2,[]),(3,[0,1,2]),(4,[]),(5,[4]),(6,[]),(7,[4,5,6]),(8,[]),(9,[8]),(10,[]),(11,[8,9,10]),(12,[]),(13,[12]),(14,[]),(15,[12,13,14]),(16,[0,1,2,3,4,5,6,7,8,9,10,11,12,13,14,15]),(17,[0,1,2,3,4,5,6,7,8,9,10,11,12,13,14,15,16])]],none⟩,
 ⟨110,5,[[(0,[]),(1,[]),(2,[0,1]),(3,[]),(4,[3]),(5,[3,4]),(6,[0,1,2,3,4,5]),(7,[0,1,2,3,4,5,6]),(8,[0,1,2,3,4,5,6,7]),(9,[0,1,2,3,4,5,6,7,8]),(10,[0,1,2,3,4,5,6,7]),(11,[0,1,2,3,4,5,6,7]),(12,[0,1,2,3,4,5,6,7,10,11]),(13,[0,1,2,3,4,5,6,7,8,9,10,11,12]),(14,[0,1,2,3,4,5,6,7,8,9,10,11,12,13]),(15,[0,1,2,3,4,5,6,7]),(16,[0,1,2,3,4,5,6,7,15]),(17,[0,1,2,3,4,5,6,7]),(18,[0,1,2,3,4,5,6,7,15,16,17]),(19,[0,1,2,3,4,5,6,7,15,16,17,18]),(20,[0,1,2,3,4,5,6,7,8,9,10,11,12,13,14,15,16,17,18,19]),(21,[0,1,2,3,4,5,6,7,8,9,10,11,12,13,14,15,16,17,18,19,20])]],none⟩,
 ⟨113,13,[[(0,[]),(1,[]),(2,[1]),(3,[]),(4,[]),(5,[4]),(6,[3,4,5]),(7,[3,4,5,6]),(8,[]),(9,[]),(10,[8,9]),(11,[8,9,10]),(12,[8,9,10,11]),(13,[]),(14,[8,9,10,11,12,13]),(15,[8,9,10,11,12,13,14]),(16,[]),(17,[16]),(18,[8,9,10,11,12,13,14,15,16,17]),(19,[8,9,10,11,12,13,14,15,16,17,18]),(20,[3,4,5,6,7,8,9,10,11,12,13,14,15,16,17,18,19]),(21,[0,1,2,3,4,5,6,7,8,9,10,11,12,13,14,15,16,17,18,19,20]),(22,[0,1,2,3,4,5,6,7,8,9,10,11,12,13,14,15,16,17,18,19,20,21])]],none⟩,
 ⟨114,4,[[(0,[]),(1,[]),(2,[0,1]),(3,[0,1,2]),(5,[]),(4,[0,1,2,3]),(6,[5]),(7,[0,1,2,3,4,5,6])],
  [(0,[]),(1,[]),(2,[0,1]),(3,[0,1,2]),(5,[]),(6,[5]),(4,[0,1,2,3]),(7,[0,1,2,3,4,5,6])]],none⟩,
 ⟨115,1,[[(0,[]),(1,[0]),(2,[0,1]),(3,[0,1,2]),(4,[0,1,2,3]),(5,[0,1,2,3,4]),(6,[0,1,2,3]),(7,[0,1,2,3,6]),(8,[0,1,2,3,6,7]),(9,[0,1,2,3,6,7,8]),(10,[0,1,2,3,4,5,6,7,8,9]),(11,[0,1,2,3,4,5,6,7,8,9,10]),(12,[0,1,2,3,4,5,6,7,8,9,10,11])]],none⟩,
 ⟨133,3,[[(0,[]),(1,[0]),(2,[0,1]),(3,[0,1,2]),(4,[]),(5,[4]),(6,[4,5]),(7,[4,5,6]),(8,[]),(9,[0,1,2,3,8]),(10,[0,1,2,3,4,5,6,7,8,9])]],none⟩,
 ⟨136,1,[[(0,[]),(1,[0]),(2,[0,1]),(3,[0,1,2]),(4,[]),(5,[4]),(6,[4,5]),(7,[4,5,6]),(8,[]),(9,[8]),(10,[8,9]),(11,[8,9,10]),(12,[]),(13,[12]),(14,[12,13]),(15,[12,13,14]),(16,[0,1,2,3,4,5,6,7,8,9,10,11,12,13,14,15]),(17,[0,1,2,3,4,5,6,7,8,9,10,11,12,13,14,15,16])]],none⟩,
 ⟨142,3,[[(0,[]),(1,[0]),(2,[0,1]),(3,[0,1,2]),(4,[]),(5,[4]),(6,[4,5]),(7,[4,5,6]),(8,[0,1,2,3]),(9,[0,1,2,3,4,5,6,7,8])]],none⟩,
 ⟨143,5,[[(0,[]),(1,[]),(2,[1]),(3,[1,2]),(4,[0,1,2,3]),(5,[0,1,2,3,4]),(6,[0,1,2,3,4,5]),(7,[0,1,2,3,4,5,6]),(8,[0,1,2,3,4,5]),(9,[0,1,2,3,4,5,6,7,8]),(10,[0,1,2,3,4,5,6,7,8,9]),(11,[0,1,2,3,4,5]),(12,[0,1,2,3,4,5,11]),(13,[0,1,2,3,4,5]),(14,[0,1,2,3,4,5,11,12,13]),(15,[0,1,2,3,4,5,11,12,13,14]),(16,[0,1,2,3,4,5,6,7,8,9,10,11,12,13,14,15]),(17,[0,1,2,3,4,5,6,7,8,9,10,11,12,13,14,15,16])]],none⟩,
 ⟨148,1,[[(0,[]),(1,[0]),(2,[0,1]),(3,[0,1,2]),(4,[0,1,2,3]),(5,[0,1,2,3,4]),(6,[0,1,2,3,4,5]),(7,[0,1,2,3,4,5,6]),(8,[0,1,2,3,4,5,6,7]),(9,[0,1,2,3,4,5,6,7,8]),(10,[0,1,2,3,4,5,6,7,8,9]),(11,[0,1,2,3,4,5,6,7,8,9,10]),(12,[0,1,2,3,4,5,6,7,8,9,10,11]),(13,[0,1,2,3,4,5,6,7,8,9,10,11,12]),(14,[0,1,2,3,4,5,6,7,8,9,10,11,12,13]),(15,[0,1,2,3,4,5,6,7,8,9,10,11,12,13,14]),(16,[0,1,2,3,4,5,6,7,8,9,10,11,12,13,14,15]),(17,[0,1,2,3,4,5,6,7,8,9,10,11,12,13,14,15,16]),(18,[0,1,2,3,4,5,6,7,8,9,10,11,12,13,14,15,16,17]),(19,[0,1,2,3,4,5,6,7,8,9,10,11,12,13,14,15,16,17,18]),(20,[0,1,2,3,4,5,6,7,8,9,10,11,12,13,14,15,16,17,18,19]),(21,[0,1,2,3,4,5,6,7,8,9,10,11,12,13,14,15,16,17,18,19,20]),(22,[0,1,2,3,4,5,6,7,8,9,10,11,12,13,14,15,16,17,18,19,20,21]),(23,[0,1,2,3,4,5,6,7,8,9,10,11,12,13,14,15,16,17,18,19,20,21,22]),(24,[0,1,2,3,4,5,6,7,8,9,10,11,12,13,14,15,16,17,18,19,20,21,22,23]),(25,[0,1,2,3,4,5,6,7,8,9,10,11,12,13,14,15,16,17,18,19,20,21,22,23,24]),(26,[0,1,2,3,4,5,6,7,8,9,10,11,12,13,14,15,16,17,18,19]),(27,[0,1,2,3,4,5,6,7,8,9,10,11,12,13,14,15,16,17,18,19,26]),(28,[0,1,2,3,4,5,6,7,8,9,10,11,12,13,14,15,16,17,18,19,26,27]),(29,[0,1,2,3,4,5,6,7,8,9,10,11,12,13,14,15,16,17,18,19,26,27,28]),(30,[0,1,2,3,4,5,6,7,8,9,10,11,12,13,14,15,16,17,18,19,20,21,22,23,24,25,26,27,28,29]),(31,[0,1,2,3,4,5,6,7,8,9,10,11,12,13,14,15,16,17,18,19]),(32,[0,1,2,3,4,5,6,7,8,9,10,11,12,13,14,15,16,17,18,19,20,21,22,23,24,25,26,27,28,29,30,31]),(33,[0,1,2,3,4,5,6,7,8,9,10,11,12,13,14,15,16,17,18,19,20,21,22,23,24,25,26,27,28,29,30,31,32])]],none⟩,
 ⟨148,8,[[(0,[]),(1,[]),(2,[1]),(3,[1,2]),(4,[1,2,3]),(5,[]),(6,[5]),(7,[5,6]),(8,[5,6,7]),(9,[5,6,7,8]),(10,[1,2,3,4,5,6,7,8,9]),(11,[1,2,3,4,5,6,7,8,9,10]),(12,[]),(13,[12]),(14,[12,13]),(15,[12,13,14]),(16,[12,13,14,15]),(17,[1,2,3,4,5,6,7,8,9,10,11,12,13,14,15,16]),(18,[1,2,3,4,5,6,7,8,9,10,11,12,13,14,15,16,17]),(19,[1,2,3,4,5,6,7,8,9,10,11,12,13,14,15,16,17,18]),(20,[]),(21,[1,2,3,4,5,6,7,8,9,10,11,12,13,14,15,16,17,18,19,20]),(22,[0,1,2,3,4,5,6,7,8,9,10,11,12,13,14,15,16,17,18,19,20,21]),(23,[0,1,2,3,4,5,6,7,8,9,10,11,12,13,14,15,16,17,18,19,20,21,22])]],none⟩,
 ⟨149,3,[[(0,[]),(1,[]),(2,[1]),(3,[1,2]),(4,[1,2,3]),(5,[]),(6,[5]),(7,[5,6]),(8,[5,6,7]),(9,[5,6,7,8]),(10,[]),(11,[10]),(12,[10,11]),(13,[10,11,12]),(14,[10,11,12,13]),(15,[10,11,12,13,14]),(16,[5,6,7,8,9,10,11,12,13,14,15]),(17,[5,6,7,8,9,10,11,12,13,14,15,16]),(18,[1,2,3,4,5,6,7,8,9,10,11,12,13,14,15,16,17]),(19,[0,1,2,3,4,5,6,7,8,9,10,11,12,13,14,15,16,17,18]),(20,[0,1,2,3,4,5,6,7,8,9,10,11,12,13,14,15,16,17,18,19]),(21,[0,1,2,3,4,5,6,7,8,9,10,11,12,13,14,15,16,17,18,19,20])]],none⟩,
 ⟨149,12,[[(0,[]),(1,[]),(2,[1]),(3,[1,2]),(4,[1,2,3]),(5,[]),(6,[5]),(7,[5,6]),(8,[5,6,7]),(9,[]),(10,[9]),(11,[]),(12,[9,10,11]),(13,[5,6,7,8,9,10,11,12]),(14,[5,6,7,8,9,10,11,12,13]),(15,[5,6,7,8,9,10,11,12,13,14]),(16,[1,2,3,4,5,6,7,8,9,10,11,12,13,14,15]),(17,[0,1,2,3,4,5,6,7,8,9,10,11,12,13,14,15,16]),(18,[0,1,2,3,4,5,6,7,8,9,10,11,12,13,14,15,16,17]),(19,[0,1,2,3,4,5,6,7,8,9,10,11,12,13,14,15,16,17,18])]],none⟩,
 ⟨155,1,[[(0,[]),(1,[0]),(2,[0,1]),(3,[0,1,2]),(4,[0,1,2,3]),(5,[0,1,2,3,4]),(6,[0,1,2,3,4,5]),(7,[0,1,2,3,4,5,6]),(8,[0,1,2,3,4,5,6,7]),(9,[0,1,2,3,4,5,6,7,8]),(10,[0,1,2,3,4,5,6,7,8,9]),(11,[0,1,2,3,4,5,6,7,8,9,10]),(12,[0,1,2,3,4,5,6,7,8,9,10,11]),(13,[0,1,2,3,4,5,6,7,8,9,10,11,12]),(14,[0,1,2,3,4,5,6,7,8,9]),(15,[0,1,2,3,4,5,6,7,8,9,14]),(16,[0,1,2,3,4,5,6,7,8,9,10,11,12,13,14,15]),(17,[0,1,2,3,4,5,6,7,8,9,10,11,12,13,14,15,16]),(18,[0,1,2,3,4,5,6,7,8,9,10,11,12,13,14,15,16,17])]],none⟩,
 ⟨155,8,[[(0,[]),(1,[0]),(2,[0,1]),(3,[0,1,2]),(4,[]),(5,[4]),(6,[4,5]),(7,[4,5,6]),(8,[4,5,6,7]),(9,[0,1,2,3,4,5,6,7,8]),(10,[0,1,2,3,4,5,6,7,8,9]),(11,[]),(12,[11]),(13,[]),(14,[11,12,13]),(15,[11,12,13,14]),(16,[11,12,13,14,15]),(17,[]),(18,[17]),(19,[17,18]),(20,[17,18,19]),(21,[17,18,19,20]),(22,[11,12,13,14,15,16,17,18,19,20,21]),(23,[0,1,2,3,4,5,6,7,8,9,10,11,12,13,14,15,16,17,18,19,20,21,22]),(24,[0,1,2,3,4,5,6,7,8,9,10,11,12,13,14,15,16,17,18,19,20,21,22,23]),(25,[0,1,2,3,4,5,6,7,8,9,10,11,12,13,14,15,16,17,18,19,20,21,22,23,24])]],none⟩,
 ⟨157,1,[[(0,[]),(1,[0]),(2,[0,1]),(3,[0,1,2]),(4,[0,1,2,3]),(5,[0,1,2,3,4]),(6,[0,1,2,3,4,5]),(7,[0,1,2,3,4,5,6]),(8,[0,1,2,3,4,5,6,7]),(9,[0,1,2,3,4,5,6,7,8]),(10,[0,1,2,3,4,5,6,7,8,9]),(11,[0,1,2,3,4,5,6,7,8,9,10]),(12,[0,1,2,3,4,5,6,7,8,9,10,11]),(13,[0,1,2,3,4,5,6,7,8,9,10,11,12]),(14,[0,1,2,3,4,5,6,7,8,9,10,11,12,13]),(15,[0,1,2,3,4,5,6,7,8,9,10,11,12,13,14]),(16,[0,1,2,3,4,5,6,7,8,9,10,11,12,13]),(17,[0,1,2,3,4,5,6,7,8,9,10,11,12,13,16]),(18,[0,1,2,3,4,5,6,7,8,9,10,11,12,13,16,17]),(19,[0,1,2,3,4,5,6,7,8,9,10,11,12,13,14,15,16,17,18]),(20,[0,1,2,3,4,5,6,7,8,9,10,11,12,13,14,15,16,17,18,19]),(21,[0,1,2,3,4,5,6,7,8,9,10,11,12,13,14,15,16,17,18,19,20])]],none⟩]
noncomputable def subs : List Nat := [98]
noncomputable def VE : List Nat := [111]
noncomputable def cuts : List Cut := [
 ⟨151,3,some [(147,12)],⟨true,[[1,5],[0]],[],[]⟩,[]⟩,
 ⟨153,0,some [(151,12),(147,12)],⟨true,[[0,1,2],[1,5],[0]],[],[]⟩,[]⟩,
 ⟨153,2,some [(151,12),(147,12)],⟨true,[[0,1,2],[1,5],[0]],[],[]⟩,[]⟩,
 ⟨153,0,some [(147,46)],⟨true,[[0,1,2],[3,4,5,6]],[],[]⟩,[]⟩,
 ⟨153,2,some [(147,46)],⟨true,[[0,1,2],[3,4,5,6]],[],[]⟩,[]⟩,
 ⟨147,7,some [],⟨true,[[3,4,5,6]],[],[]⟩,[]⟩,
 ⟨152,3,some [(147,20)],⟨true,[[1,6,11,12,13],[3,4,5,6]],[],[]⟩,[]⟩,
 ⟨147,9,some [],⟨true,[[3,4,5,6,7,8]],[],[]⟩,[]⟩,
 Cut.mk 14 2 (some [(3,64)]) (dD.mk false [[0,1,5],[0,1,6,7,9,10,11]] [(Loc.slot 1 0,ku,true),(Loc.slot 1 1,k5,true)] [(Loc.slot 0 0,none),(Loc.slot 1 6,none),(Loc.slot 1 9,none),(Loc.slot 1 10,none)]) [],
 Cut.mk 15 2 (some [(3,67)]) (dD.mk false [[0,1,5],[0,1,6,7,10,11]] [(Loc.slot 1 0,ku,true),(Loc.slot 1 1,k5,true)] [(Loc.slot 0 0,none),(Loc.slot 1 6,none),(Loc.slot 1 10,none)]) [],
 Cut.mk 14 2 (some [(3,83)]) (dD.mk false [[0,1,5],[0,1,6,7,10]] [(Loc.slot 1 0,ku,true),(Loc.slot 1 1,k5,true)] [(Loc.slot 0 0,none),(Loc.slot 1 6,none)]) [],
 Cut.mk 4 11 (some []) (dD.mk false [[3,4,6,9]] [] [(Loc.slot 0 3,none),(Loc.slot 0 4,none)]) [],
 Cut.mk 5 13 (some []) (dD.mk false [[4,5,6,9,11,12]] [] [(Loc.slot 0 4,none),(Loc.slot 0 5,none),(Loc.slot 0 9,none),((Loc.slot 0 9).cell 2,none),(Loc.slot 0 11,none)]) [],
 Cut.mk 9 3 (some []) (dD.mk false [[0,3,4]] [(Loc.slot 0 0,ku,true)] [(Loc.slot 0 3,none)]) [],
 Cut.mk 10 3 (some []) (dD.mk false [[0,3,4]] [(Loc.slot 0 0,k5,true)] [(Loc.slot 0 3,none)]) [],
 Cut.mk 12 4 (some []) (dD.mk false [[0,1,5]] [(Loc.slot 0 0,ku,true),(Loc.slot 0 1,ku,true)] []) [],
 Cut.mk 13 4 (some []) (dD.mk false [[0,1,5]] [(Loc.slot 0 0,k5,true),(Loc.slot 0 1,k5,true)] []) [],
 Cut.mk 16 2 (some []) (dD.mk false [[0,1,5]] [(Loc.slot 0 0,ku,true)] []) [],
 Cut.mk 41 3 (some [(23,25)]) (dD.mk false [[0,1,2,6,7,15,16],[1,4]] [(((Loc.slot 0 2).cell 0).cell 2,k4,true),(Loc.slot 1 1,k5,true)] [((Loc.slot 0 2).cell 0,none),(Loc.slot 0 6,none),(Loc.slot 0 7,none),(Loc.slot 1 4,none)]) [(Loc.slot 0 2,42)],
 Cut.mk 41 7 (some [(23,25)]) (dD.mk false [[0,1,2,6,7,8,9,15,16,24,25],[1,4]] [(((Loc.slot 0 2).cell 0).cell 2,k4,true),(Loc.slot 1 1,k5,true)] [((Loc.slot 0 2).cell 0,none),(Loc.slot 0 6,none),(Loc.slot 0 7,none),(Loc.slot 1 4,none)]) [(Loc.slot 0 2,42)],
 Cut.mk 23 5 (some []) (dD.mk false [[4,6,26,27,28]] [(Loc.slot 0 26,k5,true)] [(Loc.slot 0 4,none),(Loc.slot 0 6,none),((Loc.slot 0 6).cell 2,none)]) [],
 Cut.mk 41 3 (some [(94,17),(93,27),(23,7036)]) (dD.mk false [[0,1,2,6,7,15,16],[4],[4],[4,6,26,27,28]] [(Loc.slot 3 26,k5,true)] [((Loc.slot 0 2).cell 0,none),((((Loc.slot 0 2).cell 0).cell 0).cell 0,none),((Loc.slot 0 2).cell 1,none),(((Loc.slot 0 2).cell 1).cell 2,none),(Loc.slot 0 6,none),(Loc.slot 0 7,none),(Loc.slot 1 4,none),(Loc.slot 2 4,none),(Loc.slot 3 4,none),(Loc.slot 3 6,none)]) [(Loc.slot 0 2,95),(((Loc.slot 0 2).cell 0).cell 0,92)],
 Cut.mk 41 3 (some [(94,17),(23,7036)]) (dD.mk false [[0,1,2,6,7,15,16],[4],[4,6,26,27,28]] [(Loc.slot 2 26,k5,true)] [((Loc.slot 0 2).cell 0,none),((Loc.slot 0 2).cell 1,none),(((Loc.slot 0 2).cell 1).cell 2,none),(Loc.slot 0 6,none),(Loc.slot 0 7,none),(Loc.slot 1 4,none),(Loc.slot 2 4,none),(Loc.slot 2 6,none)]) [(Loc.slot 0 2,95),(((Loc.slot 0 2).cell 0).cell 0,68)],
 Cut.mk 41 3 (some [(94,17),(23,7036)]) (dD.mk false [[0,1,2,6,7,15,16],[4],[4,6,26,27,28]] [(Loc.slot 2 26,k5,true)] [((Loc.slot 0 2).cell 0,none),((Loc.slot 0 2).cell 1,none),(((Loc.slot 0 2).cell 1).cell 2,none),(Loc.slot 0 6,none),(Loc.slot 0 7,none),(Loc.slot 1 4,none),(Loc.slot 2 4,none),(Loc.slot 2 6,none)]) [(Loc.slot 0 2,95),(((Loc.slot 0 2).cell 0).cell 0,69)],
 Cut.mk 41 3 (some [(94,17),(23,7036)]) (dD.mk false [[0,1,2,6,7,15,16],[4],[4,6,26,27,28]] [(Loc.slot 2 26,k5,true)] [((Loc.slot 0 2).cell 0,none),((Loc.slot 0 2).cell 1,none),(((Loc.slot 0 2).cell 1).cell 2,none),(Loc.slot 0 6,none),(Loc.slot 0 7,none),(Loc.slot 1 4,none),(Loc.slot 2 4,none),(Loc.slot 2 6,none)]) [(Loc.slot 0 2,95),(((Loc.slot 0 2).cell 0).cell 0,71)],
 Cut.mk 41 3 (some [(96,10),(23,7036)]) (dD.mk false [[0,1,2,6,7,15,16],[3],[4,6,26,27,28]] [(Loc.slot 2 26,k5,true)] [((Loc.slot 0 2).cell 0,none),((Loc.slot 0 2).cell 1,none),(((Loc.slot 0 2).cell 1).cell 2,none),(Loc.slot 0 6,none),(Loc.slot 0 7,none),(Loc.slot 1 3,none),(Loc.slot 2 4,none),(Loc.slot 2 6,none)]) [(Loc.slot 0 2,97),(((Loc.slot 0 2).cell 0).cell 0,73)],
 Cut.mk 41 3 (some [(94,17),(23,7036)]) (dD.mk false [[0,1,2,6,7,15,16],[4],[4,6,26,27,28]] [(Loc.slot 2 26,k5,true)] [((Loc.slot 0 2).cell 0,none),((((Loc.slot 0 2).cell 0).cell 0).cell 0,none),((Loc.slot 0 2).cell 1,none),(((Loc.slot 0 2).cell 1).cell 2,none),(Loc.slot 0 6,none),(Loc.slot 0 7,none),(Loc.slot 1 4,none),(Loc.slot 2 4,none),(Loc.slot 2 6,none)]) [(Loc.slot 0 2,95),(((Loc.slot 0 2).cell 0).cell 0,100)],
 Cut.mk 41 3 (some [(96,10),(23,7036)]) (dD.mk false [[0,1,2,6,7,15,16],[3],[4,6,26,27,28]] [(Loc.slot 2 26,k5,true)] [((Loc.slot 0 2).cell 0,none),((((Loc.slot 0 2).cell 0).cell 0).cell 0,none),((Loc.slot 0 2).cell 1,none),(((Loc.slot 0 2).cell 1).cell 2,none),(Loc.slot 0 6,none),(Loc.slot 0 7,none),(Loc.slot 1 3,none),(Loc.slot 2 4,none),(Loc.slot 2 6,none)]) [(Loc.slot 0 2,97),(((Loc.slot 0 2).cell 0).cell 0,101)],
 Cut.mk 41 3 (some [(94,17),(93,27),(23,6036)]) (dD.mk false [[0,1,2,6,7,15,16],[4],[4],[4,6,9,26,27,28]] [(Loc.slot 3 26,k5,true)] [((Loc.slot 0 2).cell 0,none),((((Loc.slot 0 2).cell 0).cell 0).cell 0,none),((Loc.slot 0 2).cell 1,none),(((Loc.slot 0 2).cell 1).cell 2,none),(Loc.slot 0 6,none),(Loc.slot 0 7,none),(Loc.slot 1 4,none),(Loc.slot 2 4,none),(Loc.slot 3 4,none),(Loc.slot 3 6,none),(Loc.slot 3 9,none)]) [(Loc.slot 0 2,95),(((Loc.slot 0 2).cell 0).cell 0,92)],
 Cut.mk 41 3 (some [(94,17),(23,6036)]) (dD.mk false [[0,1,2,6,7,15,16],[4],[4,6,9,26,27,28]] [(Loc.slot 2 26,k5,true)] [((Loc.slot 0 2).cell 0,none),((Loc.slot 0 2).cell 1,none),(((Loc.slot 0 2).cell 1).cell 2,none),(Loc.slot 0 6,none),(Loc.slot 0 7,none),(Loc.slot 1 4,none),(Loc.slot 2 4,none),(Loc.slot 2 6,none),(Loc.slot 2 9,none)]) [(Loc.slot 0 2,95),(((Loc.slot 0 2).cell 0).cell 0,68)],
 Cut.mk 41 3 (some [(94,17),(23,6036)]) (dD.mk false [[0,1,2,6,7,15,16],[4],[4,6,9,26,27,28]] [(Loc.slot 2 26,k5,true)] [((Loc.slot 0 2).cell 0,none),((Loc.slot 0 2).cell 1,none),(((Loc.slot 0 2).cell 1).cell 2,none),(Loc.slot 0 6,none),(Loc.slot 0 7,none),(Loc.slot 1 4,none),(Loc.slot 2 4,none),(Loc.slot 2 6,none),(Loc.slot 2 9,none)]) [(Loc.slot 0 2,95),(((Loc.slot 0 2).cell 0).cell 0,69)],
 Cut.mk 41 3 (some [(94,17),(23,6036)]) (dD.mk false [[0,1,2,6,7,15,16],[4],[4,6,9,26,27,28]] [(Loc.slot 2 26,k5,true)] [((Loc.slot 0 2).cell 0,none),((Loc.slot 0 2).cell 1,none),(((Loc.slot 0 2).cell 1).cell 2,none),(Loc.slot 0 6,none),(Loc.slot 0 7,none),(Loc.slot 1 4,none),(Loc.slot 2 4,none),(Loc.slot 2 6,none),(Loc.slot 2 9,none)]) [(Loc.slot 0 2,95),(((Loc.slot 0 2).cell 0).cell 0,71)],
 Cut.mk 41 3 (some [(96,10),(23,6036)]) (dD.mk false [[0,1,2,6,7,15,16],[3],[4,6,9,26,27,28]] [(Loc.slot 2 26,k5,true)] [((Loc.slot 0 2).cell 0,none),((Loc.slot 0 2).cell 1,none),(((Loc.slot 0 2).cell 1).cell 2,none),(Loc.slot 0 6,none),(Loc.slot 0 7,none),(Loc.slot 1 3,none),(Loc.slot 2 4,none),(Loc.slot 2 6,none),(Loc.slot 2 9,none)]) [(Loc.slot 0 2,97),(((Loc.slot 0 2).cell 0).cell 0,73)],
 Cut.mk 41 3 (some [(94,17),(23,6036)]) (dD.mk false [[0,1,2,6,7,15,16],[4],[4,6,9,26,27,28]] [(Loc.slot 2 26,k5,true)] [((Loc.slot 0 2).cell 0,none),((((Loc.slot 0 2).cell 0).cell 0).cell 0,none),((Loc.slot 0 2).cell 1,none),(((Loc.slot 0 2).cell 1).cell 2,none),(Loc.slot 0 6,none),(Loc.slot 0 7,none),(Loc.slot 1 4,none),(Loc.slot 2 4,none),(Loc.slot 2 6,none),(Loc.slot 2 9,none)]) [(Loc.slot 0 2,95),(((Loc.slot 0 2).cell 0).cell 0,100)],
 Cut.mk 41 3 (some [(96,10),(23,6036)]) (dD.mk false [[0,1,2,6,7,15,16],[3],[4,6,9,26,27,28]] [(Loc.slot 2 26,k5,true)] [((Loc.slot 0 2).cell 0,none),((((Loc.slot 0 2).cell 0).cell 0).cell 0,none),((Loc.slot 0 2).cell 1,none),(((Loc.slot 0 2).cell 1).cell 2,none),(Loc.slot 0 6,none),(Loc.slot 0 7,none),(Loc.slot 1 3,none),(Loc.slot 2 4,none),(Loc.slot 2 6,none),(Loc.slot 2 9,none)]) [(Loc.slot 0 2,97),(((Loc.slot 0 2).cell 0).cell 0,101)],
 Cut.mk 41 7 (some [(94,17),(93,27),(23,7036)]) (dD.mk false [[0,1,2,6,7,8,9,15,16,24,25],[4],[4],[4,6,26,27,28]] [(Loc.slot 3 26,k5,true)] [((Loc.slot 0 2).cell 0,none),((((Loc.slot 0 2).cell 0).cell 0).cell 0,none),((Loc.slot 0 2).cell 1,none),(((Loc.slot 0 2).cell 1).cell 2,none),(Loc.slot 0 6,none),(Loc.slot 0 7,none),(Loc.slot 1 4,none),(Loc.slot 2 4,none),(Loc.slot 3 4,none),(Loc.slot 3 6,none)]) [(Loc.slot 0 2,95),(((Loc.slot 0 2).cell 0).cell 0,92)],
 Cut.mk 41 7 (some [(94,17),(23,7036)]) (dD.mk false [[0,1,2,6,7,8,9,15,16,24,25],[4],[4,6,26,27,28]] [(Loc.slot 2 26,k5,true)] [((Loc.slot 0 2).cell 0,none),((Loc.slot 0 2).cell 1,none),(((Loc.slot 0 2).cell 1).cell 2,none),(Loc.slot 0 6,none),(Loc.slot 0 7,none),(Loc.slot 1 4,none),(Loc.slot 2 4,none),(Loc.slot 2 6,none)]) [(Loc.slot 0 2,95),(((Loc.slot 0 2).cell 0).cell 0,68)],
 Cut.mk 41 7 (some [(94,17),(23,7036)]) (dD.mk false [[0,1,2,6,7,8,9,15,16,24,25],[4],[4,6,26,27,28]] [(Loc.slot 2 26,k5,true)] [((Loc.slot 0 2).cell 0,none),((Loc.slot 0 2).cell 1,none),(((Loc.slot 0 2).cell 1).cell 2,none),(Loc.slot 0 6,none),(Loc.slot 0 7,none),(Loc.slot 1 4,none),(Loc.slot 2 4,none),(Loc.slot 2 6,none)]) [(Loc.slot 0 2,95),(((Loc.slot 0 2).cell 0).cell 0,69)],
 Cut.mk 41 7 (some [(94,17),(23,7036)]) (dD.mk false [[0,1,2,6,7,8,9,15,16,24,25],[4],[4,6,26,27,28]] [(Loc.slot 2 26,k5,true)] [((Loc.slot 0 2).cell 0,none),((Loc.slot 0 2).cell 1,none),(((Loc.slot 0 2).cell 1).cell 2,none),(Loc.slot 0 6,none),(Loc.slot 0 7,none),(Loc.slot 1 4,none),(Loc.slot 2 4,none),(Loc.slot 2 6,none)]) [(Loc.slot 0 2,95),(((Loc.slot 0 2).cell 0).cell 0,71)],
 Cut.mk 41 7 (some [(96,10),(23,7036)]) (dD.mk false [[0,1,2,6,7,8,9,15,16,24,25],[3],[4,6,26,27,28]] [(Loc.slot 2 26,k5,true)] [((Loc.slot 0 2).cell 0,none),((Loc.slot 0 2).cell 1,none),(((Loc.slot 0 2).cell 1).cell 2,none),(Loc.slot 0 6,none),(Loc.slot 0 7,none),(Loc.slot 1 3,none),(Loc.slot 2 4,none),(Loc.slot 2 6,none)]) [(Loc.slot 0 2,97),(((Loc.slot 0 2).cell 0).cell 0,73)],
 Cut.mk 41 7 (some [(94,17),(23,7036)]) (dD.mk false [[0,1,2,6,7,8,9,15,16,24,25],[4],[4,6,26,27,28]] [(Loc.slot 2 26,k5,true)] [((Loc.slot 0 2).cell 0,none),((((Loc.slot 0 2).cell 0).cell 0).cell 0,none),((Loc.slot 0 2).cell 1,none),(((Loc.slot 0 2).cell 1).cell 2,none),(Loc.slot 0 6,none),(Loc.slot 0 7,none),(Loc.slot 1 4,none),(Loc.slot 2 4,none),(Loc.slot 2 6,none)]) [(Loc.slot 0 2,95),(((Loc.slot 0 2).cell 0).cell 0,100)],
 Cut.mk 41 7 (some [(96,10),(23,7036)]) (dD.mk false [[0,1,2,6,7,8,9,15,16,24,25],[3],[4,6,26,27,28]] [(Loc.slot 2 26,k5,true)] [((Loc.slot 0 2).cell 0,none),((((Loc.slot 0 2).cell 0).cell 0).cell 0,none),((Loc.slot 0 2).cell 1,none),(((Loc.slot 0 2).cell 1).cell 2,none),(Loc.slot 0 6,none),(Loc.slot 0 7,none),(Loc.slot 1 3,none),(Loc.slot 2 4,none),(Loc.slot 2 6,none)]) [(Loc.slot 0 2,97),(((Loc.slot 0 2).cell 0).cell 0,101)],
 Cut.mk 41 7 (some [(94,17),(93,27),(23,6036)]) (dD.mk false [[0,1,2,6,7,8,9,15,16,24,25],[4],[4],[4,6,9,26,27,28]] [(Loc.slot 3 26,k5,true)] [((Loc.slot 0 2).cell 0,none),((((Loc.slot 0 2).cell 0).cell 0).cell 0,none),((Loc.slot 0 2).cell 1,none),(((Loc.slot 0 2).cell 1).cell 2,none),(Loc.slot 0 6,none),(Loc.slot 0 7,none),(Loc.slot 1 4,none),(Loc.slot 2 4,none),(Loc.slot 3 4,none),(Loc.slot 3 6,none),(Loc.slot 3 9,none)]) [(Loc.slot 0 2,95),(((Loc.slot 0 2).cell 0).cell 0,92)],
 Cut.mk 41 7 (some [(94,17),(23,6036)]) (dD.mk false [[0,1,2,6,7,8,9,15,16,24,25],[4],[4,6,9,26,27,28]] [(Loc.slot 2 26,k5,true)] [((Loc.slot 0 2).cell 0,none),((Loc.slot 0 2).cell 1,none),(((Loc.slot 0 2).cell 1).cell 2,none),(Loc.slot 0 6,none),(Loc.slot 0 7,none),(Loc.slot 1 4,none),(Loc.slot 2 4,none),(Loc.slot 2 6,none),(Loc.slot 2 9,none)]) [(Loc.slot 0 2,95),(((Loc.slot 0 2).cell 0).cell 0,68)],
 Cut.mk 41 7 (some [(94,17),(23,6036)]) (dD.mk false [[0,1,2,6,7,8,9,15,16,24,25],[4],[4,6,9,26,27,28]] [(Loc.slot 2 26,k5,true)] [((Loc.slot 0 2).cell 0,none),((Loc.slot 0 2).cell 1,none),(((Loc.slot 0 2).cell 1).cell 2,none),(Loc.slot 0 6,none),(Loc.slot 0 7,none),(Loc.slot 1 4,none),(Loc.slot 2 4,none),(Loc.slot 2 6,none),(Loc.slot 2 9,none)]) [(Loc.slot 0 2,95),(((Loc.slot 0 2).cell 0).cell 0,69)],
 Cut.mk 41 7 (some [(94,17),(23,6036)]) (dD.mk false [[0,1,2,6,7,8,9,15,16,24,25],[4],[4,6,9,26,27,28]] [(Loc.slot 2 26,k5,true)] [((Loc.slot 0 2).cell 0,none),((Loc.slot 0 2).cell 1,none),(((Loc.slot 0 2).cell 1).cell 2,none),(Loc.slot 0 6,none),(Loc.slot 0 7,none),(Loc.slot 1 4,none),(Loc.slot 2 4,none),(Loc.slot 2 6,none),(Loc.slot 2 9,none)]) [(Loc.slot 0 2,95),(((Loc.slot 0 2).cell 0).cell 0,71)],
 Cut.mk 41 7 (some [(96,10),(23,6036)]) (dD.mk false [[0,1,2,6,7,8,9,15,16,24,25],[3],[4,6,9,26,27,28]] [(Loc.slot 2 26,k5,true)] [((Loc.slot 0 2).cell 0,none),((Loc.slot 0 2).cell 1,none),(((Loc.slot 0 2).cell 1).cell 2,none),(Loc.slot 0 6,none),(Loc.slot 0 7,none),(Loc.slot 1 3,none),(Loc.slot 2 4,none),(Loc.slot 2 6,none),(Loc.slot 2 9,none)]) [(Loc.slot 0 2,97),(((Loc.slot 0 2).cell 0).cell 0,73)],
 Cut.mk 41 7 (some [(94,17),(23,6036)]) (dD.mk false [[0,1,2,6,7,8,9,15,16,24,25],[4],[4,6,9,26,27,28]] [(Loc.slot 2 26,k5,true)] [((Loc.slot 0 2).cell 0,none),((((Loc.slot 0 2).cell 0).cell 0).cell 0,none),((Loc.slot 0 2).cell 1,none),(((Loc.slot 0 2).cell 1).cell 2,none),(Loc.slot 0 6,none),(Loc.slot 0 7,none),(Loc.slot 1 4,none),(Loc.slot 2 4,none),(Loc.slot 2 6,none),(Loc.slot 2 9,none)]) [(Loc.slot 0 2,95),(((Loc.slot 0 2).cell 0).cell 0,100)],
 Cut.mk 41 7 (some [(96,10),(23,6036)]) (dD.mk false [[0,1,2,6,7,8,9,15,16,24,25],[3],[4,6,9,26,27,28]] [(Loc.slot 2 26,k5,true)] [((Loc.slot 0 2).cell 0,none),((((Loc.slot 0 2).cell 0).cell 0).cell 0,none),((Loc.slot 0 2).cell 1,none),(((Loc.slot 0 2).cell 1).cell 2,none),(Loc.slot 0 6,none),(Loc.slot 0 7,none),(Loc.slot 1 3,none),(Loc.slot 2 4,none),(Loc.slot 2 6,none),(Loc.slot 2 9,none)]) [(Loc.slot 0 2,97),(((Loc.slot 0 2).cell 0).cell 0,101)],
 Cut.mk 25 2 (some []) (dD.mk false [[0,3]] [(Loc.slot 0 0,k5,true)] []) [],
 Cut.mk 27 5 (some []) (dD.mk false [[1,4,6,7]] [(Loc.slot 0 1,k5,true)] [(Loc.slot 0 4,none),(Loc.slot 0 6,none),((Loc.slot 0 6).cell 2,none)]) [],
 Cut.mk 30 4 (some []) (dD.mk false [[8,9,10]] [(Loc.slot 0 8,k5,true)] []) [],
 Cut.mk 34 3 (some []) (dD.mk false [[0,1,5,6]] [((Loc.slot 0 0).cell 0,ku,false)] [(Loc.slot 0 0,none),(Loc.slot 0 5,none)]) [],
 Cut.mk 34 8 (some []) (dD.mk false [[0,1,5]] [((Loc.slot 0 0).cell 0,ku,false)] [(Loc.slot 0 0,none),(Loc.slot 0 5,none)]) [],
 Cut.mk 34 9 (some []) (dD.mk false [[0,5]] [((Loc.slot 0 0).cell 0,ku,false)] [(Loc.slot 0 0,none),(Loc.slot 0 5,none)]) [],
 Cut.mk 39 4 (some []) (dD.mk false [[27,28,29]] [(Loc.slot 0 27,k4,true)] []) [],
 Cut.mk 48 4 (some []) (dD.mk false [[1,3]] [((Loc.slot 0 1).cell 2,k4,true)] [(Loc.slot 0 1,none)]) [],
 Cut.mk 55 3 (some []) (dD.mk false [[0,5,6]] [((Loc.slot 0 0).cell 0,ku,false)] [(Loc.slot 0 0,none),(Loc.slot 0 5,none)]) [],
 Cut.mk 56 4 (some []) (dD.mk false [[0,1,4,5,6,7]] [((Loc.slot 0 0).cell 0,ku,false)] [(Loc.slot 0 0,none),(Loc.slot 0 4,none),(Loc.slot 0 5,none),((Loc.slot 0 5).cell 2,some k4),(Loc.slot 0 6,none)]) [],
 Cut.mk 60 9 (some []) (dD.mk false [[0,1,4,5]] [((Loc.slot 0 0).cell 0,ku,false)] [(Loc.slot 0 0,none),(Loc.slot 0 4,none),(Loc.slot 0 5,none)]) [],
 Cut.mk 63 3 (some []) (dD.mk false [[3,4,7,8,9]] [(Loc.slot 0 7,ku,true)] []) [],
 Cut.mk 41 3 (some [(74,9)]) (dD.mk false [[0,1,2,6,7,15,16],[2]] [(((Loc.slot 0 2).cell 0).cell 2,k4,true)] [((Loc.slot 0 2).cell 0,none),(Loc.slot 0 6,none),(Loc.slot 0 7,none),(Loc.slot 1 2,none)]) [(Loc.slot 0 2,98)],
 Cut.mk 41 7 (some [(74,9)]) (dD.mk false [[0,1,2,6,7,8,9,15,16,24,25],[2]] [(((Loc.slot 0 2).cell 0).cell 2,k4,true)] [((Loc.slot 0 2).cell 0,none),(Loc.slot 0 6,none),(Loc.slot 0 7,none),(Loc.slot 1 2,none)]) [(Loc.slot 0 2,98)],
 Cut.mk 98 4 (some [(41,33),(74,9)]) (dD.mk false [[0,1,2,5,6,7,8],[0,1,2,6,7,8,9,15,16,24,25,28,29],[2]] [((Loc.slot 0 2).cell 2,k4,true)] [(Loc.slot 0 2,none),(Loc.slot 0 5,none),(Loc.slot 0 6,none),(Loc.slot 1 6,none),(Loc.slot 1 7,none),(Loc.slot 2 2,none)]) [(Loc.slot 1 2,98)],
 Cut.mk 98 7 (some [(41,33),(74,9)]) (dD.mk false [[0,1,2,5,6,7,8,9],[0,1,2,6,7,8,9,15,16,24,25,28,29],[2]] [((Loc.slot 0 2).cell 2,k4,true)] [(Loc.slot 0 2,none),(Loc.slot 0 5,none),(Loc.slot 0 6,none),(Loc.slot 1 6,none),(Loc.slot 1 7,none),(Loc.slot 2 2,none)]) [(Loc.slot 1 2,98)],
 Cut.mk 77 7 (some []) (dD.mk false [[0,2,4,5]] [(Loc.slot 0 0,ku,true)] [(Loc.slot 0 2,none),(Loc.slot 0 4,none),((Loc.slot 0 4).cell 2,some k4)]) [],
 Cut.mk 78 3 (some []) (dD.mk false [[1,2,3,4]] [((Loc.slot 0 1).cell 2,k4,true)] [(Loc.slot 0 1,none),(Loc.slot 0 2,none),(Loc.slot 0 3,none),((Loc.slot 0 3).cell 2,some k4)]) [],
 Cut.mk 79 5 (some []) (dD.mk false [[0,2,4,5]] [(Loc.slot 0 0,ku,true)] [(Loc.slot 0 2,none),(Loc.slot 0 4,none),((Loc.slot 0 4).cell 2,some k4)]) [],
 Cut.mk 79 8 (some []) (dD.mk false [[0,2,4,5,6]] [(Loc.slot 0 0,ku,true)] [(Loc.slot 0 2,none),(Loc.slot 0 4,none),((Loc.slot 0 4).cell 2,some k4)]) [],
 Cut.mk 80 5 (some []) (dD.mk false [[0,4,5,6,7]] [(Loc.slot 0 0,ku,true),(Loc.slot 0 6,ku,false)] [(Loc.slot 0 4,none),(Loc.slot 0 5,none)]) [],
 Cut.mk 81 4 (some []) (dD.mk false [[0,3,4,5]] [(Loc.slot 0 0,ku,true)] []) [],
 Cut.mk 83 3 (some []) (dD.mk false [[2,3,4,5,6]] [((Loc.slot 0 2).cell 2,k4,true)] [(Loc.slot 0 2,none),(Loc.slot 0 3,none),(Loc.slot 0 4,none),(Loc.slot 0 5,none),((Loc.slot 0 5).cell 2,some k4)]) [],
 Cut.mk 83 6 (some []) (dD.mk false [[2,3,4,5,6,7]] [((Loc.slot 0 2).cell 2,k4,true)] [(Loc.slot 0 2,none),(Loc.slot 0 3,none),(Loc.slot 0 4,none),(Loc.slot 0 5,none),((Loc.slot 0 5).cell 2,some k4)]) [],
 Cut.mk 84 3 (some []) (dD.mk false [[1,2,3,4]] [((Loc.slot 0 1).cell 2,k4,true)] [(Loc.slot 0 1,none),(Loc.slot 0 2,none),(Loc.slot 0 3,none),((Loc.slot 0 3).cell 2,some k4)]) [],
 Cut.mk 84 6 (some []) (dD.mk false [[1,2,3,4,5]] [((Loc.slot 0 1).cell 2,k4,true)] [(Loc.slot 0 1,none),(Loc.slot 0 2,none),(Loc.slot 0 3,none),((Loc.slot 0 3).cell 2,some k4)]) [],
 Cut.mk 85 3 (some []) (dD.mk false [[1,2,3,4]] [((Loc.slot 0 1).cell 2,k4,true)] [(Loc.slot 0 1,none),(Loc.slot 0 2,none),(Loc.slot 0 3,none),((Loc.slot 0 3).cell 2,some k4)]) [],
 Cut.mk 85 6 (some []) (dD.mk false [[1,2,3,4,5]] [((Loc.slot 0 1).cell 2,k4,true)] [(Loc.slot 0 1,none),(Loc.slot 0 2,none),(Loc.slot 0 3,none),((Loc.slot 0 3).cell 2,some k4)]) [],
 Cut.mk 86 3 (some []) (dD.mk false [[2,3,4,5,6]] [((Loc.slot 0 2).cell 2,k4,true)] [(Loc.slot 0 2,none),(Loc.slot 0 3,none),(Loc.slot 0 4,none),(Loc.slot 0 5,none),((Loc.slot 0 5).cell 2,some k4)]) [],
 Cut.mk 86 6 (some []) (dD.mk false [[2,3,4,5,6,7]] [((Loc.slot 0 2).cell 2,k4,true)] [(Loc.slot 0 2,none),(Loc.slot 0 3,none),(Loc.slot 0 4,none),(Loc.slot 0 5,none),((Loc.slot 0 5).cell 2,some k4)]) [],
 Cut.mk 87 3 (some []) (dD.mk false [[2,3,4,5,6]] [((Loc.slot 0 2).cell 2,k4,true)] [(Loc.slot 0 2,none),(Loc.slot 0 3,none),(Loc.slot 0 4,none),(Loc.slot 0 5,none),((Loc.slot 0 5).cell 2,some k4)]) [],
 Cut.mk 103 5 (some []) (dD.mk false [[0,1,2,8,9]] [(Loc.slot 0 0,ku,true)] []) [],
 Cut.mk 104 2 (some []) (dD.mk false [[0,5]] [(Loc.slot 0 0,ku,true)] []) [],
 Cut.mk 107 4 (some []) (dD.mk false [[1,2,3,6,7,8,9]] [((Loc.slot 0 3).cell 2,k4,true)] [(Loc.slot 0 3,none),(Loc.slot 0 6,none),(Loc.slot 0 8,none)]) [],
 Cut.mk 107 7 (some []) (dD.mk false [[1,2,3,6,7,8,9,10]] [((Loc.slot 0 3).cell 2,k4,true)] [(Loc.slot 0 3,none),(Loc.slot 0 6,none),(Loc.slot 0 8,none)]) [],
 Cut.mk 109 3 (some []) (dD.mk false [[1,3,4]] [((Loc.slot 0 1).cell 2,k4,true)] [(Loc.slot 0 1,none),(Loc.slot 0 3,none)]) [],
 Cut.mk 110 3 (some []) (dD.mk false [[1,3,4]] [((Loc.slot 0 1).cell 2,k4,true)] [(Loc.slot 0 1,none),(Loc.slot 0 3,none)]) [],
 Cut.mk 110 5 (some []) (dD.mk false [[1,3,4,5]] [((Loc.slot 0 1).cell 2,k4,true)] [(Loc.slot 0 1,none),(Loc.slot 0 3,none)]) [],
 Cut.mk 111 6 (some []) (dD.mk false [[0,3,4,5]] [(Loc.slot 0 0,ku,true)] [(Loc.slot 0 3,none),(Loc.slot 0 4,none)]) [],
 Cut.mk 111 8 (some []) (dD.mk false [[0,3,4,5,6]] [(Loc.slot 0 0,ku,true)] [(Loc.slot 0 3,none),(Loc.slot 0 4,none)]) [],
 Cut.mk 113 4 (some []) (dD.mk false [[0,3,4,5]] [(Loc.slot 0 0,cZ.cons (CT.int IntKind.i64) (cZ.one (CT.int IntKind.i64)),true)] [(Loc.slot 0 3,none)]) [],
 Cut.mk 113 9 (some []) (dD.mk false [[0,3,4,5,6]] [(Loc.slot 0 0,cZ.cons (CT.int IntKind.i64) (cZ.one (CT.int IntKind.i64)),true)] [(Loc.slot 0 3,none)]) [],
 Cut.mk 114 2 (some []) (dD.mk false [[0,1,5]] [(Loc.slot 0 0,cZ.one (CT.sl ku),true),(Loc.slot 0 1,ku,true)] []) [],
 Cut.mk 41 3 (some [(133,40)]) (dD.mk false [[0,1,2,6,7,15,16],[2]] [(((Loc.slot 0 2).cell 0).cell 0,ku,true)] [((Loc.slot 0 2).cell 0,none),((Loc.slot 0 2).cell 1,none),(Loc.slot 0 6,none),(Loc.slot 0 7,none),(Loc.slot 1 2,none)]) [(Loc.slot 0 2,135)],
 Cut.mk 41 7 (some [(133,40)]) (dD.mk false [[0,1,2,6,7,8,9,15,16,24,25],[2]] [(((Loc.slot 0 2).cell 0).cell 0,ku,true)] [((Loc.slot 0 2).cell 0,none),((Loc.slot 0 2).cell 1,none),(Loc.slot 0 6,none),(Loc.slot 0 7,none),(Loc.slot 1 2,none)]) [(Loc.slot 0 2,135)],
 Cut.mk 134 6 (some []) (dD.mk false [[1,3,26,27]] [((Loc.slot 0 1).cell 2,k4,true)] [(Loc.slot 0 1,none),(Loc.slot 0 3,none)]) [],
 Cut.mk 134 9 (some []) (dD.mk false [[1,3,26,27,35,36,37]] [((Loc.slot 0 1).cell 2,k4,true),(Loc.slot 0 35,k4,true)] [(Loc.slot 0 1,none),(Loc.slot 0 3,none)]) [],
 Cut.mk 41 3 (some [(140,8)]) (dD.mk false [[0,1,2,6,7,15,16],[2]] [(((Loc.slot 0 2).cell 0).cell 2,k4,true)] [((Loc.slot 0 2).cell 0,none),(Loc.slot 0 6,none),(Loc.slot 0 7,none),(Loc.slot 1 2,none)]) [(Loc.slot 0 2,141)],
 Cut.mk 41 7 (some [(140,8)]) (dD.mk false [[0,1,2,6,7,8,9,15,16,24,25],[2]] [(((Loc.slot 0 2).cell 0).cell 2,k4,true)] [((Loc.slot 0 2).cell 0,none),(Loc.slot 0 6,none),(Loc.slot 0 7,none),(Loc.slot 1 2,none)]) [(Loc.slot 0 2,141)],
 Cut.mk 142 8 (some []) (dD.mk false [[4,6,7,8,9]] [(Loc.slot 0 9,ku,true)] [(Loc.slot 0 4,none),(Loc.slot 0 8,none)]) [],
 Cut.mk 142 15 (some []) (dD.mk false [[4,6,7,8,9,11,71,72]] [(Loc.slot 0 9,ku,true)] [(Loc.slot 0 4,none),(Loc.slot 0 8,none),(Loc.slot 0 11,none)]) [],
 Cut.mk 143 3 (some []) (dD.mk false [[3,5,6]] [((Loc.slot 0 3).cell 2,k4,true)] [(Loc.slot 0 3,none),(Loc.slot 0 5,none)]) [],
 Cut.mk 143 5 (some []) (dD.mk false [[3,5,6,7]] [((Loc.slot 0 3).cell 2,k4,true)] [(Loc.slot 0 3,none),(Loc.slot 0 5,none)]) [],
 Cut.mk 146 3 (some []) (dD.mk false [[0,4,5]] [(Loc.slot 0 0,ku,true),((Loc.slot 0 4).cell 0,ku,true)] [(Loc.slot 0 4,none),(Loc.slot 0 5,none),((Loc.slot 0 5).cell 0,some ku),((Loc.slot 0 5).cell 1,some (cZ.cons (CT.int IntKind.i64) (cZ.one (CT.int IntKind.i64))))]) [],
 Cut.mk 148 6 (some [(146,9)]) (dD.mk false [[0,5,44,45],[0,4,5]] [((Loc.slot 0 0).cell 0,ku,true),(Loc.slot 1 0,ku,true)] [(Loc.slot 0 0,none),(Loc.slot 1 5,none),((Loc.slot 1 5).cell 0,some ku),((Loc.slot 1 5).cell 1,some (cZ.cons (CT.int IntKind.i64) (cZ.one (CT.int IntKind.i64))))]) [],
 Cut.mk 149 5 (some []) (dD.mk false [[0,1,5]] [] [(Loc.slot 0 0,none),((Loc.slot 0 0).cell 0,none),((Loc.slot 0 0).cell 1,none)]) [],
 Cut.mk 149 14 (some []) (dD.mk false [[0,5]] [] [(Loc.slot 0 0,none),((Loc.slot 0 0).cell 0,none),((Loc.slot 0 0).cell 1,none)]) [],
 Cut.mk 149 10 (some []) (dD.mk false [[0,5,6,81,82]] [] [(Loc.slot 0 0,none),((Loc.slot 0 0).cell 0,none),((Loc.slot 0 0).cell 1,none),(Loc.slot 0 6,none)]) [],
 Cut.mk 154 3 (some []) (dD.mk false [[3,6,7,8]] [(Loc.slot 0 6,cZ.cons (CT.int IntKind.i64) (cZ.one (CT.int IntKind.i64)),true)] [(Loc.slot 0 3,none),((Loc.slot 0 3).cell 0,some ku)]) [],
 Cut.mk 155 4 (some []) (dD.mk false [[0,3,28,29]] [] [(Loc.slot 0 0,none),((Loc.slot 0 0).cell 0,none),(Loc.slot 0 3,none)]) []]
noncomputable def C : kG := ⟨tys,fns,sigs,cuts,ou,subs,NJ,VE⟩
noncomputable def pr : ak := fun _ _ _ => none
abbrev dd : ak := D C pr
abbrev LL (s : fM) : St -> Option s.B := L C pr s
theorem eL {s : fM} {q : St} {r : s.B} (h : from_ C dd s (LL s) q = some r) : LL s q = some r := LZ h
theorem dL {f : FuncId} {s : fM} {a : s.A} {r : s.B} (hp : pr f s a = none) (h : body C dd f s (LL s) a = some r) : dd f s a = some r := Rh hp h
end
end T
end
