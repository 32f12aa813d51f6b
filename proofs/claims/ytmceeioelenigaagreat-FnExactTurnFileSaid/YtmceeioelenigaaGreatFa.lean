/- The configuration: types, functions, cuts, orders. -/
import Derived.Test.YtmceeioelenigaaGreatProg
import Derived.KernelRfl
import Derived.Test.YtmceeioelenigaaGreatEh
section
namespace Go.E
def wi (x : Int) : Int := IntKind.i64.wrap x
def wb (x : Int) : Int := IntKind.u8.wrap x
def ln {α : Type} (l : List α) : Int := (l.length : Int)
def gt {α : Type} (l : List α) (i : Int) (z : α) : α := l.getD i.toNat z
end Go.E
namespace T
abbrev I4 := Int × Int × Int × Int
abbrev I5 := Int × I4
abbrev Rs := Int × Int × List I4
abbrev zp : I4 := (0, 0, 0, 0)
abbrev zo : I5 := (0, 0, 0, 0, 0)
open Go.E
abbrev k4 : CTs := .cons (.int .i64) (.cons (.int .i64) (.cons (.int .i64) (.one (.int .i64))))
abbrev k5 : CTs := .cons (.int .i64) k4
abbrev ku : CTs := .one (.int .u8)
def m1 (o : List I5) (i c : Int) : List I5 := o.set i.toNat (c,(gt o i zo).snd)
def m2 (o : List I5) (i c : Int) : List I5 := o.set i.toNat ((gt o i zo).fst,c,(gt o i zo).snd.snd)
def m3 (o : List I5) (i c : Int) : List I5 := o.set i.toNat ((gt o i zo).fst,(gt o i zo).snd.fst,c,(gt o i zo).snd.snd.snd)
def m4 (o : List I5) (i c : Int) : List I5 := o.set i.toNat ((gt o i zo).fst,(gt o i zo).snd.fst,(gt o i zo).snd.snd.fst,c,(gt o i zo).snd.snd.snd.snd)
def m5 (o : List I5) (i c : Int) : List I5 := o.set i.toNat ((gt o i zo).fst,(gt o i zo).snd.fst,(gt o i zo).snd.snd.fst,(gt o i zo).snd.snd.snd.fst,c)
abbrev kr : CTs := .cons (.int .i64) (.cons (.int .i64) (.one (.sl k4)))
abbrev kt : CTs := .one .bool
abbrev pb : PT := ⟨.one .bool, []⟩
abbrev pr0 : PT := ⟨.agg kr, [.ro]⟩
abbrev pr1 : PT := ⟨.agg kr, [.mv]⟩
abbrev pi0 : PT := ⟨.one (.int .i64), []⟩
abbrev pu0 : PT := ⟨.one (.sl ku), [.ro]⟩
abbrev pu1 : PT := ⟨.one (.sl ku), [.mv]⟩
abbrev iv (x : Int) : AV := .int .i64 x
abbrev uv (x : Int) : AV := .int .u8 x
end T
end
section
namespace T
noncomputable section
open Go Go.E Go.Proofs
noncomputable def tys : List (Nat × TI) := [
 (1,{ size := 1,bytes := 8,kd := 3,zero := [.nilfunc] }),
 (2,{ size := 1,bytes := 8,kd := 11,zero := [.int .i64 0],row := some (.one (.int .i64)) }),
 (3,{ size := 1,bytes := 8,kd := 11,zero := [.int .i64 0],row := some (.one (.int .i64)) }),
 (4,{ size := 1,bytes := 1,kd := 10,zero := [.bool false],row := some kt }),
 (5,{ size := 1,bytes := 1,kd := 11,zero := [.int .u8 0],row := some ku }),
 (6,{ size := 1,bytes := 1,kd := 11,zero := [.int .u8 0],row := some ku }),
 (7,{ size := 4,bytes := 24,kd := 6,agg := true,fields := [(0,2),(1,3),(2,4),(3,6)],cmp := [.int .i64,.int .i64,.bool,.int .u8],zero := [.int .i64 0,.int .i64 0,.bool false,.int .u8 0],row := some (.cons (.int .i64) (.cons (.int .i64) (.cons (.bool) ku))) }),
 (8,{ size := 4,bytes := 24,kd := 6,agg := true,fields := [(0,2),(1,3),(2,4),(3,6)],cmp := [.int .i64,.int .i64,.bool,.int .u8],zero := [.int .i64 0,.int .i64 0,.bool false,.int .u8 0],row := some (.cons (.int .i64) (.cons (.int .i64) (.cons (.bool) ku))) }),
 (9,{ size := 1,bytes := 16,kd := 9,zero := [.str ⟨#[]⟩],row := some (.one (.str)) }),
 (10,{ size := 1,bytes := 16,kd := 9,zero := [.str ⟨#[]⟩],row := some (.one (.str)) }),
 (11,{ size := 1,bytes := 16,kd := 9,zero := [.str ⟨#[]⟩],row := some (.one (.str)) }),
 (12,{ size := 1,bytes := 8,kd := 11,zero := [.int .u64 0],row := some (.one (.int .u64)) }),
 (15,{ size := 1,bytes := 8,kd := 1,elem := 125,zero := [.nilptr] }),
 (16,{ size := 1,bytes := 8,kd := 1,elem := 128,zero := [.nilptr] }),
 (17,{ size := 1,bytes := 8,kd := 1,elem := 138,zero := [.nilptr] }),
 (18,{ size := 1,bytes := 8,kd := 6,agg := true,fields := [(0,17)],zero := [.nilptr] }),
 (19,{ size := 1,bytes := 8,kd := 6,agg := true,fields := [(0,17)],zero := [.nilptr] }),
 (20,{ size := 1,bytes := 16,kd := 2,zero := [.nilif] }),
 (21,{ size := 1,bytes := 4,kd := 11,zero := [.int .i32 0],row := some (.one (.int .i32)) }),
 (22,{ size := 1,bytes := 24,kd := 4,elem := 5,zero := [.nilsl],row := some (.one (.sl ku)) }),
 (23,{ size := 1,bytes := 24,kd := 4,elem := 53,zero := [.nilsl],row := some (.one (.sl k5)) }),
 (24,{ size := 1,bytes := 8,kd := 3,zero := [.nilfunc] }),
 (26,{ size := 1,bytes := 8,kd := 3,zero := [.nilfunc] }),
 (27,{ size := 1,bytes := 8,kd := 3,zero := [.nilfunc] }),
 (28,{ size := 1,bytes := 24,kd := 4,elem := 40,zero := [.nilsl],row := some (.one (.sl k5)) }),
 (29,{ size := 1,bytes := 8,kd := 3,zero := [.nilfunc] }),
 (30,{ size := 1,bytes := 8,kd := 3,zero := [.nilfunc] }),
 (31,{ size := 1,bytes := 8,kd := 3,zero := [.nilfunc] }),
 (32,{ size := 1,bytes := 8,kd := 3,zero := [.nilfunc] }),
 (33,{ size := 1,bytes := 8,kd := 3,zero := [.nilfunc] }),
 (34,{ size := 1,bytes := 8,kd := 3,zero := [.nilfunc] }),
 (36,{ size := 1,bytes := 8,kd := 3,zero := [.nilfunc] }),
 (37,{ size := 1,bytes := 8,kd := 3,zero := [.nilfunc] }),
 (38,{ size := 1,bytes := 8,kd := 3,zero := [.nilfunc] }),
 (39,{ size := 5,bytes := 40,kd := 6,agg := true,fields := [(0,3),(1,3),(2,3),(3,3),(4,3)],cmp := [.int .i64,.int .i64,.int .i64,.int .i64,.int .i64],zero := [.int .i64 0,.int .i64 0,.int .i64 0,.int .i64 0,.int .i64 0],row := some k5 }),
 (40,{ size := 5,bytes := 40,kd := 6,agg := true,fields := [(0,3),(1,3),(2,3),(3,3),(4,3)],cmp := [.int .i64,.int .i64,.int .i64,.int .i64,.int .i64],zero := [.int .i64 0,.int .i64 0,.int .i64 0,.int .i64 0,.int .i64 0],row := some k5 }),
 (41,{ size := 1,bytes := 24,kd := 4,elem := 61,zero := [.nilsl],row := some (.one (.sl k4)) }),
 (42,{ size := 3,bytes := 40,kd := 6,agg := true,fields := [(0,3),(1,3),(2,41)],zero := [.int .i64 0,.int .i64 0,.nilsl],row := some kr }),
 (43,{ size := 3,bytes := 40,kd := 6,agg := true,fields := [(0,3),(1,3),(2,41)],zero := [.int .i64 0,.int .i64 0,.nilsl],row := some kr }),
 (45,{ size := 1,bytes := 8,kd := 3,zero := [.nilfunc] }),
 (46,{ size := 1,bytes := 8,kd := 3,zero := [.nilfunc] }),
 (47,{ size := 1,bytes := 8,kd := 3,zero := [.nilfunc] }),
 (49,{ size := 1,bytes := 8,kd := 3,zero := [.nilfunc] }),
 (50,{ size := 1,bytes := 8,kd := 3,zero := [.nilfunc] }),
 (51,{ size := 1,bytes := 8,kd := 3,zero := [.nilfunc] }),
 (52,{ size := 1,bytes := 8,kd := 3,zero := [.nilfunc] }),
 (53,{ size := 5,bytes := 40,kd := 6,agg := true,fields := [(0,3),(1,3),(2,3),(3,3),(4,3)],cmp := [.int .i64,.int .i64,.int .i64,.int .i64,.int .i64],zero := [.int .i64 0,.int .i64 0,.int .i64 0,.int .i64 0,.int .i64 0],row := some k5 }),
 (54,{ size := 1,bytes := 8,kd := 3,zero := [.nilfunc] }),
 (55,{ size := 1,bytes := 8,kd := 1,elem := 83,zero := [.nilptr] }),
 (56,{ size := 1,bytes := 8,kd := 3,zero := [.nilfunc] }),
 (57,{ size := 1,bytes := 8,kd := 3,zero := [.nilfunc] }),
 (58,{ size := 1,bytes := 8,kd := 3,zero := [.nilfunc] }),
 (59,{ size := 1,bytes := 8,kd := 3,zero := [.nilfunc] }),
 (60,{ size := 4,bytes := 32,kd := 6,agg := true,fields := [(0,3),(1,3),(2,3),(3,3)],cmp := [.int .i64,.int .i64,.int .i64,.int .i64],zero := [.int .i64 0,.int .i64 0,.int .i64 0,.int .i64 0],row := some k4 }),
 (61,{ size := 4,bytes := 32,kd := 6,agg := true,fields := [(0,3),(1,3),(2,3),(3,3)],cmp := [.int .i64,.int .i64,.int .i64,.int .i64],zero := [.int .i64 0,.int .i64 0,.int .i64 0,.int .i64 0],row := some k4 }),
 (62,{ size := 1,bytes := 8,kd := 3,zero := [.nilfunc] }),
 (63,{ size := 1,bytes := 16,kd := 2,zero := [.nilif] }),
 (64,{ size := 1,bytes := 16,kd := 2,zero := [.nilif] }),
 (65,{ size := 1,bytes := 8,kd := 3,zero := [.nilfunc] }),
 (67,{ size := 1,bytes := 8,kd := 3,zero := [.nilfunc] }),
 (68,{ size := 1,bytes := 8,kd := 3,zero := [.nilfunc] }),
 (69,{ size := 1,bytes := 8,kd := 3,zero := [.nilfunc] }),
 (70,{ size := 4,bytes := 4,kd := 5,agg := true,elem := 5,len := 4,cmp := [.int .u8,.int .u8,.int .u8,.int .u8],zero := [.int .u8 0,.int .u8 0,.int .u8 0,.int .u8 0] }),
 (71,{ size := 1,bytes := 8,kd := 3,zero := [.nilfunc] }),
 (72,{ size := 1,bytes := 8,kd := 3,zero := [.nilfunc] }),
 (73,{ size := 1,bytes := 8,kd := 3,zero := [.nilfunc] }),
 (74,{ size := 1,bytes := 8,kd := 3,zero := [.nilfunc] }),
 (75,{ size := 1,bytes := 8,kd := 3,zero := [.nilfunc] }),
 (76,{ size := 1,bytes := 8,kd := 3,zero := [.nilfunc] }),
 (77,{ size := 1,bytes := 8,kd := 3,zero := [.nilfunc] }),
 (78,{ size := 1,bytes := 8,kd := 3,zero := [.nilfunc] }),
 (79,{ size := 1,bytes := 8,kd := 3,zero := [.nilfunc] }),
 (80,{ size := 1,bytes := 8,kd := 3,zero := [.nilfunc] }),
 (81,{ size := 1,bytes := 8,kd := 3,zero := [.nilfunc] }),
 (82,{ size := 2,bytes := 32,kd := 6,agg := true,fields := [(0,22),(1,3)],zero := [.nilsl,.int .i64 0],row := some (.cons (.sl ku) (.one (.int .i64))) }),
 (83,{ size := 2,bytes := 32,kd := 6,agg := true,fields := [(0,22),(1,3)],zero := [.nilsl,.int .i64 0],row := some (.cons (.sl ku) (.one (.int .i64))) }),
 (84,{ size := 1,bytes := 8,kd := 3,zero := [.nilfunc] }),
 (85,{ size := 1,bytes := 8,kd := 3,zero := [.nilfunc] }),
 (86,{ size := 1,bytes := 8,kd := 3,zero := [.nilfunc] }),
 (87,{ size := 1,bytes := 8,kd := 3,zero := [.nilfunc] }),
 (88,{ size := 1,bytes := 8,kd := 3,zero := [.nilfunc] }),
 (89,{ size := 1,bytes := 8,kd := 3,zero := [.nilfunc] }),
 (90,{ size := 0,bytes := 0,kd := 6,agg := true,zero := [] }),
 (91,{ size := 0,bytes := 0,kd := 6,agg := true,zero := [] }),
 (92,{ size := 0,bytes := 0,kd := 6,agg := true,zero := [] }),
 (93,{ size := 0,bytes := 0,kd := 6,agg := true,zero := [] }),
 (94,{ size := 0,bytes := 0,kd := 6,agg := true,zero := [] }),
 (95,{ size := 1,bytes := 8,kd := 7,elem := 5,len := 64,zero := [.raw (.map none)] }),
 (96,{ size := 1,bytes := 8,kd := 3,zero := [.nilfunc] }),
 (97,{ size := 1,bytes := 8,kd := 11,zero := [.int .u64 0],row := some (.one (.int .u64)) }),
 (98,{ size := 1,bytes := 24,kd := 4,elem := 61,zero := [.nilsl],row := some (.one (.sl k4)) }),
 (99,{ size := 1,bytes := 8,kd := 3,zero := [.nilfunc] }),
 (100,{ size := 1,bytes := 8,kd := 3,zero := [.nilfunc] }),
 (101,{ size := 1,bytes := 8,kd := 3,zero := [.nilfunc] }),
 (102,{ size := 1,bytes := 8,kd := 3,zero := [.nilfunc] }),
 (103,{ size := 1,bytes := 8,kd := 3,zero := [.nilfunc] }),
 (104,{ size := 1,bytes := 8,kd := 3,zero := [.nilfunc] }),
 (105,{ size := 1,bytes := 8,kd := 3,zero := [.nilfunc] }),
 (106,{ size := 1,bytes := 8,kd := 3,zero := [.nilfunc] }),
 (107,{ size := 1,bytes := 24,kd := 4,elem := 3,zero := [.nilsl],row := some (.one (.sl (.one (.int .i64)))) }),
 (108,{ size := 1,bytes := 8,kd := 3,zero := [.nilfunc] }),
 (110,{ size := 1,bytes := 8,kd := 3,zero := [.nilfunc] }),
 (111,{ size := 1,bytes := 24,kd := 4,elem := 22,zero := [.nilsl],row := some (.one (.sl (.one (.sl ku)))) }),
 (113,{ size := 1,bytes := 8,kd := 3,zero := [.nilfunc] }),
 (114,{ size := 1,bytes := 8,kd := 3,zero := [.nilfunc] }),
 (115,{ size := 1,bytes := 8,kd := 3,zero := [.nilfunc] }),
 (116,{ size := 1,bytes := 8,kd := 3,zero := [.nilfunc] }),
 (117,{ size := 1,bytes := 24,kd := 4,elem := 120,zero := [.nilsl],row := some (.one (.sl (.cons (.int .i64) (.one (.int .i64))))) }),
 (118,{ size := 1,bytes := 8,kd := 3,zero := [.nilfunc] }),
 (119,{ size := 2,bytes := 16,kd := 6,agg := true,fields := [(0,3),(1,3)],cmp := [.int .i64,.int .i64],zero := [.int .i64 0,.int .i64 0],row := some (.cons (.int .i64) (.one (.int .i64))) }),
 (120,{ size := 2,bytes := 16,kd := 6,agg := true,fields := [(0,3),(1,3)],cmp := [.int .i64,.int .i64],zero := [.int .i64 0,.int .i64 0],row := some (.cons (.int .i64) (.one (.int .i64))) }),
 (121,{ size := 1,bytes := 8,kd := 3,zero := [.nilfunc] }),
 (122,{ size := 1,bytes := 8,kd := 3,zero := [.nilfunc] }),
 (123,{ size := 1,bytes := 8,kd := 3,zero := [.nilfunc] }),
 (124,{ size := 4,bytes := 40,kd := 6,agg := true,fields := [(0,17),(1,17),(2,17),(3,9)],zero := [.nilptr,.nilptr,.nilptr,.str ⟨#[]⟩] }),
 (125,{ size := 4,bytes := 40,kd := 6,agg := true,fields := [(0,17),(1,17),(2,17),(3,9)],zero := [.nilptr,.nilptr,.nilptr,.str ⟨#[]⟩] }),
 (126,{ size := 0,bytes := 0,kd := 5,agg := true,elem := 16,len := 0,zero := [] }),
 (127,{ size := 0,bytes := 0,kd := 6,agg := true,fields := [(0,126)],zero := [] }),
 (128,{ size := 0,bytes := 0,kd := 6,agg := true,fields := [(0,126)],zero := [] }),
 (129,{ size := 1,bytes := 8,kd := 3,zero := [.nilfunc] }),
 (130,{ size := 1,bytes := 4,kd := 11,zero := [.int .u32 0],row := some (.one (.int .u32)) }),
 (131,{ size := 1,bytes := 1,kd := 11,zero := [.int .u8 0],row := some ku }),
 (132,{ size := 1,bytes := 1,kd := 11,zero := [.int .u8 0],row := some ku }),
 (133,{ size := 1,bytes := 8,kd := 3,zero := [.nilfunc] }),
 (134,{ size := 1,bytes := 8,kd := 1,elem := 5,zero := [.nilptr] }),
 (135,{ size := 1,bytes := 4,kd := 11,zero := [.int .i32 0],row := some (.one (.int .i32)) }),
 (136,{ size := 1,bytes := 4,kd := 11,zero := [.int .i32 0],row := some (.one (.int .i32)) }),
 (137,{ size := 11,bytes := 48,kd := 6,agg := true,fields := [(0,12),(1,12),(2,130),(3,131),(4,5),(5,5),(6,132),(7,133),(8,134),(9,135),(10,136)],zero := [.int .u64 0,.int .u64 0,.int .u32 0,.int .u8 0,.int .u8 0,.int .u8 0,.int .u8 0,.nilfunc,.nilptr,.int .i32 0,.int .i32 0] }),
 (138,{ size := 11,bytes := 48,kd := 6,agg := true,fields := [(0,12),(1,12),(2,130),(3,131),(4,5),(5,5),(6,132),(7,133),(8,134),(9,135),(10,136)],zero := [.int .u64 0,.int .u64 0,.int .u32 0,.int .u8 0,.int .u8 0,.int .u8 0,.int .u8 0,.nilfunc,.nilptr,.int .i32 0,.int .i32 0] }),
 (139,{ size := 1,bytes := 8,kd := 3,zero := [.nilfunc] }),
 (140,{ size := 1,bytes := 8,kd := 3,zero := [.nilfunc] }),
 (141,{ size := 3,bytes := 40,kd := 6,agg := true,fields := [(0,22),(1,3),(2,4)],zero := [.nilsl,.int .i64 0,.bool false],row := some (.cons (.sl ku) (.cons (.int .i64) kt)) }),
 (142,{ size := 3,bytes := 40,kd := 6,agg := true,fields := [(0,22),(1,3),(2,4)],zero := [.nilsl,.int .i64 0,.bool false],row := some (.cons (.sl ku) (.cons (.int .i64) kt)) }),
 (143,{ size := 1,bytes := 24,kd := 4,elem := 145,zero := [.nilsl],row := some (.one (.sl (.cons (.int .i64) (.one (.int .i64))))) }),
 (144,{ size := 2,bytes := 16,kd := 6,agg := true,fields := [(0,3),(1,3)],cmp := [.int .i64,.int .i64],zero := [.int .i64 0,.int .i64 0],row := some (.cons (.int .i64) (.one (.int .i64))) }),
 (145,{ size := 2,bytes := 16,kd := 6,agg := true,fields := [(0,3),(1,3)],cmp := [.int .i64,.int .i64],zero := [.int .i64 0,.int .i64 0],row := some (.cons (.int .i64) (.one (.int .i64))) }),
 (146,{ size := 4,bytes := 64,kd := 6,agg := true,fields := [(0,22),(1,143),(2,145)],zero := [.nilsl,.nilsl,.int .i64 0,.int .i64 0],row := some (.cons (.sl ku) (.cons (.sl (.cons (.int .i64) (.one (.int .i64)))) (.cons (.int .i64) (.one (.int .i64))))) }),
 (147,{ size := 4,bytes := 64,kd := 6,agg := true,fields := [(0,22),(1,143),(2,145)],zero := [.nilsl,.nilsl,.int .i64 0,.int .i64 0],row := some (.cons (.sl ku) (.cons (.sl (.cons (.int .i64) (.one (.int .i64)))) (.cons (.int .i64) (.one (.int .i64))))) }),
 (148,{ size := 1,bytes := 8,kd := 1,elem := 154,zero := [.nilptr] }),
 (149,{ size := 1,bytes := 8,kd := 3,zero := [.nilfunc] }),
 (151,{ size := 1,bytes := 8,kd := 3,zero := [.nilfunc] }),
 (152,{ size := 1,bytes := 8,kd := 7,elem := 5,len := 148,zero := [.raw (.map none)] }),
 (153,{ size := 2,bytes := 16,kd := 6,agg := true,fields := [(0,3),(1,152)],zero := [.int .i64 0,.raw (.map none)] }),
 (154,{ size := 2,bytes := 16,kd := 6,agg := true,fields := [(0,3),(1,152)],zero := [.int .i64 0,.raw (.map none)] }),
 (155,{ size := 1,bytes := 8,kd := 3,zero := [.nilfunc] }),
 (156,{ size := 1,bytes := 8,kd := 1,elem := 142,zero := [.nilptr] }),
 (157,{ size := 1,bytes := 8,kd := 1,elem := 147,zero := [.nilptr] }),
 (158,{ size := 3,bytes := 40,kd := 6,agg := true,fields := [(0,22),(1,3),(2,4)],zero := [.nilsl,.int .i64 0,.bool false],row := some (.cons (.sl ku) (.cons (.int .i64) kt)) }),
 (159,{ size := 3,bytes := 40,kd := 6,agg := true,fields := [(0,22),(1,3),(2,4)],zero := [.nilsl,.int .i64 0,.bool false],row := some (.cons (.sl ku) (.cons (.int .i64) kt)) }),
 (160,{ size := 1,bytes := 8,kd := 3,zero := [.nilfunc] }),
 (161,{ size := 1,bytes := 8,kd := 3,zero := [.nilfunc] }),
 (162,{ size := 1,bytes := 8,kd := 1,elem := 159,zero := [.nilptr] }),
 (163,{ size := 1,bytes := 8,zero := [.nilptr] })]
noncomputable def fns : List (Nat × Func) := [(2,Tryz.f2),(3,Tryz.f3),(4,Tryz.f4),(5,Tryz.f5),(6,Tryz.f6),(7,Tryz.f7),(8,Tryz.f8),(9,Tryz.f9),(10,Tryz.f10),(11,Tryz.f11),(12,Tryz.f12),(13,Tryz.f13),(14,Tryz.f14),(15,Tryz.f15),(16,Tryz.f16),(17,Tryz.f17),(18,Tryz.f18),(19,Tryz.f19),(20,Tryz.f20),(21,Tryz.f21),(22,Tryz.f22),(23,Tryz.f23),(24,Tryz.f24),(25,Tryz.f25),(26,Tryz.f26),(27,Tryz.f27),(28,Tryz.f28),(29,Tryz.f29),(30,Tryz.f30),(31,Tryz.f31),(32,Tryz.f32),(33,Tryz.f33),(34,Tryz.f34),(35,Tryz.f35),(36,Tryz.f36),(37,Tryz.f37),(38,Tryz.f38),(39,Tryz.f39),(40,Tryz.f40),(41,Tryz.f41),(42,Tryz.f42),(43,Tryz.f43),(44,Tryz.f44),(45,Tryz.f45),(46,Tryz.f46),(47,Tryz.f47),(48,Tryz.f48),(49,Tryz.f49),(50,Tryz.f50),(51,Tryz.f51),(52,Tryz.f52),(53,Tryz.f53),(54,Tryz.f54),(55,Tryz.f55),(56,Tryz.f56),(57,Tryz.f57),(58,Tryz.f58),(59,Tryz.f59),(60,Tryz.f60),(61,Tryz.f61),(62,Tryz.f62),(63,Tryz.f63),(64,Tryz.f64),(65,Tryz.f65),(66,Tryz.f66),(67,Tryz.f67),(68,Tryz.f68),(69,Tryz.f69),(70,Tryz.f70),(71,Tryz.f71),(72,Tryz.f72),(73,Tryz.f73),(74,Tryz.f74),(75,Tryz.f75),(76,Tryz.f76),(77,Tryz.f77),(78,Tryz.f78),(79,Tryz.f79),(80,Tryz.f80),(81,Tryz.f81),(82,Tryz.f82),(83,Tryz.f83),(84,Tryz.f84),(85,Tryz.f85),(86,Tryz.f86),(87,Tryz.f87),(88,Tryz.f88),(89,Tryz.f89),(90,Tryz.f90),(91,Tryz.f91),(92,Tryz.f92),(93,Tryz.f93),(94,Tryz.f94),(95,Tryz.f95),(96,Tryz.f96),(97,Tryz.f97),(98,Tryz.f98),(99,Tryz.f99),(100,Tryz.f100),(101,Tryz.f101),(102,Tryz.f102),(103,Tryz.f103),(104,Tryz.f104),(105,Tryz.f105),(106,Tryz.f106),(107,Tryz.f107),(108,Tryz.f108),(109,Tryz.f109),(110,Tryz.f110),(111,Tryz.f111),(112,Tryz.f112),(113,Tryz.f113),(114,Tryz.f114),(115,Tryz.f115),(131,Tryz.f131),(132,Tryz.f132),(133,Tryz.f133),(134,Tryz.f134),(135,Tryz.f135),(136,Tryz.f136),(137,Tryz.f137),(138,Tryz.f138),(139,Tryz.f139),(140,Tryz.f140),(141,Tryz.f141),(142,Tryz.f142),(143,Tryz.f143),(144,Tryz.f144),(145,Tryz.f145),(146,Tryz.f146),(147,Tryz.f147),(148,Tryz.f148),(149,Tryz.f149),(150,Tryz.f150),(151,Tryz.f151),(152,Tryz.f152),(153,Tryz.f153),(154,Tryz.f154),(155,Tryz.f155),(156,Tryz.f156),(157,Tryz.f157)]
abbrev s3 : Sig := ⟨[pu0,⟨.one (.sl k5),[.ro]⟩],[pb],false⟩
abbrev s4 : Sig := ⟨[⟨.one (.sl ku),[.leak]⟩],[pb],false⟩
abbrev s5 : Sig := ⟨[⟨.one (.sl ku),[.leak]⟩],[pb],false⟩
abbrev s6 : Sig := ⟨[⟨.one (.sl ku),[.leak]⟩],[pb],false⟩
abbrev s7 : Sig := ⟨[⟨.one (.sl k5),[.ro]⟩,pi0],[pi0],false⟩
abbrev s8 : Sig := ⟨[pu0,⟨.one (.sl k5),[.ro]⟩],[pu1,pi0],false⟩
abbrev s9 : Sig := ⟨[pu0],[pu1],false⟩
abbrev s10 : Sig := ⟨[⟨.one (.sl k5),[.ro]⟩],[⟨.one (.sl k5),[.mv]⟩],false⟩
abbrev s11 : Sig := ⟨[pu0,⟨.one (.sl k5),[.ro]⟩],[pu1,pi0],false⟩
abbrev s12 : Sig := ⟨[pu0,pu0],[pb],false⟩
abbrev s13 : Sig := ⟨[⟨.one (.sl k5),[.ro]⟩,⟨.one (.sl k5),[.ro]⟩],[pb],false⟩
abbrev s16 : Sig := ⟨[pu0,pi0],[pi0],false⟩
abbrev s17 : Sig := ⟨[⟨.one (.sl ku),[.leak]⟩],[pu1,⟨.one (.sl k5),[.mv]⟩],false⟩
abbrev s18 : Sig := ⟨[],[pb],false⟩
abbrev s19 : Sig := ⟨[⟨.agg k5,[]⟩],[pb],false⟩
abbrev s20 : Sig := ⟨[pu0],[pr1,pi0],false⟩
abbrev s21 : Sig := ⟨[pu0,pu0],[pb],false⟩
abbrev s22 : Sig := ⟨[⟨.one (.int .u8),[]⟩,pu0,pr0],[pu1],false⟩
abbrev s23 : Sig := ⟨[pr0,⟨.one (.sl k5),[.ro]⟩],[pr1,pb],false⟩
abbrev s24 : Sig := ⟨[pr0],[pu1],false⟩
abbrev s25 : Sig := ⟨[⟨.one (.sl k5),[.ro]⟩],[pb],false⟩
abbrev s26 : Sig := ⟨[pu0],[pr1,pi0],false⟩
abbrev s27 : Sig := ⟨[pr0,⟨.one (.sl k5),[.ro]⟩],[pr1,pb],false⟩
abbrev s28 : Sig := ⟨[pr0],[pu1],false⟩
abbrev s29 : Sig := ⟨[⟨.agg k5,[]⟩],[⟨.agg k5,[]⟩],false⟩
abbrev s30 : Sig := ⟨[⟨.one (.sl k5),[.ro]⟩],[pb],false⟩
abbrev s31 : Sig := ⟨[⟨.agg k5,[]⟩,⟨.agg k5,[]⟩],[pb],false⟩
abbrev s33 : Sig := ⟨[⟨.st (.cons (.sl ku) (.one (.int .i64))),[.leak]⟩,pi0],[pu1,⟨.st (.cons (.sl ku) (.one (.int .i64))),[.ro]⟩],false⟩
abbrev s34 : Sig := ⟨[⟨.st (.cons (.sl ku) (.one (.int .i64))),[.leak]⟩,pi0],[⟨.one (.sl k5),[.mv]⟩,⟨.st (.cons (.sl ku) (.one (.int .i64))),[.ro]⟩],false⟩
abbrev s35 : Sig := ⟨[⟨.agg k4,[]⟩],[pb],false⟩
abbrev s36 : Sig := ⟨[pi0,pi0,pi0],[pb],false⟩
abbrev s39 : Sig := ⟨[pr0],[pb],false⟩
abbrev s40 : Sig := ⟨[pu0],[⟨.agg (.cons (.int .u8) (.cons (.int .u8) (.cons (.int .u8) ku))),[]⟩],false⟩
abbrev s43 : Sig := ⟨[pr0,pi0,pi0],[⟨.agg k4,[]⟩],false⟩
abbrev s45 : Sig := ⟨[⟨.one (.int .u8),[]⟩],[pb],false⟩
abbrev s46 : Sig := ⟨[⟨.one (.int .u8),[]⟩,pu0],[pr1,pb],false⟩
abbrev s47 : Sig := ⟨[pu0],[pu1],false⟩
abbrev s48 : Sig := ⟨[pr0],[pb],false⟩
abbrev s49 : Sig := ⟨[pr0],[pr1],false⟩
abbrev s50 : Sig := ⟨[pr0,⟨.agg k5,[]⟩],[pr1,pb],false⟩
abbrev s51 : Sig := ⟨[⟨.one (.int .u8),[]⟩,pu0,pr0],[pu1],false⟩
abbrev s52 : Sig := ⟨[⟨.agg k5,[]⟩],[pb],false⟩
abbrev s53 : Sig := ⟨[⟨.one (.int .u8),[]⟩,pu0,pr0],[pu1],false⟩
abbrev s54 : Sig := ⟨[⟨.st (.cons (.sl ku) (.one (.int .i64))),[.leak]⟩],[⟨.one (.int .u8),[]⟩,⟨.st (.cons (.sl ku) (.one (.int .i64))),[.ro]⟩],false⟩
abbrev s55 : Sig := ⟨[⟨.st (.cons (.sl ku) (.one (.int .i64))),[.leak]⟩,pi0],[pu1,⟨.st (.cons (.sl ku) (.one (.int .i64))),[.ro]⟩],false⟩
abbrev s56 : Sig := ⟨[⟨.st (.cons (.sl ku) (.one (.int .i64))),[.leak]⟩,pi0],[⟨.agg kr,[.leak]⟩,⟨.st (.cons (.sl ku) (.one (.int .i64))),[.ro]⟩],false⟩
abbrev s57 : Sig := ⟨[⟨.st (.cons (.sl ku) (.one (.int .i64))),[.leak]⟩,pi0],[pb,⟨.st (.cons (.sl ku) (.one (.int .i64))),[.ro]⟩],false⟩
abbrev s58 : Sig := ⟨[⟨.st (.cons (.sl ku) (.one (.int .i64))),[.leak]⟩,pi0],[pi0,⟨.st (.cons (.sl ku) (.one (.int .i64))),[.ro]⟩],false⟩
abbrev s59 : Sig := ⟨[⟨.st (.cons (.sl ku) (.one (.int .i64))),[.leak]⟩,pu0],[pu1,⟨.st (.cons (.sl ku) (.one (.int .i64))),[.ro]⟩],false⟩
abbrev s60 : Sig := ⟨[⟨.st (.cons (.sl ku) (.one (.int .i64))),[.leak]⟩,pi0],[⟨.agg k5,[]⟩,⟨.st (.cons (.sl ku) (.one (.int .i64))),[.ro]⟩],false⟩
abbrev s61 : Sig := ⟨[pi0],[pb],false⟩
abbrev s62 : Sig := ⟨[pi0],[pb],false⟩
abbrev s63 : Sig := ⟨[pu0],[pi0],false⟩
abbrev s67 : Sig := ⟨[pr0],[pi0,pi0],false⟩
abbrev s68 : Sig := ⟨[pr0,pi0,pi0],[pi0,pi0],false⟩
abbrev s69 : Sig := ⟨[pr0,pi0,pi0],[pi0,pi0],false⟩
abbrev s70 : Sig := ⟨[pr0],[pi0,pi0],false⟩
abbrev s71 : Sig := ⟨[pr0,pi0,pi0],[pi0,pi0],false⟩
abbrev s73 : Sig := ⟨[⟨.agg k4,[]⟩],[⟨.agg k4,[]⟩],false⟩
abbrev s74 : Sig := ⟨[pr0],[pr1,pb],false⟩
abbrev s77 : Sig := ⟨[pu0],[pr1,pb],false⟩
abbrev s78 : Sig := ⟨[pr0],[pr1],false⟩
abbrev s79 : Sig := ⟨[pu0],[pr1,pb],false⟩
abbrev s80 : Sig := ⟨[pu0],[pu1,pb],false⟩
abbrev s81 : Sig := ⟨[pu0],[pi0],false⟩
abbrev s82 : Sig := ⟨[⟨.agg k4,[]⟩],[pb],false⟩
abbrev s83 : Sig := ⟨[pr0,⟨.agg k5,[]⟩],[pr1],false⟩
abbrev s84 : Sig := ⟨[pr0],[pr1],false⟩
abbrev s85 : Sig := ⟨[pr0],[pr1],false⟩
abbrev s86 : Sig := ⟨[pr0,⟨.agg k5,[]⟩],[pr1],false⟩
abbrev s87 : Sig := ⟨[pr0,⟨.agg k5,[]⟩],[pr1],false⟩
abbrev s88 : Sig := ⟨[⟨.one (.int .u8),[]⟩,pr0],[pu1],false⟩
abbrev s89 : Sig := ⟨[pi0,pi0,pi0],[pb],false⟩
abbrev s90 : Sig := ⟨[⟨.st (.cons (.sl ku) (.one (.int .i64))),[.leak]⟩],[⟨.agg k4,[]⟩,⟨.st (.cons (.sl ku) (.one (.int .i64))),[.ro]⟩],false⟩
abbrev s101 : Sig := ⟨[⟨.agg k4,[]⟩,⟨.st k5,[]⟩],[⟨.agg k4,[]⟩,⟨.st k5,[]⟩],true⟩
abbrev s102 : Sig := ⟨[pi0,pi0,⟨.st k4,[]⟩],[pi0,⟨.st k4,[]⟩],true⟩
abbrev s103 : Sig := ⟨[pu0,pi0,pi0],[pi0,pb],false⟩
abbrev s104 : Sig := ⟨[pu0,pi0],[pb],false⟩
abbrev s106 : Sig := ⟨[⟨.agg k4,[]⟩],[⟨.agg k4,[]⟩],false⟩
abbrev s107 : Sig := ⟨[pr0,pi0,pi0],[⟨.agg k4,[]⟩],false⟩
abbrev s108 : Sig := ⟨[⟨.agg k4,[]⟩,⟨.agg k5,[]⟩],[⟨.agg k4,[]⟩],false⟩
abbrev s109 : Sig := ⟨[pr0],[pu1],false⟩
abbrev s110 : Sig := ⟨[pr0],[pu1],false⟩
abbrev s111 : Sig := ⟨[pu0],[pu1],false⟩
abbrev s112 : Sig := ⟨[⟨.one (.sl (.one (.sl ku))),[.ro]⟩,pu0],[pi0],false⟩
abbrev s113 : Sig := ⟨[⟨.one (.sl (.cons (.int .i64) (.one (.int .i64)))),[.ro]⟩],[pu1],false⟩
abbrev s114 : Sig := ⟨[⟨.one (.sl (.one (.sl ku))),[.ro]⟩,pu0],[pi0],false⟩
abbrev s115 : Sig := ⟨[⟨.agg (.cons (.int .i64) (.one (.int .i64))),[]⟩],[pb],false⟩
abbrev s131 : Sig := ⟨[⟨.agg0,[]⟩,pu0],[pr1,pb],false⟩
abbrev s132 : Sig := ⟨[⟨.agg0,[]⟩,pr0],[pu1],false⟩
abbrev s133 : Sig := ⟨[pu0],[pr1,pb],false⟩
abbrev s134 : Sig := ⟨[pr0],[pu1],false⟩
abbrev s136 : Sig := ⟨[pu0],[⟨.agg k4,[]⟩],false⟩
abbrev s137 : Sig := ⟨[pu1,⟨.agg k4,[]⟩],[pu1],false⟩
abbrev s138 : Sig := ⟨[⟨.agg0,[]⟩,pu0],[pr1,pb],false⟩
abbrev s139 : Sig := ⟨[⟨.agg0,[]⟩,pr0],[pu1],false⟩
abbrev s140 : Sig := ⟨[pr0],[pr1],false⟩
abbrev s142 : Sig := ⟨[⟨.agg0,[]⟩,pu0],[pr1,pb],false⟩
abbrev s143 : Sig := ⟨[⟨.agg0,[]⟩,pr0],[pu1],false⟩
abbrev s144 : Sig := ⟨[⟨.agg0,[]⟩,pu0],[pr1,pb],false⟩
abbrev s145 : Sig := ⟨[⟨.agg0,[]⟩,pr0],[pu1],false⟩
abbrev s146 : Sig := ⟨[pu0],[pu1,pb],false⟩
abbrev s147 : Sig := ⟨[pu0],[pu1],false⟩
abbrev s149 : Sig := ⟨[⟨.st (.cons (.sl ku) (.cons (.sl (.cons (.int .i64) (.one (.int .i64)))) (.cons (.int .i64) (.one (.int .i64))))),[.mv,.mv]⟩,pi0],[pb,⟨.st (.cons (.sl ku) (.cons (.sl (.cons (.int .i64) (.one (.int .i64)))) (.cons (.int .i64) (.one (.int .i64))))),[.mv,.mv]⟩],false⟩
abbrev s150 : Sig := ⟨[pu0,pi0],[pb],false⟩
abbrev s154 : Sig := ⟨[⟨.one (.sl (.cons (.int .i64) (.one (.int .i64)))),[.ro]⟩],[pu1],false⟩
abbrev s155 : Sig := ⟨[⟨.st (.cons (.sl ku) (.cons (.int .i64) kt)),[.mv]⟩,⟨.agg (.cons (.int .i64) (.one (.int .i64))),[]⟩],[⟨.st (.cons (.sl ku) (.cons (.int .i64) kt)),[.mv]⟩],false⟩
abbrev s157 : Sig := ⟨[⟨.agg (.cons (.int .i64) (.one (.int .i64))),[]⟩],[pb],false⟩
abbrev r3 (Rc : Rcall) (a : List (Int) × List I5) : Option Bool := Rc 3 s3 a
abbrev r7 (Rc : Rcall) (a : (List I5) × Int) : Option Int := Rc 7 s7 a
abbrev r8 (Rc : Rcall) (a : List (Int) × List I5) : Option (List (Int) × Int) := Rc 8 s8 a
abbrev r9 (Rc : Rcall) (a : List (Int)) : Option (List (Int)) := Rc 9 s9 a
abbrev r10 (Rc : Rcall) (a : List I5) : Option (List I5) := Rc 10 s10 a
abbrev r11 (Rc : Rcall) (a : List (Int) × List I5) : Option (List (Int) × Int) := Rc 11 s11 a
abbrev r12 (Rc : Rcall) (a : List (Int) × List (Int)) : Option Bool := Rc 12 s12 a
abbrev r13 (Rc : Rcall) (a : (List I5) × List I5) : Option Bool := Rc 13 s13 a
abbrev r16 (Rc : Rcall) (a : List (Int) × Int) : Option Int := Rc 16 s16 a
abbrev r19 (Rc : Rcall) (a : I5) : Option Bool := Rc 19 s19 a
abbrev r20 (Rc : Rcall) (a : List (Int)) : Option (Rs × Int) := Rc 20 s20 a
abbrev r22 (Rc : Rcall) (a : Int × List (Int) × Rs) : Option (List (Int)) := Rc 22 s22 a
abbrev r23 (Rc : Rcall) (a : Rs × List I5) : Option (Rs × Bool) := Rc 23 s23 a
abbrev r24 (Rc : Rcall) (a : Rs) : Option (List (Int)) := Rc 24 s24 a
abbrev r25 (Rc : Rcall) (a : List I5) : Option Bool := Rc 25 s25 a
abbrev r26 (Rc : Rcall) (a : List (Int)) : Option (Rs × Int) := Rc 26 s26 a
abbrev r27 (Rc : Rcall) (a : Rs × List I5) : Option (Rs × Bool) := Rc 27 s27 a
abbrev r28 (Rc : Rcall) (a : Rs) : Option (List (Int)) := Rc 28 s28 a
abbrev r29 (Rc : Rcall) (a : I5) : Option (I5) := Rc 29 s29 a
abbrev r30 (Rc : Rcall) (a : List I5) : Option Bool := Rc 30 s30 a
abbrev r31 (Rc : Rcall) (a : (I5) × I5) : Option Bool := Rc 31 s31 a
abbrev r35 (Rc : Rcall) (a : I4) : Option Bool := Rc 35 s35 a
abbrev r36 (Rc : Rcall) (a : Int × Int × Int) : Option Bool := Rc 36 s36 a
abbrev r39 (Rc : Rcall) (a : Rs) : Option Bool := Rc 39 s39 a
abbrev r40 (Rc : Rcall) (a : List (Int)) : Option I4 := Rc 40 s40 a
abbrev r43 (Rc : Rcall) (a : Rs × Int × Int) : Option I4 := Rc 43 s43 a
abbrev r45 (Rc : Rcall) (a : Int) : Option Bool := Rc 45 s45 a
abbrev r46 (Rc : Rcall) (a : Int × List (Int)) : Option (Rs × Bool) := Rc 46 s46 a
abbrev r47 (Rc : Rcall) (a : List (Int)) : Option (List (Int)) := Rc 47 s47 a
abbrev r48 (Rc : Rcall) (a : Rs) : Option Bool := Rc 48 s48 a
abbrev r49 (Rc : Rcall) (a : Rs) : Option Rs := Rc 49 s49 a
abbrev r50 (Rc : Rcall) (a : Rs × I5) : Option (Rs × Bool) := Rc 50 s50 a
abbrev r51 (Rc : Rcall) (a : Int × List (Int) × Rs) : Option (List (Int)) := Rc 51 s51 a
abbrev r52 (Rc : Rcall) (a : I5) : Option Bool := Rc 52 s52 a
abbrev r61 (Rc : Rcall) (a : Int) : Option Bool := Rc 61 s61 a
abbrev r62 (Rc : Rcall) (a : Int) : Option Bool := Rc 62 s62 a
abbrev r63 (Rc : Rcall) (a : List (Int)) : Option Int := Rc 63 s63 a
abbrev r67 (Rc : Rcall) (a : Rs) : Option (Int × Int) := Rc 67 s67 a
abbrev r68 (Rc : Rcall) (a : Rs × Int × Int) : Option (Int × Int) := Rc 68 s68 a
abbrev r69 (Rc : Rcall) (a : Rs × Int × Int) : Option (Int × Int) := Rc 69 s69 a
abbrev r70 (Rc : Rcall) (a : Rs) : Option (Int × Int) := Rc 70 s70 a
abbrev r71 (Rc : Rcall) (a : Rs × Int × Int) : Option (Int × Int) := Rc 71 s71 a
abbrev r73 (Rc : Rcall) (a : I4) : Option I4 := Rc 73 s73 a
abbrev r74 (Rc : Rcall) (a : Rs) : Option (Rs × Bool) := Rc 74 s74 a
abbrev r77 (Rc : Rcall) (a : List (Int)) : Option (Rs × Bool) := Rc 77 s77 a
abbrev r78 (Rc : Rcall) (a : Rs) : Option Rs := Rc 78 s78 a
abbrev r79 (Rc : Rcall) (a : List (Int)) : Option (Rs × Bool) := Rc 79 s79 a
abbrev r80 (Rc : Rcall) (a : List (Int)) : Option (List (Int) × Bool) := Rc 80 s80 a
abbrev r81 (Rc : Rcall) (a : List (Int)) : Option Int := Rc 81 s81 a
abbrev r82 (Rc : Rcall) (a : I4) : Option Bool := Rc 82 s82 a
abbrev r83 (Rc : Rcall) (a : Rs × I5) : Option Rs := Rc 83 s83 a
abbrev r84 (Rc : Rcall) (a : Rs) : Option Rs := Rc 84 s84 a
abbrev r85 (Rc : Rcall) (a : Rs) : Option Rs := Rc 85 s85 a
abbrev r86 (Rc : Rcall) (a : Rs × I5) : Option Rs := Rc 86 s86 a
abbrev r87 (Rc : Rcall) (a : Rs × I5) : Option Rs := Rc 87 s87 a
abbrev r88 (Rc : Rcall) (a : Int × Rs) : Option (List (Int)) := Rc 88 s88 a
abbrev r89 (Rc : Rcall) (a : Int × Int × Int) : Option Bool := Rc 89 s89 a
abbrev r101 (Rc : Rcall) (a : I4 × I5) : Option (I4 × I5) := Rc 101 s101 a
abbrev r102 (Rc : Rcall) (a : Int × I5) : Option (I5) := Rc 102 s102 a
abbrev r103 (Rc : Rcall) (a : List (Int) × Int × Int) : Option (Int × Bool) := Rc 103 s103 a
abbrev r104 (Rc : Rcall) (a : List (Int) × Int) : Option Bool := Rc 104 s104 a
abbrev r106 (Rc : Rcall) (a : I4) : Option I4 := Rc 106 s106 a
abbrev r107 (Rc : Rcall) (a : Rs × Int × Int) : Option I4 := Rc 107 s107 a
abbrev r108 (Rc : Rcall) (a : I4 × I5) : Option I4 := Rc 108 s108 a
abbrev r109 (Rc : Rcall) (a : Rs) : Option (List (Int)) := Rc 109 s109 a
abbrev r110 (Rc : Rcall) (a : Rs) : Option (List (Int)) := Rc 110 s110 a
abbrev r111 (Rc : Rcall) (a : List (Int)) : Option (List (Int)) := Rc 111 s111 a
abbrev r112 (Rc : Rcall) (a : List (List (Int)) × List (Int)) : Option Int := Rc 112 s112 a
abbrev r113 (Rc : Rcall) (a : List (Int × Int)) : Option (List (Int)) := Rc 113 s113 a
abbrev r114 (Rc : Rcall) (a : List (List (Int)) × List (Int)) : Option Int := Rc 114 s114 a
abbrev r115 (Rc : Rcall) (a : Int × Int) : Option Bool := Rc 115 s115 a
abbrev r131 (Rc : Rcall) (a : Unit × List (Int)) : Option (Rs × Bool) := Rc 131 s131 a
abbrev r132 (Rc : Rcall) (a : Unit × Rs) : Option (List (Int)) := Rc 132 s132 a
abbrev r133 (Rc : Rcall) (a : List (Int)) : Option (Rs × Bool) := Rc 133 s133 a
abbrev r134 (Rc : Rcall) (a : Rs) : Option (List (Int)) := Rc 134 s134 a
abbrev r136 (Rc : Rcall) (a : List (Int)) : Option I4 := Rc 136 s136 a
abbrev r137 (Rc : Rcall) (a : List (Int) × I4) : Option (List (Int)) := Rc 137 s137 a
abbrev r138 (Rc : Rcall) (a : Unit × List (Int)) : Option (Rs × Bool) := Rc 138 s138 a
abbrev r139 (Rc : Rcall) (a : Unit × Rs) : Option (List (Int)) := Rc 139 s139 a
abbrev r140 (Rc : Rcall) (a : Rs) : Option Rs := Rc 140 s140 a
abbrev r142 (Rc : Rcall) (a : Unit × List (Int)) : Option (Rs × Bool) := Rc 142 s142 a
abbrev r143 (Rc : Rcall) (a : Unit × Rs) : Option (List (Int)) := Rc 143 s143 a
abbrev r144 (Rc : Rcall) (a : Unit × List (Int)) : Option (Rs × Bool) := Rc 144 s144 a
abbrev r145 (Rc : Rcall) (a : Unit × Rs) : Option (List (Int)) := Rc 145 s145 a
abbrev r146 (Rc : Rcall) (a : List (Int)) : Option (List (Int) × Bool) := Rc 146 s146 a
abbrev r147 (Rc : Rcall) (a : List (Int)) : Option (List (Int)) := Rc 147 s147 a
abbrev r149 (Rc : Rcall) (a : (List (Int) × (List (Int × Int)) × Int × Int) × Int) : Option (Bool × List (Int) × (List (Int × Int)) × Int × Int) := Rc 149 s149 a
abbrev r150 (Rc : Rcall) (a : List (Int) × Int) : Option Bool := Rc 150 s150 a
abbrev r154 (Rc : Rcall) (a : List (Int × Int)) : Option (List (Int)) := Rc 154 s154 a
abbrev r155 (Rc : Rcall) (a : (List (Int) × Int × Bool) × Int × Int) : Option (List (Int) × Int × Bool) := Rc 155 s155 a
abbrev r157 (Rc : Rcall) (a : Int × Int) : Option Bool := Rc 157 s157 a
noncomputable def sigs : List (Nat × Sig) := [(3,s3),(4,s4),(5,s5),(6,s6),(7,s7),(8,s8),(9,s9),(10,s10),(11,s11),(12,s12),(13,s13),(16,s16),(17,s17),(18,s18),(19,s19),(20,s20),(21,s21),(22,s22),(23,s23),(24,s24),(25,s25),(26,s26),(27,s27),(28,s28),(29,s29),(30,s30),(31,s31),(33,s33),(34,s34),(35,s35),(36,s36),(39,s39),(40,s40),(43,s43),(45,s45),(46,s46),(47,s47),(48,s48),(49,s49),(50,s50),(51,s51),(52,s52),(53,s53),(54,s54),(55,s55),(56,s56),(57,s57),(58,s58),(59,s59),(60,s60),(61,s61),(62,s62),(63,s63),(67,s67),(68,s68),(69,s69),(70,s70),(71,s71),(73,s73),(74,s74),(77,s77),(78,s78),(79,s79),(80,s80),(81,s81),(82,s82),(83,s83),(84,s84),(85,s85),(86,s86),(87,s87),(88,s88),(89,s89),(90,s90),(101,s101),(102,s102),(103,s103),(104,s104),(106,s106),(107,s107),(108,s108),(109,s109),(110,s110),(111,s111),(112,s112),(113,s113),(114,s114),(115,s115),(131,s131),(132,s132),(133,s133),(134,s134),(136,s136),(137,s137),(138,s138),(139,s139),(140,s140),(142,s142),(143,s143),(144,s144),(145,s145),(146,s146),(147,s147),(149,s149),(150,s150),(154,s154),(155,s155),(157,s157)]
noncomputable def meths : List (Nat × List (String × FuncId)) := [(91,[("loop.example/easel/impl.read",131),("loop.example/easel/impl.write",132)]),(92,[("loop.example/easel/impl.read",138),("loop.example/easel/impl.write",139)]),(93,[("loop.example/easel/impl.read",142),("loop.example/easel/impl.write",143)]),(94,[("loop.example/easel/impl.read",144),("loop.example/easel/impl.write",145)])]
noncomputable def ords : List RegO := [
 ⟨5,15,[[(0,[]),(1,[]),(2,[0,1]),(3,[0,1,2]),(4,[]),(5,[4]),(6,[4,5]),(7,[]),(9,[]),(8,[0,1,2,3,4,5,6,7]),(10,[0,1,2,3,4,5,6,7,8,9]),(11,[0,1,2,3,4,5,6,7,8,9,10]),(12,[0,1,2,3,4,5,6,7,8,9,10,11]),(13,[0,1,2,3,4,5,6,7,8,9,10,11]),(14,[0,1,2,3,4,5,6,7,8,9,10,11,12]),(15,[0,1,2,3,4,5,6,7,8,9,10,11,12,13,14])]],none⟩,
 ⟨12,6,[[(0,[]),(1,[]),(2,[0,1]),(3,[0,1,2]),(4,[]),(5,[]),(6,[4,5]),(7,[4,5,6]),(8,[0,1,2,3,4,5,6,7])]],none⟩,
 ⟨13,6,[[(0,[]),(1,[]),(2,[0,1]),(3,[0,1,2]),(4,[]),(5,[]),(6,[4,5]),(7,[4,5,6]),(8,[0,1,2,3,4,5,6,7]),(9,[0,1,2,3,4,5,6,7,8])]],none⟩,
 ⟨23,7,[[(0,[]),(1,[0]),(2,[]),(3,[0,1,2]),(4,[0,1,2,3]),(5,[0,1,2,3,4]),(6,[0,1,2,3,4]),(7,[]),(8,[0,1,2,3,4,5,7]),(9,[0,1,2,3,4,5,6,7,8])],
  [(0,[]),(1,[0]),(2,[]),(7,[]),(3,[0,1,2]),(4,[0,1,2,3]),(5,[0,1,2,3,4]),(6,[0,1,2,3,4]),(8,[0,1,2,3,4,5,7]),(9,[0,1,2,3,4,5,6,7,8])],
  [(0,[]),(1,[0]),(7,[]),(2,[]),(3,[0,1,2]),(4,[0,1,2,3]),(5,[0,1,2,3,4]),(6,[0,1,2,3,4]),(8,[0,1,2,3,4,5,7]),(9,[0,1,2,3,4,5,6,7,8])],
  [(0,[]),(2,[]),(1,[0]),(3,[0,1,2]),(4,[0,1,2,3]),(5,[0,1,2,3,4]),(6,[0,1,2,3,4]),(7,[]),(8,[0,1,2,3,4,5,7]),(9,[0,1,2,3,4,5,6,7,8])],
  [(0,[]),(2,[]),(1,[0]),(7,[]),(3,[0,1,2]),(4,[0,1,2,3]),(5,[0,1,2,3,4]),(6,[0,1,2,3,4]),(8,[0,1,2,3,4,5,7]),(9,[0,1,2,3,4,5,6,7,8])],
  [(0,[]),(2,[]),(7,[]),(1,[0]),(3,[0,1,2]),(4,[0,1,2,3]),(5,[0,1,2,3,4]),(6,[0,1,2,3,4]),(8,[0,1,2,3,4,5,7]),(9,[0,1,2,3,4,5,6,7,8])],
  [(0,[]),(7,[]),(1,[0]),(2,[]),(3,[0,1,2]),(4,[0,1,2,3]),(5,[0,1,2,3,4]),(6,[0,1,2,3,4]),(8,[0,1,2,3,4,5,7]),(9,[0,1,2,3,4,5,6,7,8])],
  [(0,[]),(7,[]),(2,[]),(1,[0]),(3,[0,1,2]),(4,[0,1,2,3]),(5,[0,1,2,3,4]),(6,[0,1,2,3,4]),(8,[0,1,2,3,4,5,7]),(9,[0,1,2,3,4,5,6,7,8])]],some [2,7]⟩,
 ⟨26,8,[[(0,[]),(1,[0]),(2,[0,1]),(3,[0,1,2]),(6,[0,1,2]),(7,[0,1,2]),(8,[0,1,2,7]),(9,[0,1,2,7,8]),(10,[0,1,2,6,7,8,9]),(4,[0,1,2,3]),(5,[0,1,2,3,4]),(11,[0,1,2,6,7,8,9,10]),(12,[0,1,2,3,4,5,6,7,8,9,10,11]),(13,[0,1,2,3,4,5,6,7,8,9,10,11,12]),(14,[0,1,2,3,4,5,6,7,8,9,10,11,12,13]),(15,[0,1,2,3,4,5,6,7,8,9,10,11,12,13,14]),(16,[0,1,2,3,4,5,6,7,8,9,10,11,12,13,14,15]),(17,[0,1,2,3,4,5,6,7,8,9,10,11,12,13,14,15,16]),(18,[0,1,2,3,4,5,6,7,8,9,10,11,12,13,14,15,16,17])],
  [(0,[]),(1,[0]),(2,[0,1]),(3,[0,1,2]),(6,[0,1,2]),(7,[0,1,2]),(8,[0,1,2,7]),(9,[0,1,2,7,8]),(10,[0,1,2,6,7,8,9]),(4,[0,1,2,3]),(11,[0,1,2,6,7,8,9,10]),(5,[0,1,2,3,4]),(12,[0,1,2,3,4,5,6,7,8,9,10,11]),(13,[0,1,2,3,4,5,6,7,8,9,10,11,12]),(14,[0,1,2,3,4,5,6,7,8,9,10,11,12,13]),(15,[0,1,2,3,4,5,6,7,8,9,10,11,12,13,14]),(16,[0,1,2,3,4,5,6,7,8,9,10,11,12,13,14,15]),(17,[0,1,2,3,4,5,6,7,8,9,10,11,12,13,14,15,16]),(18,[0,1,2,3,4,5,6,7,8,9,10,11,12,13,14,15,16,17])],
  [(0,[]),(1,[0]),(2,[0,1]),(3,[0,1,2]),(6,[0,1,2]),(7,[0,1,2]),(8,[0,1,2,7]),(9,[0,1,2,7,8]),(10,[0,1,2,6,7,8,9]),(11,[0,1,2,6,7,8,9,10]),(4,[0,1,2,3]),(5,[0,1,2,3,4]),(12,[0,1,2,3,4,5,6,7,8,9,10,11]),(13,[0,1,2,3,4,5,6,7,8,9,10,11,12]),(14,[0,1,2,3,4,5,6,7,8,9,10,11,12,13]),(15,[0,1,2,3,4,5,6,7,8,9,10,11,12,13,14]),(16,[0,1,2,3,4,5,6,7,8,9,10,11,12,13,14,15]),(17,[0,1,2,3,4,5,6,7,8,9,10,11,12,13,14,15,16]),(18,[0,1,2,3,4,5,6,7,8,9,10,11,12,13,14,15,16,17])]],none⟩,
 ⟨27,7,[[(0,[]),(1,[]),(2,[]),(3,[1,2]),(4,[1,2,3]),(9,[]),(5,[0,1,2,3,4]),(6,[0,1,2,3,4,5]),(7,[0,1,2,3,4,5,6]),(8,[0,1,2,3,4,5,6]),(10,[0,1,2,3,4,5,6,7,9]),(11,[0,1,2,3,4,5,6,7,8,9,10])]],none⟩,
 ⟨38,7,[[(0,[]),(1,[]),(3,[]),(4,[]),(5,[3,4]),(6,[3,4,5]),(7,[3,4,5,6]),(2,[1]),(8,[1,2,3,4,5,6,7]),(9,[0,1,2]),(10,[0,1,2,3,4,5,6,7,8,9])]],none⟩,
 ⟨49,1,[[(0,[]),(1,[0]),(2,[]),(3,[2]),(4,[]),(5,[]),(6,[5]),(7,[4,5,6]),(8,[0,1,2,3,4,5,6,7]),(9,[0,1,2,3,4,5,6,7,8])]],none⟩,
 ⟨56,13,[[(0,[]),(1,[0]),(2,[0,1]),(3,[0,1,2]),(4,[]),(5,[4]),(6,[0,1,2,3,4,5]),(7,[0,1,2,3,4,5,6]),(8,[0,1,2,3,4,5,6,7]),(9,[0,1,2,3,4,5,6,7,8])]],none⟩,
 ⟨56,11,[[(0,[]),(1,[0]),(2,[]),(3,[]),(4,[3]),(5,[3,4]),(7,[]),(8,[]),(6,[2,3,4,5]),(9,[2,3,4,5,6,8]),(10,[2,3,4,5,6,7,8,9]),(11,[2,3,4,5,6,7,8,9,10]),(12,[0,1,2,3,4,5,6,7,8,9,10,11]),(13,[0,1,2,3,4,5,6,7,8,9,10,11,12]),(14,[0,1,2,3,4,5,6,7,8,9,10,11,12,13])]],none⟩,
 ⟨58,7,[[(0,[]),(1,[0]),(2,[0,1]),(3,[0,1,2]),(4,[]),(5,[]),(6,[5]),(7,[5,6]),(8,[5,6,7]),(9,[5,6,7,8]),(10,[4,5,6,7,8,9]),(11,[0,1,2,3,4,5,6,7,8,9,10]),(12,[0,1,2,3,4,5,6,7,8,9,10,11]),(13,[0,1,2,3,4,5,6,7,8,9,10,11,12]),(14,[0,1,2,3,4,5,6,7,8,9,10,11,12,13]),(15,[]),(16,[15]),(17,[15,16]),(18,[15,16,17]),(19,[]),(20,[19]),(21,[19,20]),(22,[]),(23,[22]),(24,[22,23]),(25,[22,23,24]),(26,[22,23,24,25]),(27,[19,20,21,22,23,24,25,26]),(28,[15,16,17,18,19,20,21,22,23,24,25,26,27]),(29,[15,16,17,18,19,20,21,22,23,24,25,26,27,28]),(30,[15,16,17,18,19,20,21,22,23,24,25,26,27,28,29]),(31,[15,16,17,18,19,20,21,22,23,24,25,26,27,28,29,30]),(32,[0,1,2,3,4,5,6,7,8,9,10,11,12,13,14,15,16,17,18,19,20,21,22,23,24,25,26,27,28,29,30,31]),(33,[]),(34,[33]),(35,[0,1,2,3,4,5,6,7,8,9,10,11,12,13,14,15,16,17,18,19,20,21,22,23,24,25,26,27,28,29,30,31,32,33,34]),(36,[]),(37,[]),(38,[37]),(39,[37,38]),(40,[37,38,39]),(41,[37,38,39,40]),(42,[36,37,38,39,40,41]),(43,[36,37,38,39,40,41,42]),(44,[0,1,2,3,4,5,6,7,8,9,10,11,12,13,14,15,16,17,18,19,20,21,22,23,24,25,26,27,28,29,30,31,32,33,34,35,36,37,38,39,40,41,42,43]),(45,[0,1,2,3,4,5,6,7,8,9,10,11,12,13,14,15,16,17,18,19,20,21,22,23,24,25,26,27,28,29,30,31,32,33,34,35,36,37,38,39,40,41,42,43,44])]],none⟩,
 ⟨59,6,[[(0,[]),(1,[]),(2,[]),(3,[1,2]),(5,[]),(6,[]),(7,[6]),(8,[5,6,7]),(4,[0,1,2,3]),(9,[0,1,2,3,4,5,6,7,8]),(10,[0,1,2,3,4,5,6,7,8,9])]],none⟩,
 ⟨59,8,[[(0,[]),(1,[]),(2,[]),(3,[1,2]),(5,[]),(10,[]),(11,[]),(12,[10,11]),(4,[0,1,2,3]),(6,[0,1,2,3,4,5]),(7,[0,1,2,3,4,5,6]),(8,[0,1,2,3,4,5,6,7]),(9,[0,1,2,3,4,5,6,7,8]),(13,[0,1,2,3,4,5,6,7,8,9,10,11,12]),(14,[0,1,2,3,4,5,6,7,8,9,10,11,12,13])]],none⟩,
 ⟨59,10,[[(0,[]),(1,[]),(2,[]),(3,[]),(4,[2,3]),(5,[2,3,4]),(6,[]),(7,[6]),(8,[6,7]),(9,[6,7,8]),(10,[2,3,4,5,6,7,8,9]),(11,[0,1,2,3,4,5,6,7,8,9,10]),(12,[0,1,2,3,4,5,6,7,8,9,10,11])]],none⟩,
 ⟨67,1,[[(0,[]),(1,[0]),(2,[]),(3,[2]),(4,[0,1]),(5,[0,1,2,3,4])]],none⟩,
 ⟨69,1,[[(0,[]),(1,[]),(2,[1]),(3,[1,2]),(4,[]),(5,[1,2,3,4]),(6,[0]),(7,[0,1,2,3,4,5,6])]],none⟩,
 ⟨70,1,[[(0,[]),(1,[0]),(2,[]),(3,[2]),(4,[0,1]),(5,[0,1,2,3,4])]],none⟩,
 ⟨71,1,[[(0,[]),(1,[]),(2,[1]),(3,[1,2]),(4,[]),(5,[1,2,3,4]),(6,[0]),(7,[0,1,2,3,4,5,6])]],none⟩,
 ⟨77,3,[[(0,[]),(1,[0]),(2,[0,1]),(3,[0,1,2]),(4,[]),(5,[4]),(6,[4,5]),(7,[4,5,6]),(8,[0,1,2,3,4,5,6,7]),(9,[]),(10,[0,1,2,3,4,5,6,7,8,9])]],none⟩,
 ⟨77,9,[[(0,[]),(1,[0]),(2,[]),(3,[]),(4,[2,3]),(5,[2,3,4]),(6,[2,3,4,5]),(7,[]),(8,[]),(9,[8]),(10,[7,8,9]),(11,[7,8,9,10]),(12,[7,8,9,10,11]),(13,[]),(14,[]),(15,[14]),(16,[13,14,15]),(17,[13,14,15,16]),(18,[13,14,15,16,17]),(19,[]),(20,[]),(21,[20]),(22,[19,20,21]),(23,[19,20,21,22]),(24,[19,20,21,22,23]),(25,[2,3,4,5,6,7,8,9,10,11,12,13,14,15,16,17,18,19,20,21,22,23,24]),(26,[2,3,4,5,6,7,8,9,10,11,12,13,14,15,16,17,18,19,20,21,22,23,24,25]),(27,[0,1,2,3,4,5,6,7,8,9,10,11,12,13,14,15,16,17,18,19,20,21,22,23,24,25,26]),(28,[0,1,2,3,4,5,6,7,8,9,10,11,12,13,14,15,16,17,18,19,20,21,22,23,24,25,26,27]),(29,[0,1,2,3,4,5,6,7,8,9,10,11,12,13,14,15,16,17,18,19,20,21,22,23,24,25,26,27,28])]],none⟩,
 ⟨78,5,[[(0,[]),(1,[0]),(2,[]),(3,[2]),(4,[]),(5,[]),(6,[5]),(7,[4,5,6]),(8,[]),(9,[8]),(10,[]),(11,[10]),(12,[8,9,10,11]),(13,[2,3,4,5,6,7,8,9,10,11,12]),(14,[0,1,2,3,4,5,6,7,8,9,10,11,12,13]),(15,[0,1,2,3,4,5,6,7,8,9,10,11,12,13,14]),(16,[0,1,2,3,4,5,6,7,8,9,10,11,12,13,14,15])]],none⟩,
 ⟨79,3,[[(0,[]),(1,[0]),(2,[0,1]),(3,[0,1,2]),(4,[]),(5,[4]),(6,[4,5]),(7,[4,5,6]),(8,[0,1,2,3,4,5,6,7]),(9,[]),(10,[0,1,2,3,4,5,6,7,8,9])]],none⟩,
 ⟨79,10,[[(0,[]),(1,[0]),(2,[]),(3,[]),(4,[3]),(5,[2,3,4]),(6,[2,3,4,5]),(7,[2,3,4,5,6]),(8,[]),(9,[]),(10,[9]),(11,[8,9,10]),(12,[8,9,10,11]),(13,[8,9,10,11,12]),(14,[]),(15,[]),(16,[15]),(17,[14,15,16]),(18,[14,15,16,17]),(19,[14,15,16,17,18]),(20,[]),(21,[]),(22,[21]),(23,[20,21,22]),(24,[20,21,22,23]),(25,[20,21,22,23,24]),(26,[2,3,4,5,6,7,8,9,10,11,12,13,14,15,16,17,18,19,20,21,22,23,24,25]),(27,[2,3,4,5,6,7,8,9,10,11,12,13,14,15,16,17,18,19,20,21,22,23,24,25,26]),(28,[0,1,2,3,4,5,6,7,8,9,10,11,12,13,14,15,16,17,18,19,20,21,22,23,24,25,26,27]),(29,[0,1,2,3,4,5,6,7,8,9,10,11,12,13,14,15,16,17,18,19,20,21,22,23,24,25,26,27,28]),(30,[0,1,2,3,4,5,6,7,8,9,10,11,12,13,14,15,16,17,18,19,20,21,22,23,24,25,26,27,28,29])]],none⟩,
 ⟨79,13,[[(0,[]),(1,[]),(2,[1]),(3,[1,2]),(4,[]),(5,[4]),(6,[]),(7,[6]),(8,[4,5,6,7]),(9,[1,2,3,4,5,6,7,8]),(10,[0]),(11,[0,1,2,3,4,5,6,7,8,9,10])]],none⟩,
 ⟨80,19,[[(0,[]),(1,[]),(2,[]),(4,[]),(5,[4]),(6,[4,5]),(7,[4,5,6]),(3,[1,2]),(8,[1,2,3,4,5,6,7]),(9,[1,2,3,4,5,6,7,8]),(10,[0,1,2,3,4,5,6,7,8,9]),(11,[0,1,2,3,4,5,6,7,8,9,10])]],none⟩,
 ⟨83,8,[[(0,[]),(1,[0]),(2,[]),(3,[2]),(4,[]),(5,[4]),(6,[]),(7,[4,5,6]),(8,[]),(9,[8]),(10,[4,5,6,7,8,9]),(11,[]),(12,[11]),(13,[4,5,6,7,8,9,10,11,12]),(14,[]),(15,[4,5,6,7,8,9,10,11,12,13,14]),(16,[2,3,4,5,6,7,8,9,10,11,12,13,14,15]),(17,[2,3,4,5,6,7,8,9,10,11,12,13,14,15,16]),(18,[2,3,4,5,6,7,8,9,10,11,12,13,14,15,16,17]),(19,[0,1,2,3,4,5,6,7,8,9,10,11,12,13,14,15,16,17,18]),(20,[0,1,2,3,4,5,6,7,8,9,10,11,12,13,14,15,16,17,18,19]),(21,[0,1,2,3,4,5,6,7,8,9,10,11,12,13,14,15,16,17,18,19,20])]],none⟩,
 ⟨84,8,[[(0,[]),(1,[0]),(2,[]),(3,[2]),(4,[]),(5,[]),(6,[5]),(7,[4,5,6]),(8,[]),(9,[4,5,6,7,8]),(10,[2,3,4,5,6,7,8,9]),(11,[2,3,4,5,6,7,8,9,10]),(12,[2,3,4,5,6,7,8,9,10,11]),(13,[0,1,2,3,4,5,6,7,8,9,10,11,12]),(14,[0,1,2,3,4,5,6,7,8,9,10,11,12,13]),(15,[0,1,2,3,4,5,6,7,8,9,10,11,12,13,14])]],none⟩,
 ⟨85,8,[[(0,[]),(1,[0]),(2,[]),(3,[2]),(4,[]),(5,[4]),(6,[4,5]),(7,[]),(8,[4,5,6,7]),(9,[]),(10,[9]),(11,[4,5,6,7,8,9,10]),(12,[]),(13,[4,5,6,7,8,9,10,11,12]),(14,[2,3,4,5,6,7,8,9,10,11,12,13]),(15,[2,3,4,5,6,7,8,9,10,11,12,13,14]),(16,[2,3,4,5,6,7,8,9,10,11,12,13,14,15]),(17,[0,1,2,3,4,5,6,7,8,9,10,11,12,13,14,15,16]),(18,[0,1,2,3,4,5,6,7,8,9,10,11,12,13,14,15,16,17]),(19,[0,1,2,3,4,5,6,7,8,9,10,11,12,13,14,15,16,17,18])]],none⟩,
 ⟨86,8,[[(0,[]),(1,[0]),(2,[]),(3,[2]),(4,[]),(5,[4]),(6,[4,5]),(7,[]),(8,[7]),(9,[4,5,6,7,8]),(10,[]),(11,[10]),(12,[10,11]),(13,[4,5,6,7,8,9,10,11,12]),(14,[]),(15,[14]),(16,[4,5,6,7,8,9,10,11,12,13,14,15]),(17,[]),(18,[17]),(19,[17,18]),(20,[]),(21,[20]),(22,[17,18,19,20,21]),(23,[]),(24,[23]),(25,[23,24]),(26,[17,18,19,20,21,22,23,24,25]),(27,[4,5,6,7,8,9,10,11,12,13,14,15,16,17,18,19,20,21,22,23,24,25,26]),(28,[2,3,4,5,6,7,8,9,10,11,12,13,14,15,16,17,18,19,20,21,22,23,24,25,26,27]),(29,[2,3,4,5,6,7,8,9,10,11,12,13,14,15,16,17,18,19,20,21,22,23,24,25,26,27,28]),(30,[2,3,4,5,6,7,8,9,10,11,12,13,14,15,16,17,18,19,20,21,22,23,24,25,26,27,28,29]),(31,[0,1,2,3,4,5,6,7,8,9,10,11,12,13,14,15,16,17,18,19,20,21,22,23,24,25,26,27,28,29,30]),(32,[0,1,2,3,4,5,6,7,8,9,10,11,12,13,14,15,16,17,18,19,20,21,22,23,24,25,26,27,28,29,30,31]),(33,[0,1,2,3,4,5,6,7,8,9,10,11,12,13,14,15,16,17,18,19,20,21,22,23,24,25,26,27,28,29,30,31,32])]],none⟩,
 ⟨87,8,[[(0,[]),(1,[0]),(2,[]),(3,[2]),(4,[]),(5,[2,3,4]),(6,[2,3,4,5]),(7,[2,3,4,5,6]),(8,[2,3,4,5,6,7]),(9,[0,1,2,3,4,5,6,7,8]),(10,[0,1,2,3,4,5,6,7,8,9]),(11,[0,1,2,3,4,5,6,7,8,9,10])]],none⟩,
 ⟨87,10,[[(0,[]),(1,[0]),(2,[]),(3,[]),(4,[]),(5,[4]),(6,[3,4,5]),(7,[]),(8,[]),(9,[8]),(10,[7,8,9]),(11,[2,3,4,5,6,7,8,9,10]),(12,[2,3,4,5,6,7,8,9,10,11]),(13,[0,1,2,3,4,5,6,7,8,9,10,11,12]),(14,[0,1,2,3,4,5,6,7,8,9,10,11,12,13]),(15,[0,1,2,3,4,5,6,7,8,9,10,11,12,13,14])]],none⟩,
 ⟨87,6,[[(0,[]),(1,[0]),(2,[]),(3,[2]),(4,[]),(5,[2,3,4]),(6,[2,3,4,5]),(7,[]),(8,[2,3,4,5,6,7]),(9,[2,3,4,5,6,7,8]),(10,[0,1,2,3,4,5,6,7,8,9]),(11,[0,1,2,3,4,5,6,7,8,9,10]),(12,[0,1,2,3,4,5,6,7,8,9,10,11])]],none⟩,
 ⟨90,2,[[(0,[]),(1,[]),(2,[]),(5,[]),(9,[]),(10,[]),(13,[]),(17,[]),(20,[]),(3,[2]),(4,[1,2,3]),(6,[2,3,5]),(7,[1,2,3,4,5,6]),(8,[1,2,3,4,5,6,7]),(11,[2,3,5,6,10]),(12,[2,3,5,6,9,10,11]),(14,[2,3,5,6,10,11,13]),(15,[2,3,5,6,9,10,11,12,13,14]),(16,[2,3,5,6,9,10,11,12,13,14,15]),(18,[2,3,5,6,10,11,13,14,17]),(19,[2,3,5,6,10,11,13,14,17,18]),(21,[2,3,5,6,10,11,13,14,17,18,20]),(22,[2,3,5,6,10,11,13,14,17,18,19,20,21]),(23,[2,3,5,6,10,11,13,14,17,18,19,20,21,22]),(24,[0,1,2,3,4,5,6,7,8,9,10,11,12,13,14,15,16,17,18,19,20,21,22,23]),(25,[0,1,2,3,4,5,6,7,8,9,10,11,12,13,14,15,16,17,18,19,20,21,22,23,24])]],none⟩,
 ⟨91,1,[[(0,[]),(1,[0]),(2,[]),(3,[2]),(4,[0,1]),(5,[0,1,2,3,4])]],none⟩,
 ⟨92,1,[[(0,[]),(1,[0]),(2,[]),(3,[0,1,2]),(4,[]),(5,[4]),(6,[]),(7,[4,5,6]),(8,[0,1,2,3]),(9,[0,1,2,3,4,5,6,7,8])]],none⟩,
 ⟨97,1,[[(0,[]),(1,[]),(2,[]),(3,[]),(4,[1,2,3]),(5,[0,1,2,3,4]),(6,[0,1,2,3,4,5])]],none⟩,
 ⟨98,15,[[(0,[]),(1,[0]),(2,[]),(3,[0,1,2]),(4,[]),(5,[4]),(6,[]),(7,[4,5,6]),(8,[]),(9,[8]),(10,[]),(11,[8,9,10]),(12,[]),(13,[12]),(14,[]),(15,[12,13,14]),(16,[0,1,2,3,4,5,6,7,8,9,10,11,12,13,14,15]),(17,[0,1,2,3,4,5,6,7,8,9,10,11,12,13,14,15,16])]],none⟩,
 ⟨99,1,[[(0,[]),(1,[0]),(2,[]),(3,[2]),(4,[0,1]),(5,[0,1,2,3,4])]],none⟩,
 ⟨100,1,[[(0,[]),(1,[0]),(2,[0,1]),(3,[]),(4,[3]),(5,[0,1,2,3,4]),(6,[]),(7,[6]),(8,[6,7]),(9,[0,1,2,3,4,5,6,7,8]),(10,[]),(11,[10]),(12,[10,11]),(13,[]),(14,[13]),(15,[10,11,12,13,14]),(16,[]),(17,[16]),(18,[16,17]),(19,[10,11,12,13,14,15,16,17,18]),(20,[0,1,2,3,4,5,6,7,8,9]),(21,[0,1,2,3,4,5,6,7,8,9,10,11,12,13,14,15,16,17,18,19,20])]],none⟩,
 ⟨101,2,[[(0,[]),(1,[]),(2,[1]),(3,[]),(4,[3]),(6,[]),(7,[]),(8,[7]),(9,[]),(10,[9]),(12,[]),(13,[]),(14,[13]),(15,[]),(16,[15]),(5,[0,1,2,3,4]),(11,[0,1,2,3,4,5,6,7,8,9,10]),(17,[0,1,2,3,4,5,6,7,8,9,10,11,12,13,14,15,16]),(18,[0,1,2,3,4,5,6,7,8,9,10,11,12,13,14,15,16,17]),(19,[0,1,2,3,4,5,6,7,8,9,10,11,12,13,14,15,16,17,18])]],none⟩,
 ⟨105,7,[[(0,[]),(1,[]),(3,[]),(4,[3]),(5,[3,4]),(6,[3,4,5]),(2,[0,1]),(7,[0,1,2,3,4,5,6]),(8,[0,1,2,3,4,5,6,7])]],none⟩,
 ⟨107,12,[[(0,[]),(1,[0]),(2,[]),(3,[0,1,2]),(4,[]),(5,[4]),(6,[]),(7,[4,5,6]),(8,[]),(9,[8]),(10,[]),(11,[8,9,10]),(12,[]),(13,[12]),(14,[]),(15,[12,13,14]),(16,[0,1,2,3,4,5,6,7,8,9,10,11,12,13,14,15]),(17,[0,1,2,3,4,5,6,7,8,9,10,11,12,13,14,15,16])]],none⟩,
 ⟨110,5,[[(0,[]),(1,[]),(2,[0,1]),(3,[]),(4,[3]),(5,[3,4]),(6,[0,1,2,3,4,5]),(7,[0,1,2,3,4,5,6]),(8,[0,1,2,3,4,5,6,7]),(9,[0,1,2,3,4,5,6,7,8]),(10,[0,1,2,3,4,5,6,7]),(11,[0,1,2,3,4,5,6,7]),(12,[0,1,2,3,4,5,6,7,10,11]),(13,[0,1,2,3,4,5,6,7,8,9,10,11,12]),(14,[0,1,2,3,4,5,6,7,8,9,10,11,12,13]),(15,[0,1,2,3,4,5,6,7]),(16,[0,1,2,3,4,5,6,7,15]),(17,[0,1,2,3,4,5,6,7]),(18,[0,1,2,3,4,5,6,7,15,16,17]),(19,[0,1,2,3,4,5,6,7,15,16,17,18]),(20,[0,1,2,3,4,5,6,7,8,9,10,11,12,13,14,15,16,17,18,19]),(21,[0,1,2,3,4,5,6,7,8,9,10,11,12,13,14,15,16,17,18,19,20])]],none⟩,
 ⟨113,13,[[(0,[]),(1,[]),(2,[1]),(3,[]),(4,[]),(5,[4]),(6,[3,4,5]),(7,[3,4,5,6]),(8,[]),(9,[]),(10,[8,9]),(11,[8,9,10]),(12,[8,9,10,11]),(13,[]),(14,[8,9,10,11,12,13]),(15,[8,9,10,11,12,13,14]),(16,[]),(17,[16]),(18,[8,9,10,11,12,13,14,15,16,17]),(19,[8,9,10,11,12,13,14,15,16,17,18]),(20,[3,4,5,6,7,8,9,10,11,12,13,14,15,16,17,18,19]),(21,[0,1,2,3,4,5,6,7,8,9,10,11,12,13,14,15,16,17,18,19,20]),(22,[0,1,2,3,4,5,6,7,8,9,10,11,12,13,14,15,16,17,18,19,20,21])]],none⟩,
 ⟨114,4,[[(0,[]),(1,[]),(2,[0,1]),(3,[0,1,2]),(5,[]),(4,[0,1,2,3]),(6,[5]),(7,[0,1,2,3,4,5,6])],
  [(0,[]),(1,[]),(2,[0,1]),(3,[0,1,2]),(5,[]),(6,[5]),(4,[0,1,2,3]),(7,[0,1,2,3,4,5,6])]],none⟩,
 ⟨115,1,[[(0,[]),(1,[0]),(2,[0,1]),(3,[0,1,2]),(4,[0,1,2,3]),(5,[0,1,2,3,4]),(6,[0,1,2,3]),(7,[0,1,2,3,6]),(8,[0,1,2,3,6,7]),(9,[0,1,2,3,6,7,8]),(10,[0,1,2,3,4,5,6,7,8,9]),(11,[0,1,2,3,4,5,6,7,8,9,10]),(12,[0,1,2,3,4,5,6,7,8,9,10,11])]],none⟩,
 ⟨133,3,[[(0,[]),(1,[0]),(2,[0,1]),(3,[0,1,2]),(4,[]),(5,[4]),(6,[4,5]),(7,[4,5,6]),(8,[]),(9,[0,1,2,3,8]),(10,[0,1,2,3,4,5,6,7,8,9])]],none⟩,
 ⟨136,1,[[(0,[]),(1,[0]),(2,[0,1]),(3,[0,1,2]),(4,[]),(5,[4]),(6,[4,5]),(7,[4,5,6]),(8,[]),(9,[8]),(10,[8,9]),(11,[8,9,10]),(12,[]),(13,[12]),(14,[12,13]),(15,[12,13,14]),(16,[0,1,2,3,4,5,6,7,8,9,10,11,12,13,14,15]),(17,[0,1,2,3,4,5,6,7,8,9,10,11,12,13,14,15,16])]],none⟩,
 ⟨142,3,[[(0,[]),(1,[0]),(2,[0,1]),(3,[0,1,2]),(4,[]),(5,[4]),(6,[4,5]),(7,[4,5,6]),(8,[0,1,2,3]),(9,[0,1,2,3,4,5,6,7,8])]],none⟩,
 ⟨143,5,[[(0,[]),(1,[]),(2,[1]),(3,[1,2]),(4,[0,1,2,3]),(5,[0,1,2,3,4]),(6,[0,1,2,3,4,5]),(7,[0,1,2,3,4,5,6]),(8,[0,1,2,3,4,5]),(9,[0,1,2,3,4,5,6,7,8]),(10,[0,1,2,3,4,5,6,7,8,9]),(11,[0,1,2,3,4,5]),(12,[0,1,2,3,4,5,11]),(13,[0,1,2,3,4,5]),(14,[0,1,2,3,4,5,11,12,13]),(15,[0,1,2,3,4,5,11,12,13,14]),(16,[0,1,2,3,4,5,6,7,8,9,10,11,12,13,14,15]),(17,[0,1,2,3,4,5,6,7,8,9,10,11,12,13,14,15,16])]],none⟩,
 ⟨148,1,[[(0,[]),(1,[0]),(2,[0,1]),(3,[0,1,2]),(4,[0,1,2,3]),(5,[0,1,2,3,4]),(6,[0,1,2,3,4,5]),(7,[0,1,2,3,4,5,6]),(8,[0,1,2,3,4,5,6,7]),(9,[0,1,2,3,4,5,6,7,8]),(10,[0,1,2,3,4,5,6,7,8,9]),(11,[0,1,2,3,4,5,6,7,8,9,10]),(12,[0,1,2,3,4,5,6,7,8,9,10,11]),(13,[0,1,2,3,4,5,6,7,8,9,10,11,12]),(14,[0,1,2,3,4,5,6,7,8,9,10,11,12,13]),(15,[0,1,2,3,4,5,6,7,8,9,10,11,12,13,14]),(16,[0,1,2,3,4,5,6,7,8,9,10,11,12,13,14,15]),(17,[0,1,2,3,4,5,6,7,8,9,10,11,12,13,14,15,16]),(18,[0,1,2,3,4,5,6,7,8,9,10,11,12,13,14,15,16,17]),(19,[0,1,2,3,4,5,6,7,8,9,10,11,12,13,14,15,16,17,18]),(20,[0,1,2,3,4,5,6,7,8,9,10,11,12,13,14,15,16,17,18,19]),(21,[0,1,2,3,4,5,6,7,8,9,10,11,12,13,14,15,16,17,18,19,20]),(22,[0,1,2,3,4,5,6,7,8,9,10,11,12,13,14,15,16,17,18,19,20,21]),(23,[0,1,2,3,4,5,6,7,8,9,10,11,12,13,14,15,16,17,18,19,20,21,22]),(24,[0,1,2,3,4,5,6,7,8,9,10,11,12,13,14,15,16,17,18,19,20,21,22,23]),(25,[0,1,2,3,4,5,6,7,8,9,10,11,12,13,14,15,16,17,18,19,20,21,22,23,24]),(26,[0,1,2,3,4,5,6,7,8,9,10,11,12,13,14,15,16,17,18,19]),(27,[0,1,2,3,4,5,6,7,8,9,10,11,12,13,14,15,16,17,18,19,26]),(28,[0,1,2,3,4,5,6,7,8,9,10,11,12,13,14,15,16,17,18,19,26,27]),(29,[0,1,2,3,4,5,6,7,8,9,10,11,12,13,14,15,16,17,18,19,26,27,28]),(30,[0,1,2,3,4,5,6,7,8,9,10,11,12,13,14,15,16,17,18,19,20,21,22,23,24,25,26,27,28,29]),(31,[0,1,2,3,4,5,6,7,8,9,10,11,12,13,14,15,16,17,18,19]),(32,[0,1,2,3,4,5,6,7,8,9,10,11,12,13,14,15,16,17,18,19,20,21,22,23,24,25,26,27,28,29,30,31]),(33,[0,1,2,3,4,5,6,7,8,9,10,11,12,13,14,15,16,17,18,19,20,21,22,23,24,25,26,27,28,29,30,31,32])]],none⟩,
 ⟨148,8,[[(0,[]),(1,[]),(2,[1]),(3,[1,2]),(4,[1,2,3]),(5,[]),(6,[5]),(7,[5,6]),(8,[5,6,7]),(9,[5,6,7,8]),(10,[1,2,3,4,5,6,7,8,9]),(11,[1,2,3,4,5,6,7,8,9,10]),(12,[]),(13,[12]),(14,[12,13]),(15,[12,13,14]),(16,[12,13,14,15]),(17,[1,2,3,4,5,6,7,8,9,10,11,12,13,14,15,16]),(18,[1,2,3,4,5,6,7,8,9,10,11,12,13,14,15,16,17]),(19,[1,2,3,4,5,6,7,8,9,10,11,12,13,14,15,16,17,18]),(20,[]),(21,[1,2,3,4,5,6,7,8,9,10,11,12,13,14,15,16,17,18,19,20]),(22,[0,1,2,3,4,5,6,7,8,9,10,11,12,13,14,15,16,17,18,19,20,21]),(23,[0,1,2,3,4,5,6,7,8,9,10,11,12,13,14,15,16,17,18,19,20,21,22])]],none⟩,
 ⟨149,3,[[(0,[]),(1,[]),(2,[1]),(3,[1,2]),(4,[1,2,3]),(5,[]),(6,[5]),(7,[5,6]),(8,[5,6,7]),(9,[5,6,7,8]),(10,[]),(11,[10]),(12,[10,11]),(13,[10,11,12]),(14,[10,11,12,13]),(15,[10,11,12,13,14]),(16,[5,6,7,8,9,10,11,12,13,14,15]),(17,[5,6,7,8,9,10,11,12,13,14,15,16]),(18,[1,2,3,4,5,6,7,8,9,10,11,12,13,14,15,16,17]),(19,[0,1,2,3,4,5,6,7,8,9,10,11,12,13,14,15,16,17,18]),(20,[0,1,2,3,4,5,6,7,8,9,10,11,12,13,14,15,16,17,18,19]),(21,[0,1,2,3,4,5,6,7,8,9,10,11,12,13,14,15,16,17,18,19,20])]],none⟩,
 ⟨149,12,[[(0,[]),(1,[]),(2,[1]),(3,[1,2]),(4,[1,2,3]),(5,[]),(6,[5]),(7,[5,6]),(8,[5,6,7]),(9,[]),(10,[9]),(11,[]),(12,[9,10,11]),(13,[5,6,7,8,9,10,11,12]),(14,[5,6,7,8,9,10,11,12,13]),(15,[5,6,7,8,9,10,11,12,13,14]),(16,[1,2,3,4,5,6,7,8,9,10,11,12,13,14,15]),(17,[0,1,2,3,4,5,6,7,8,9,10,11,12,13,14,15,16]),(18,[0,1,2,3,4,5,6,7,8,9,10,11,12,13,14,15,16,17]),(19,[0,1,2,3,4,5,6,7,8,9,10,11,12,13,14,15,16,17,18])]],none⟩,
 ⟨155,1,[[(0,[]),(1,[0]),(2,[0,1]),(3,[0,1,2]),(4,[0,1,2,3]),(5,[0,1,2,3,4]),(6,[0,1,2,3,4,5]),(7,[0,1,2,3,4,5,6]),(8,[0,1,2,3,4,5,6,7]),(9,[0,1,2,3,4,5,6,7,8]),(10,[0,1,2,3,4,5,6,7,8,9]),(11,[0,1,2,3,4,5,6,7,8,9,10]),(12,[0,1,2,3,4,5,6,7,8,9,10,11]),(13,[0,1,2,3,4,5,6,7,8,9,10,11,12]),(14,[0,1,2,3,4,5,6,7,8,9]),(15,[0,1,2,3,4,5,6,7,8,9,14]),(16,[0,1,2,3,4,5,6,7,8,9,10,11,12,13,14,15]),(17,[0,1,2,3,4,5,6,7,8,9,10,11,12,13,14,15,16]),(18,[0,1,2,3,4,5,6,7,8,9,10,11,12,13,14,15,16,17])]],none⟩,
 ⟨155,8,[[(0,[]),(1,[0]),(2,[0,1]),(3,[0,1,2]),(4,[]),(5,[4]),(6,[4,5]),(7,[4,5,6]),(8,[4,5,6,7]),(9,[0,1,2,3,4,5,6,7,8]),(10,[0,1,2,3,4,5,6,7,8,9]),(11,[]),(12,[11]),(13,[]),(14,[11,12,13]),(15,[11,12,13,14]),(16,[11,12,13,14,15]),(17,[]),(18,[17]),(19,[17,18]),(20,[17,18,19]),(21,[17,18,19,20]),(22,[11,12,13,14,15,16,17,18,19,20,21]),(23,[0,1,2,3,4,5,6,7,8,9,10,11,12,13,14,15,16,17,18,19,20,21,22]),(24,[0,1,2,3,4,5,6,7,8,9,10,11,12,13,14,15,16,17,18,19,20,21,22,23]),(25,[0,1,2,3,4,5,6,7,8,9,10,11,12,13,14,15,16,17,18,19,20,21,22,23,24])]],none⟩,
 ⟨157,1,[[(0,[]),(1,[0]),(2,[0,1]),(3,[0,1,2]),(4,[0,1,2,3]),(5,[0,1,2,3,4]),(6,[0,1,2,3,4,5]),(7,[0,1,2,3,4,5,6]),(8,[0,1,2,3,4,5,6,7]),(9,[0,1,2,3,4,5,6,7,8]),(10,[0,1,2,3,4,5,6,7,8,9]),(11,[0,1,2,3,4,5,6,7,8,9,10]),(12,[0,1,2,3,4,5,6,7,8,9,10,11]),(13,[0,1,2,3,4,5,6,7,8,9,10,11,12]),(14,[0,1,2,3,4,5,6,7,8,9,10,11,12,13]),(15,[0,1,2,3,4,5,6,7,8,9,10,11,12,13,14]),(16,[0,1,2,3,4,5,6,7,8,9,10,11,12,13]),(17,[0,1,2,3,4,5,6,7,8,9,10,11,12,13,16]),(18,[0,1,2,3,4,5,6,7,8,9,10,11,12,13,16,17]),(19,[0,1,2,3,4,5,6,7,8,9,10,11,12,13,14,15,16,17,18]),(20,[0,1,2,3,4,5,6,7,8,9,10,11,12,13,14,15,16,17,18,19]),(21,[0,1,2,3,4,5,6,7,8,9,10,11,12,13,14,15,16,17,18,19,20])]],none⟩]
noncomputable def subs : List Nat := [98]
noncomputable def louds : List Nat := [111]
noncomputable def cuts : List Cut := [
 ⟨151,3,some [(147,12)],⟨true,[[1,5],[0]],[],[]⟩,[]⟩,
 ⟨153,0,some [(151,12),(147,12)],⟨true,[[0,1,2],[1,5],[0]],[],[]⟩,[]⟩,
 ⟨153,2,some [(151,12),(147,12)],⟨true,[[0,1,2],[1,5],[0]],[],[]⟩,[]⟩,
 ⟨153,0,some [(147,46)],⟨true,[[0,1,2],[3,4,5,6]],[],[]⟩,[]⟩,
 ⟨153,2,some [(147,46)],⟨true,[[0,1,2],[3,4,5,6]],[],[]⟩,[]⟩,
 ⟨147,7,some [],⟨true,[[3,4,5,6]],[],[]⟩,[]⟩,
 ⟨152,3,some [(147,20)],⟨true,[[1,6,11,12,13],[3,4,5,6]],[],[]⟩,[]⟩,
 ⟨147,9,some [],⟨true,[[3,4,5,6,7,8]],[],[]⟩,[]⟩,
 Cut.mk 14 2 (some [(3,64)]) (Tmpl.mk false [[0,1,5],[0,1,6,7,9,10,11]] [(Loc.slot 1 0,ku,true),(Loc.slot 1 1,k5,true)] [(Loc.slot 0 0,none),(Loc.slot 1 6,none),(Loc.slot 1 9,none),(Loc.slot 1 10,none)]) [],
 Cut.mk 15 2 (some [(3,67)]) (Tmpl.mk false [[0,1,5],[0,1,6,7,10,11]] [(Loc.slot 1 0,ku,true),(Loc.slot 1 1,k5,true)] [(Loc.slot 0 0,none),(Loc.slot 1 6,none),(Loc.slot 1 10,none)]) [],
 Cut.mk 14 2 (some [(3,83)]) (Tmpl.mk false [[0,1,5],[0,1,6,7,10]] [(Loc.slot 1 0,ku,true),(Loc.slot 1 1,k5,true)] [(Loc.slot 0 0,none),(Loc.slot 1 6,none)]) [],
 Cut.mk 4 11 (some []) (Tmpl.mk false [[3,4,6,9]] [] [(Loc.slot 0 3,none),(Loc.slot 0 4,none)]) [],
 Cut.mk 5 13 (some []) (Tmpl.mk false [[4,5,6,9,11,12]] [] [(Loc.slot 0 4,none),(Loc.slot 0 5,none),(Loc.slot 0 9,none),((Loc.slot 0 9).cell 2,none),(Loc.slot 0 11,none)]) [],
 Cut.mk 9 3 (some []) (Tmpl.mk false [[0,3,4]] [(Loc.slot 0 0,ku,true)] [(Loc.slot 0 3,none)]) [],
 Cut.mk 10 3 (some []) (Tmpl.mk false [[0,3,4]] [(Loc.slot 0 0,k5,true)] [(Loc.slot 0 3,none)]) [],
 Cut.mk 12 4 (some []) (Tmpl.mk false [[0,1,5]] [(Loc.slot 0 0,ku,true),(Loc.slot 0 1,ku,true)] []) [],
 Cut.mk 13 4 (some []) (Tmpl.mk false [[0,1,5]] [(Loc.slot 0 0,k5,true),(Loc.slot 0 1,k5,true)] []) [],
 Cut.mk 16 2 (some []) (Tmpl.mk false [[0,1,5]] [(Loc.slot 0 0,ku,true)] []) [],
 Cut.mk 41 3 (some [(23,25)]) (Tmpl.mk false [[0,1,2,6,7,15,16],[1,4]] [(((Loc.slot 0 2).cell 0).cell 2,k4,true),(Loc.slot 1 1,k5,true)] [((Loc.slot 0 2).cell 0,none),(Loc.slot 0 6,none),(Loc.slot 0 7,none),(Loc.slot 1 4,none)]) [(Loc.slot 0 2,42)],
 Cut.mk 41 7 (some [(23,25)]) (Tmpl.mk false [[0,1,2,6,7,8,9,15,16,24,25],[1,4]] [(((Loc.slot 0 2).cell 0).cell 2,k4,true),(Loc.slot 1 1,k5,true)] [((Loc.slot 0 2).cell 0,none),(Loc.slot 0 6,none),(Loc.slot 0 7,none),(Loc.slot 1 4,none)]) [(Loc.slot 0 2,42)],
 Cut.mk 23 5 (some []) (Tmpl.mk false [[4,6,26,27,28]] [(Loc.slot 0 26,k5,true)] [(Loc.slot 0 4,none),(Loc.slot 0 6,none),((Loc.slot 0 6).cell 2,none)]) [],
 Cut.mk 41 3 (some [(94,17),(93,27),(23,7036)]) (Tmpl.mk false [[0,1,2,6,7,15,16],[4],[4],[4,6,26,27,28]] [(Loc.slot 3 26,k5,true)] [((Loc.slot 0 2).cell 0,none),((((Loc.slot 0 2).cell 0).cell 0).cell 0,none),((Loc.slot 0 2).cell 1,none),(((Loc.slot 0 2).cell 1).cell 2,none),(Loc.slot 0 6,none),(Loc.slot 0 7,none),(Loc.slot 1 4,none),(Loc.slot 2 4,none),(Loc.slot 3 4,none),(Loc.slot 3 6,none)]) [(Loc.slot 0 2,95),(((Loc.slot 0 2).cell 0).cell 0,92)],
 Cut.mk 41 3 (some [(94,17),(23,7036)]) (Tmpl.mk false [[0,1,2,6,7,15,16],[4],[4,6,26,27,28]] [(Loc.slot 2 26,k5,true)] [((Loc.slot 0 2).cell 0,none),((Loc.slot 0 2).cell 1,none),(((Loc.slot 0 2).cell 1).cell 2,none),(Loc.slot 0 6,none),(Loc.slot 0 7,none),(Loc.slot 1 4,none),(Loc.slot 2 4,none),(Loc.slot 2 6,none)]) [(Loc.slot 0 2,95),(((Loc.slot 0 2).cell 0).cell 0,68)],
 Cut.mk 41 3 (some [(94,17),(23,7036)]) (Tmpl.mk false [[0,1,2,6,7,15,16],[4],[4,6,26,27,28]] [(Loc.slot 2 26,k5,true)] [((Loc.slot 0 2).cell 0,none),((Loc.slot 0 2).cell 1,none),(((Loc.slot 0 2).cell 1).cell 2,none),(Loc.slot 0 6,none),(Loc.slot 0 7,none),(Loc.slot 1 4,none),(Loc.slot 2 4,none),(Loc.slot 2 6,none)]) [(Loc.slot 0 2,95),(((Loc.slot 0 2).cell 0).cell 0,69)],
 Cut.mk 41 3 (some [(94,17),(23,7036)]) (Tmpl.mk false [[0,1,2,6,7,15,16],[4],[4,6,26,27,28]] [(Loc.slot 2 26,k5,true)] [((Loc.slot 0 2).cell 0,none),((Loc.slot 0 2).cell 1,none),(((Loc.slot 0 2).cell 1).cell 2,none),(Loc.slot 0 6,none),(Loc.slot 0 7,none),(Loc.slot 1 4,none),(Loc.slot 2 4,none),(Loc.slot 2 6,none)]) [(Loc.slot 0 2,95),(((Loc.slot 0 2).cell 0).cell 0,71)],
 Cut.mk 41 3 (some [(96,10),(23,7036)]) (Tmpl.mk false [[0,1,2,6,7,15,16],[3],[4,6,26,27,28]] [(Loc.slot 2 26,k5,true)] [((Loc.slot 0 2).cell 0,none),((Loc.slot 0 2).cell 1,none),(((Loc.slot 0 2).cell 1).cell 2,none),(Loc.slot 0 6,none),(Loc.slot 0 7,none),(Loc.slot 1 3,none),(Loc.slot 2 4,none),(Loc.slot 2 6,none)]) [(Loc.slot 0 2,97),(((Loc.slot 0 2).cell 0).cell 0,73)],
 Cut.mk 41 3 (some [(94,17),(23,7036)]) (Tmpl.mk false [[0,1,2,6,7,15,16],[4],[4,6,26,27,28]] [(Loc.slot 2 26,k5,true)] [((Loc.slot 0 2).cell 0,none),((((Loc.slot 0 2).cell 0).cell 0).cell 0,none),((Loc.slot 0 2).cell 1,none),(((Loc.slot 0 2).cell 1).cell 2,none),(Loc.slot 0 6,none),(Loc.slot 0 7,none),(Loc.slot 1 4,none),(Loc.slot 2 4,none),(Loc.slot 2 6,none)]) [(Loc.slot 0 2,95),(((Loc.slot 0 2).cell 0).cell 0,100)],
 Cut.mk 41 3 (some [(96,10),(23,7036)]) (Tmpl.mk false [[0,1,2,6,7,15,16],[3],[4,6,26,27,28]] [(Loc.slot 2 26,k5,true)] [((Loc.slot 0 2).cell 0,none),((((Loc.slot 0 2).cell 0).cell 0).cell 0,none),((Loc.slot 0 2).cell 1,none),(((Loc.slot 0 2).cell 1).cell 2,none),(Loc.slot 0 6,none),(Loc.slot 0 7,none),(Loc.slot 1 3,none),(Loc.slot 2 4,none),(Loc.slot 2 6,none)]) [(Loc.slot 0 2,97),(((Loc.slot 0 2).cell 0).cell 0,101)],
 Cut.mk 41 3 (some [(94,17),(93,27),(23,6036)]) (Tmpl.mk false [[0,1,2,6,7,15,16],[4],[4],[4,6,9,26,27,28]] [(Loc.slot 3 26,k5,true)] [((Loc.slot 0 2).cell 0,none),((((Loc.slot 0 2).cell 0).cell 0).cell 0,none),((Loc.slot 0 2).cell 1,none),(((Loc.slot 0 2).cell 1).cell 2,none),(Loc.slot 0 6,none),(Loc.slot 0 7,none),(Loc.slot 1 4,none),(Loc.slot 2 4,none),(Loc.slot 3 4,none),(Loc.slot 3 6,none),(Loc.slot 3 9,none)]) [(Loc.slot 0 2,95),(((Loc.slot 0 2).cell 0).cell 0,92)],
 Cut.mk 41 3 (some [(94,17),(23,6036)]) (Tmpl.mk false [[0,1,2,6,7,15,16],[4],[4,6,9,26,27,28]] [(Loc.slot 2 26,k5,true)] [((Loc.slot 0 2).cell 0,none),((Loc.slot 0 2).cell 1,none),(((Loc.slot 0 2).cell 1).cell 2,none),(Loc.slot 0 6,none),(Loc.slot 0 7,none),(Loc.slot 1 4,none),(Loc.slot 2 4,none),(Loc.slot 2 6,none),(Loc.slot 2 9,none)]) [(Loc.slot 0 2,95),(((Loc.slot 0 2).cell 0).cell 0,68)],
 Cut.mk 41 3 (some [(94,17),(23,6036)]) (Tmpl.mk false [[0,1,2,6,7,15,16],[4],[4,6,9,26,27,28]] [(Loc.slot 2 26,k5,true)] [((Loc.slot 0 2).cell 0,none),((Loc.slot 0 2).cell 1,none),(((Loc.slot 0 2).cell 1).cell 2,none),(Loc.slot 0 6,none),(Loc.slot 0 7,none),(Loc.slot 1 4,none),(Loc.slot 2 4,none),(Loc.slot 2 6,none),(Loc.slot 2 9,none)]) [(Loc.slot 0 2,95),(((Loc.slot 0 2).cell 0).cell 0,69)],
 Cut.mk 41 3 (some [(94,17),(23,6036)]) (Tmpl.mk false [[0,1,2,6,7,15,16],[4],[4,6,9,26,27,28]] [(Loc.slot 2 26,k5,true)] [((Loc.slot 0 2).cell 0,none),((Loc.slot 0 2).cell 1,none),(((Loc.slot 0 2).cell 1).cell 2,none),(Loc.slot 0 6,none),(Loc.slot 0 7,none),(Loc.slot 1 4,none),(Loc.slot 2 4,none),(Loc.slot 2 6,none),(Loc.slot 2 9,none)]) [(Loc.slot 0 2,95),(((Loc.slot 0 2).cell 0).cell 0,71)],
 Cut.mk 41 3 (some [(96,10),(23,6036)]) (Tmpl.mk false [[0,1,2,6,7,15,16],[3],[4,6,9,26,27,28]] [(Loc.slot 2 26,k5,true)] [((Loc.slot 0 2).cell 0,none),((Loc.slot 0 2).cell 1,none),(((Loc.slot 0 2).cell 1).cell 2,none),(Loc.slot 0 6,none),(Loc.slot 0 7,none),(Loc.slot 1 3,none),(Loc.slot 2 4,none),(Loc.slot 2 6,none),(Loc.slot 2 9,none)]) [(Loc.slot 0 2,97),(((Loc.slot 0 2).cell 0).cell 0,73)],
 Cut.mk 41 3 (some [(94,17),(23,6036)]) (Tmpl.mk false [[0,1,2,6,7,15,16],[4],[4,6,9,26,27,28]] [(Loc.slot 2 26,k5,true)] [((Loc.slot 0 2).cell 0,none),((((Loc.slot 0 2).cell 0).cell 0).cell 0,none),((Loc.slot 0 2).cell 1,none),(((Loc.slot 0 2).cell 1).cell 2,none),(Loc.slot 0 6,none),(Loc.slot 0 7,none),(Loc.slot 1 4,none),(Loc.slot 2 4,none),(Loc.slot 2 6,none),(Loc.slot 2 9,none)]) [(Loc.slot 0 2,95),(((Loc.slot 0 2).cell 0).cell 0,100)],
 Cut.mk 41 3 (some [(96,10),(23,6036)]) (Tmpl.mk false [[0,1,2,6,7,15,16],[3],[4,6,9,26,27,28]] [(Loc.slot 2 26,k5,true)] [((Loc.slot 0 2).cell 0,none),((((Loc.slot 0 2).cell 0).cell 0).cell 0,none),((Loc.slot 0 2).cell 1,none),(((Loc.slot 0 2).cell 1).cell 2,none),(Loc.slot 0 6,none),(Loc.slot 0 7,none),(Loc.slot 1 3,none),(Loc.slot 2 4,none),(Loc.slot 2 6,none),(Loc.slot 2 9,none)]) [(Loc.slot 0 2,97),(((Loc.slot 0 2).cell 0).cell 0,101)],
 Cut.mk 41 7 (some [(94,17),(93,27),(23,7036)]) (Tmpl.mk false [[0,1,2,6,7,8,9,15,16,24,25],[4],[4],[4,6,26,27,28]] [(Loc.slot 3 26,k5,true)] [((Loc.slot 0 2).cell 0,none),((((Loc.slot 0 2).cell 0).cell 0).cell 0,none),((Loc.slot 0 2).cell 1,none),(((Loc.slot 0 2).cell 1).cell 2,none),(Loc.slot 0 6,none),(Loc.slot 0 7,none),(Loc.slot 1 4,none),(Loc.slot 2 4,none),(Loc.slot 3 4,none),(Loc.slot 3 6,none)]) [(Loc.slot 0 2,95),(((Loc.slot 0 2).cell 0).cell 0,92)],
 Cut.mk 41 7 (some [(94,17),(23,7036)]) (Tmpl.mk false [[0,1,2,6,7,8,9,15,16,24,25],[4],[4,6,26,27,28]] [(Loc.slot 2 26,k5,true)] [((Loc.slot 0 2).cell 0,none),((Loc.slot 0 2).cell 1,none),(((Loc.slot 0 2).cell 1).cell 2,none),(Loc.slot 0 6,none),(Loc.slot 0 7,none),(Loc.slot 1 4,none),(Loc.slot 2 4,none),(Loc.slot 2 6,none)]) [(Loc.slot 0 2,95),(((Loc.slot 0 2).cell 0).cell 0,68)],
 Cut.mk 41 7 (some [(94,17),(23,7036)]) (Tmpl.mk false [[0,1,2,6,7,8,9,15,16,24,25],[4],[4,6,26,27,28]] [(Loc.slot 2 26,k5,true)] [((Loc.slot 0 2).cell 0,none),((Loc.slot 0 2).cell 1,none),(((Loc.slot 0 2).cell 1).cell 2,none),(Loc.slot 0 6,none),(Loc.slot 0 7,none),(Loc.slot 1 4,none),(Loc.slot 2 4,none),(Loc.slot 2 6,none)]) [(Loc.slot 0 2,95),(((Loc.slot 0 2).cell 0).cell 0,69)],
 Cut.mk 41 7 (some [(94,17),(23,7036)]) (Tmpl.mk false [[0,1,2,6,7,8,9,15,16,24,25],[4],[4,6,26,27,28]] [(Loc.slot 2 26,k5,true)] [((Loc.slot 0 2).cell 0,none),((Loc.slot 0 2).cell 1,none),(((Loc.slot 0 2).cell 1).cell 2,none),(Loc.slot 0 6,none),(Loc.slot 0 7,none),(Loc.slot 1 4,none),(Loc.slot 2 4,none),(Loc.slot 2 6,none)]) [(Loc.slot 0 2,95),(((Loc.slot 0 2).cell 0).cell 0,71)],
 Cut.mk 41 7 (some [(96,10),(23,7036)]) (Tmpl.mk false [[0,1,2,6,7,8,9,15,16,24,25],[3],[4,6,26,27,28]] [(Loc.slot 2 26,k5,true)] [((Loc.slot 0 2).cell 0,none),((Loc.slot 0 2).cell 1,none),(((Loc.slot 0 2).cell 1).cell 2,none),(Loc.slot 0 6,none),(Loc.slot 0 7,none),(Loc.slot 1 3,none),(Loc.slot 2 4,none),(Loc.slot 2 6,none)]) [(Loc.slot 0 2,97),(((Loc.slot 0 2).cell 0).cell 0,73)],
 Cut.mk 41 7 (some [(94,17),(23,7036)]) (Tmpl.mk false [[0,1,2,6,7,8,9,15,16,24,25],[4],[4,6,26,27,28]] [(Loc.slot 2 26,k5,true)] [((Loc.slot 0 2).cell 0,none),((((Loc.slot 0 2).cell 0).cell 0).cell 0,none),((Loc.slot 0 2).cell 1,none),(((Loc.slot 0 2).cell 1).cell 2,none),(Loc.slot 0 6,none),(Loc.slot 0 7,none),(Loc.slot 1 4,none),(Loc.slot 2 4,none),(Loc.slot 2 6,none)]) [(Loc.slot 0 2,95),(((Loc.slot 0 2).cell 0).cell 0,100)],
 Cut.mk 41 7 (some [(96,10),(23,7036)]) (Tmpl.mk false [[0,1,2,6,7,8,9,15,16,24,25],[3],[4,6,26,27,28]] [(Loc.slot 2 26,k5,true)] [((Loc.slot 0 2).cell 0,none),((((Loc.slot 0 2).cell 0).cell 0).cell 0,none),((Loc.slot 0 2).cell 1,none),(((Loc.slot 0 2).cell 1).cell 2,none),(Loc.slot 0 6,none),(Loc.slot 0 7,none),(Loc.slot 1 3,none),(Loc.slot 2 4,none),(Loc.slot 2 6,none)]) [(Loc.slot 0 2,97),(((Loc.slot 0 2).cell 0).cell 0,101)],
 Cut.mk 41 7 (some [(94,17),(93,27),(23,6036)]) (Tmpl.mk false [[0,1,2,6,7,8,9,15,16,24,25],[4],[4],[4,6,9,26,27,28]] [(Loc.slot 3 26,k5,true)] [((Loc.slot 0 2).cell 0,none),((((Loc.slot 0 2).cell 0).cell 0).cell 0,none),((Loc.slot 0 2).cell 1,none),(((Loc.slot 0 2).cell 1).cell 2,none),(Loc.slot 0 6,none),(Loc.slot 0 7,none),(Loc.slot 1 4,none),(Loc.slot 2 4,none),(Loc.slot 3 4,none),(Loc.slot 3 6,none),(Loc.slot 3 9,none)]) [(Loc.slot 0 2,95),(((Loc.slot 0 2).cell 0).cell 0,92)],
 Cut.mk 41 7 (some [(94,17),(23,6036)]) (Tmpl.mk false [[0,1,2,6,7,8,9,15,16,24,25],[4],[4,6,9,26,27,28]] [(Loc.slot 2 26,k5,true)] [((Loc.slot 0 2).cell 0,none),((Loc.slot 0 2).cell 1,none),(((Loc.slot 0 2).cell 1).cell 2,none),(Loc.slot 0 6,none),(Loc.slot 0 7,none),(Loc.slot 1 4,none),(Loc.slot 2 4,none),(Loc.slot 2 6,none),(Loc.slot 2 9,none)]) [(Loc.slot 0 2,95),(((Loc.slot 0 2).cell 0).cell 0,68)],
 Cut.mk 41 7 (some [(94,17),(23,6036)]) (Tmpl.mk false [[0,1,2,6,7,8,9,15,16,24,25],[4],[4,6,9,26,27,28]] [(Loc.slot 2 26,k5,true)] [((Loc.slot 0 2).cell 0,none),((Loc.slot 0 2).cell 1,none),(((Loc.slot 0 2).cell 1).cell 2,none),(Loc.slot 0 6,none),(Loc.slot 0 7,none),(Loc.slot 1 4,none),(Loc.slot 2 4,none),(Loc.slot 2 6,none),(Loc.slot 2 9,none)]) [(Loc.slot 0 2,95),(((Loc.slot 0 2).cell 0).cell 0,69)],
 Cut.mk 41 7 (some [(94,17),(23,6036)]) (Tmpl.mk false [[0,1,2,6,7,8,9,15,16,24,25],[4],[4,6,9,26,27,28]] [(Loc.slot 2 26,k5,true)] [((Loc.slot 0 2).cell 0,none),((Loc.slot 0 2).cell 1,none),(((Loc.slot 0 2).cell 1).cell 2,none),(Loc.slot 0 6,none),(Loc.slot 0 7,none),(Loc.slot 1 4,none),(Loc.slot 2 4,none),(Loc.slot 2 6,none),(Loc.slot 2 9,none)]) [(Loc.slot 0 2,95),(((Loc.slot 0 2).cell 0).cell 0,71)],
 Cut.mk 41 7 (some [(96,10),(23,6036)]) (Tmpl.mk false [[0,1,2,6,7,8,9,15,16,24,25],[3],[4,6,9,26,27,28]] [(Loc.slot 2 26,k5,true)] [((Loc.slot 0 2).cell 0,none),((Loc.slot 0 2).cell 1,none),(((Loc.slot 0 2).cell 1).cell 2,none),(Loc.slot 0 6,none),(Loc.slot 0 7,none),(Loc.slot 1 3,none),(Loc.slot 2 4,none),(Loc.slot 2 6,none),(Loc.slot 2 9,none)]) [(Loc.slot 0 2,97),(((Loc.slot 0 2).cell 0).cell 0,73)],
 Cut.mk 41 7 (some [(94,17),(23,6036)]) (Tmpl.mk false [[0,1,2,6,7,8,9,15,16,24,25],[4],[4,6,9,26,27,28]] [(Loc.slot 2 26,k5,true)] [((Loc.slot 0 2).cell 0,none),((((Loc.slot 0 2).cell 0).cell 0).cell 0,none),((Loc.slot 0 2).cell 1,none),(((Loc.slot 0 2).cell 1).cell 2,none),(Loc.slot 0 6,none),(Loc.slot 0 7,none),(Loc.slot 1 4,none),(Loc.slot 2 4,none),(Loc.slot 2 6,none),(Loc.slot 2 9,none)]) [(Loc.slot 0 2,95),(((Loc.slot 0 2).cell 0).cell 0,100)],
 Cut.mk 41 7 (some [(96,10),(23,6036)]) (Tmpl.mk false [[0,1,2,6,7,8,9,15,16,24,25],[3],[4,6,9,26,27,28]] [(Loc.slot 2 26,k5,true)] [((Loc.slot 0 2).cell 0,none),((((Loc.slot 0 2).cell 0).cell 0).cell 0,none),((Loc.slot 0 2).cell 1,none),(((Loc.slot 0 2).cell 1).cell 2,none),(Loc.slot 0 6,none),(Loc.slot 0 7,none),(Loc.slot 1 3,none),(Loc.slot 2 4,none),(Loc.slot 2 6,none),(Loc.slot 2 9,none)]) [(Loc.slot 0 2,97),(((Loc.slot 0 2).cell 0).cell 0,101)],
 Cut.mk 25 2 (some []) (Tmpl.mk false [[0,3]] [(Loc.slot 0 0,k5,true)] []) [],
 Cut.mk 27 5 (some []) (Tmpl.mk false [[1,4,6,7]] [(Loc.slot 0 1,k5,true)] [(Loc.slot 0 4,none),(Loc.slot 0 6,none),((Loc.slot 0 6).cell 2,none)]) [],
 Cut.mk 30 4 (some []) (Tmpl.mk false [[8,9,10]] [(Loc.slot 0 8,k5,true)] []) [],
 Cut.mk 34 3 (some []) (Tmpl.mk false [[0,1,5,6]] [((Loc.slot 0 0).cell 0,ku,false)] [(Loc.slot 0 0,none),(Loc.slot 0 5,none)]) [],
 Cut.mk 34 8 (some []) (Tmpl.mk false [[0,1,5]] [((Loc.slot 0 0).cell 0,ku,false)] [(Loc.slot 0 0,none),(Loc.slot 0 5,none)]) [],
 Cut.mk 34 9 (some []) (Tmpl.mk false [[0,5]] [((Loc.slot 0 0).cell 0,ku,false)] [(Loc.slot 0 0,none),(Loc.slot 0 5,none)]) [],
 Cut.mk 39 4 (some []) (Tmpl.mk false [[27,28,29]] [(Loc.slot 0 27,k4,true)] []) [],
 Cut.mk 48 4 (some []) (Tmpl.mk false [[1,3]] [((Loc.slot 0 1).cell 2,k4,true)] [(Loc.slot 0 1,none)]) [],
 Cut.mk 55 3 (some []) (Tmpl.mk false [[0,5,6]] [((Loc.slot 0 0).cell 0,ku,false)] [(Loc.slot 0 0,none),(Loc.slot 0 5,none)]) [],
 Cut.mk 56 4 (some []) (Tmpl.mk false [[0,1,4,5,6,7]] [((Loc.slot 0 0).cell 0,ku,false)] [(Loc.slot 0 0,none),(Loc.slot 0 4,none),(Loc.slot 0 5,none),((Loc.slot 0 5).cell 2,some k4),(Loc.slot 0 6,none)]) [],
 Cut.mk 60 9 (some []) (Tmpl.mk false [[0,1,4,5]] [((Loc.slot 0 0).cell 0,ku,false)] [(Loc.slot 0 0,none),(Loc.slot 0 4,none),(Loc.slot 0 5,none)]) [],
 Cut.mk 63 3 (some []) (Tmpl.mk false [[3,4,7,8,9]] [(Loc.slot 0 7,ku,true)] []) [],
 Cut.mk 41 3 (some [(74,9)]) (Tmpl.mk false [[0,1,2,6,7,15,16],[2]] [(((Loc.slot 0 2).cell 0).cell 2,k4,true)] [((Loc.slot 0 2).cell 0,none),(Loc.slot 0 6,none),(Loc.slot 0 7,none),(Loc.slot 1 2,none)]) [(Loc.slot 0 2,98)],
 Cut.mk 41 7 (some [(74,9)]) (Tmpl.mk false [[0,1,2,6,7,8,9,15,16,24,25],[2]] [(((Loc.slot 0 2).cell 0).cell 2,k4,true)] [((Loc.slot 0 2).cell 0,none),(Loc.slot 0 6,none),(Loc.slot 0 7,none),(Loc.slot 1 2,none)]) [(Loc.slot 0 2,98)],
 Cut.mk 98 4 (some [(41,33),(74,9)]) (Tmpl.mk false [[0,1,2,5,6,7,8],[0,1,2,6,7,8,9,15,16,24,25,28,29],[2]] [((Loc.slot 0 2).cell 2,k4,true)] [(Loc.slot 0 2,none),(Loc.slot 0 5,none),(Loc.slot 0 6,none),(Loc.slot 1 6,none),(Loc.slot 1 7,none),(Loc.slot 2 2,none)]) [(Loc.slot 1 2,98)],
 Cut.mk 98 7 (some [(41,33),(74,9)]) (Tmpl.mk false [[0,1,2,5,6,7,8,9],[0,1,2,6,7,8,9,15,16,24,25,28,29],[2]] [((Loc.slot 0 2).cell 2,k4,true)] [(Loc.slot 0 2,none),(Loc.slot 0 5,none),(Loc.slot 0 6,none),(Loc.slot 1 6,none),(Loc.slot 1 7,none),(Loc.slot 2 2,none)]) [(Loc.slot 1 2,98)],
 Cut.mk 77 7 (some []) (Tmpl.mk false [[0,2,4,5]] [(Loc.slot 0 0,ku,true)] [(Loc.slot 0 2,none),(Loc.slot 0 4,none),((Loc.slot 0 4).cell 2,some k4)]) [],
 Cut.mk 78 3 (some []) (Tmpl.mk false [[1,2,3,4]] [((Loc.slot 0 1).cell 2,k4,true)] [(Loc.slot 0 1,none),(Loc.slot 0 2,none),(Loc.slot 0 3,none),((Loc.slot 0 3).cell 2,some k4)]) [],
 Cut.mk 79 5 (some []) (Tmpl.mk false [[0,2,4,5]] [(Loc.slot 0 0,ku,true)] [(Loc.slot 0 2,none),(Loc.slot 0 4,none),((Loc.slot 0 4).cell 2,some k4)]) [],
 Cut.mk 79 8 (some []) (Tmpl.mk false [[0,2,4,5,6]] [(Loc.slot 0 0,ku,true)] [(Loc.slot 0 2,none),(Loc.slot 0 4,none),((Loc.slot 0 4).cell 2,some k4)]) [],
 Cut.mk 80 5 (some []) (Tmpl.mk false [[0,4,5,6,7]] [(Loc.slot 0 0,ku,true),(Loc.slot 0 6,ku,false)] [(Loc.slot 0 4,none),(Loc.slot 0 5,none)]) [],
 Cut.mk 81 4 (some []) (Tmpl.mk false [[0,3,4,5]] [(Loc.slot 0 0,ku,true)] []) [],
 Cut.mk 83 3 (some []) (Tmpl.mk false [[2,3,4,5,6]] [((Loc.slot 0 2).cell 2,k4,true)] [(Loc.slot 0 2,none),(Loc.slot 0 3,none),(Loc.slot 0 4,none),(Loc.slot 0 5,none),((Loc.slot 0 5).cell 2,some k4)]) [],
 Cut.mk 83 6 (some []) (Tmpl.mk false [[2,3,4,5,6,7]] [((Loc.slot 0 2).cell 2,k4,true)] [(Loc.slot 0 2,none),(Loc.slot 0 3,none),(Loc.slot 0 4,none),(Loc.slot 0 5,none),((Loc.slot 0 5).cell 2,some k4)]) [],
 Cut.mk 84 3 (some []) (Tmpl.mk false [[1,2,3,4]] [((Loc.slot 0 1).cell 2,k4,true)] [(Loc.slot 0 1,none),(Loc.slot 0 2,none),(Loc.slot 0 3,none),((Loc.slot 0 3).cell 2,some k4)]) [],
 Cut.mk 84 6 (some []) (Tmpl.mk false [[1,2,3,4,5]] [((Loc.slot 0 1).cell 2,k4,true)] [(Loc.slot 0 1,none),(Loc.slot 0 2,none),(Loc.slot 0 3,none),((Loc.slot 0 3).cell 2,some k4)]) [],
 Cut.mk 85 3 (some []) (Tmpl.mk false [[1,2,3,4]] [((Loc.slot 0 1).cell 2,k4,true)] [(Loc.slot 0 1,none),(Loc.slot 0 2,none),(Loc.slot 0 3,none),((Loc.slot 0 3).cell 2,some k4)]) [],
 Cut.mk 85 6 (some []) (Tmpl.mk false [[1,2,3,4,5]] [((Loc.slot 0 1).cell 2,k4,true)] [(Loc.slot 0 1,none),(Loc.slot 0 2,none),(Loc.slot 0 3,none),((Loc.slot 0 3).cell 2,some k4)]) [],
 Cut.mk 86 3 (some []) (Tmpl.mk false [[2,3,4,5,6]] [((Loc.slot 0 2).cell 2,k4,true)] [(Loc.slot 0 2,none),(Loc.slot 0 3,none),(Loc.slot 0 4,none),(Loc.slot 0 5,none),((Loc.slot 0 5).cell 2,some k4)]) [],
 Cut.mk 86 6 (some []) (Tmpl.mk false [[2,3,4,5,6,7]] [((Loc.slot 0 2).cell 2,k4,true)] [(Loc.slot 0 2,none),(Loc.slot 0 3,none),(Loc.slot 0 4,none),(Loc.slot 0 5,none),((Loc.slot 0 5).cell 2,some k4)]) [],
 Cut.mk 87 3 (some []) (Tmpl.mk false [[2,3,4,5,6]] [((Loc.slot 0 2).cell 2,k4,true)] [(Loc.slot 0 2,none),(Loc.slot 0 3,none),(Loc.slot 0 4,none),(Loc.slot 0 5,none),((Loc.slot 0 5).cell 2,some k4)]) [],
 Cut.mk 103 5 (some []) (Tmpl.mk false [[0,1,2,8,9]] [(Loc.slot 0 0,ku,true)] []) [],
 Cut.mk 104 2 (some []) (Tmpl.mk false [[0,5]] [(Loc.slot 0 0,ku,true)] []) [],
 Cut.mk 107 4 (some []) (Tmpl.mk false [[1,2,3,6,7,8,9]] [((Loc.slot 0 3).cell 2,k4,true)] [(Loc.slot 0 3,none),(Loc.slot 0 6,none),(Loc.slot 0 8,none)]) [],
 Cut.mk 107 7 (some []) (Tmpl.mk false [[1,2,3,6,7,8,9,10]] [((Loc.slot 0 3).cell 2,k4,true)] [(Loc.slot 0 3,none),(Loc.slot 0 6,none),(Loc.slot 0 8,none)]) [],
 Cut.mk 109 3 (some []) (Tmpl.mk false [[1,3,4]] [((Loc.slot 0 1).cell 2,k4,true)] [(Loc.slot 0 1,none),(Loc.slot 0 3,none)]) [],
 Cut.mk 110 3 (some []) (Tmpl.mk false [[1,3,4]] [((Loc.slot 0 1).cell 2,k4,true)] [(Loc.slot 0 1,none),(Loc.slot 0 3,none)]) [],
 Cut.mk 110 5 (some []) (Tmpl.mk false [[1,3,4,5]] [((Loc.slot 0 1).cell 2,k4,true)] [(Loc.slot 0 1,none),(Loc.slot 0 3,none)]) [],
 Cut.mk 111 6 (some []) (Tmpl.mk false [[0,3,4,5]] [(Loc.slot 0 0,ku,true)] [(Loc.slot 0 3,none),(Loc.slot 0 4,none)]) [],
 Cut.mk 111 8 (some []) (Tmpl.mk false [[0,3,4,5,6]] [(Loc.slot 0 0,ku,true)] [(Loc.slot 0 3,none),(Loc.slot 0 4,none)]) [],
 Cut.mk 113 4 (some []) (Tmpl.mk false [[0,3,4,5]] [(Loc.slot 0 0,CTs.cons (CT.int IntKind.i64) (CTs.one (CT.int IntKind.i64)),true)] [(Loc.slot 0 3,none)]) [],
 Cut.mk 113 9 (some []) (Tmpl.mk false [[0,3,4,5,6]] [(Loc.slot 0 0,CTs.cons (CT.int IntKind.i64) (CTs.one (CT.int IntKind.i64)),true)] [(Loc.slot 0 3,none)]) [],
 Cut.mk 114 2 (some []) (Tmpl.mk false [[0,1,5]] [(Loc.slot 0 0,CTs.one (CT.sl ku),true),(Loc.slot 0 1,ku,true)] []) [],
 Cut.mk 41 3 (some [(133,40)]) (Tmpl.mk false [[0,1,2,6,7,15,16],[2]] [(((Loc.slot 0 2).cell 0).cell 0,ku,true)] [((Loc.slot 0 2).cell 0,none),((Loc.slot 0 2).cell 1,none),(Loc.slot 0 6,none),(Loc.slot 0 7,none),(Loc.slot 1 2,none)]) [(Loc.slot 0 2,135)],
 Cut.mk 41 7 (some [(133,40)]) (Tmpl.mk false [[0,1,2,6,7,8,9,15,16,24,25],[2]] [(((Loc.slot 0 2).cell 0).cell 0,ku,true)] [((Loc.slot 0 2).cell 0,none),((Loc.slot 0 2).cell 1,none),(Loc.slot 0 6,none),(Loc.slot 0 7,none),(Loc.slot 1 2,none)]) [(Loc.slot 0 2,135)],
 Cut.mk 134 6 (some []) (Tmpl.mk false [[1,3,26,27]] [((Loc.slot 0 1).cell 2,k4,true)] [(Loc.slot 0 1,none),(Loc.slot 0 3,none)]) [],
 Cut.mk 134 9 (some []) (Tmpl.mk false [[1,3,26,27,35,36,37]] [((Loc.slot 0 1).cell 2,k4,true),(Loc.slot 0 35,k4,true)] [(Loc.slot 0 1,none),(Loc.slot 0 3,none)]) [],
 Cut.mk 41 3 (some [(140,8)]) (Tmpl.mk false [[0,1,2,6,7,15,16],[2]] [(((Loc.slot 0 2).cell 0).cell 2,k4,true)] [((Loc.slot 0 2).cell 0,none),(Loc.slot 0 6,none),(Loc.slot 0 7,none),(Loc.slot 1 2,none)]) [(Loc.slot 0 2,141)],
 Cut.mk 41 7 (some [(140,8)]) (Tmpl.mk false [[0,1,2,6,7,8,9,15,16,24,25],[2]] [(((Loc.slot 0 2).cell 0).cell 2,k4,true)] [((Loc.slot 0 2).cell 0,none),(Loc.slot 0 6,none),(Loc.slot 0 7,none),(Loc.slot 1 2,none)]) [(Loc.slot 0 2,141)],
 Cut.mk 142 8 (some []) (Tmpl.mk false [[4,6,7,8,9]] [(Loc.slot 0 9,ku,true)] [(Loc.slot 0 4,none),(Loc.slot 0 8,none)]) [],
 Cut.mk 142 15 (some []) (Tmpl.mk false [[4,6,7,8,9,11,71,72]] [(Loc.slot 0 9,ku,true)] [(Loc.slot 0 4,none),(Loc.slot 0 8,none),(Loc.slot 0 11,none)]) [],
 Cut.mk 143 3 (some []) (Tmpl.mk false [[3,5,6]] [((Loc.slot 0 3).cell 2,k4,true)] [(Loc.slot 0 3,none),(Loc.slot 0 5,none)]) [],
 Cut.mk 143 5 (some []) (Tmpl.mk false [[3,5,6,7]] [((Loc.slot 0 3).cell 2,k4,true)] [(Loc.slot 0 3,none),(Loc.slot 0 5,none)]) [],
 Cut.mk 146 3 (some []) (Tmpl.mk false [[0,4,5]] [(Loc.slot 0 0,ku,true),((Loc.slot 0 4).cell 0,ku,true)] [(Loc.slot 0 4,none),(Loc.slot 0 5,none),((Loc.slot 0 5).cell 0,some ku),((Loc.slot 0 5).cell 1,some (CTs.cons (CT.int IntKind.i64) (CTs.one (CT.int IntKind.i64))))]) [],
 Cut.mk 148 6 (some [(146,9)]) (Tmpl.mk false [[0,5,44,45],[0,4,5]] [((Loc.slot 0 0).cell 0,ku,true),(Loc.slot 1 0,ku,true)] [(Loc.slot 0 0,none),(Loc.slot 1 5,none),((Loc.slot 1 5).cell 0,some ku),((Loc.slot 1 5).cell 1,some (CTs.cons (CT.int IntKind.i64) (CTs.one (CT.int IntKind.i64))))]) [],
 Cut.mk 149 5 (some []) (Tmpl.mk false [[0,1,5]] [] [(Loc.slot 0 0,none),((Loc.slot 0 0).cell 0,none),((Loc.slot 0 0).cell 1,none)]) [],
 Cut.mk 149 14 (some []) (Tmpl.mk false [[0,5]] [] [(Loc.slot 0 0,none),((Loc.slot 0 0).cell 0,none),((Loc.slot 0 0).cell 1,none)]) [],
 Cut.mk 149 10 (some []) (Tmpl.mk false [[0,5,6,81,82]] [] [(Loc.slot 0 0,none),((Loc.slot 0 0).cell 0,none),((Loc.slot 0 0).cell 1,none),(Loc.slot 0 6,none)]) [],
 Cut.mk 154 3 (some []) (Tmpl.mk false [[3,6,7,8]] [(Loc.slot 0 6,CTs.cons (CT.int IntKind.i64) (CTs.one (CT.int IntKind.i64)),true)] [(Loc.slot 0 3,none),((Loc.slot 0 3).cell 0,some ku)]) [],
 Cut.mk 155 4 (some []) (Tmpl.mk false [[0,3,28,29]] [] [(Loc.slot 0 0,none),((Loc.slot 0 0).cell 0,none),(Loc.slot 0 3,none)]) []]
noncomputable def C : Cfg := ⟨tys,fns,sigs,cuts,ords,subs,meths,louds⟩
noncomputable def pr : Rcall := fun _ _ _ => none
abbrev dd : Rcall := D C pr
abbrev LL (s : Sig) : St -> Option s.B := L C pr s
theorem eL {s : Sig} {q : St} {r : s.B} (h : from_ C dd s (LL s) q = some r) : LL s q = some r := L_from h
theorem dL {f : FuncId} {s : Sig} {a : s.A} {r : s.B} (hp : pr f s a = none) (h : body C dd f s (LL s) a = some r) : dd f s a = some r := D_body hp h
end
end T
end
