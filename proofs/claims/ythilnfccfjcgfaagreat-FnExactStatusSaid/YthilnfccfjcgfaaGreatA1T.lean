/- A part of the proof: the walk of functions of the program, or the rules of the walk. -/
import Derived.Test.YthilnfccfjcgfaaGreatAmTab
import Derived.Test.YthilnfccfjcgfaaGreatProg
set_option linter.unusedSimpArgs false
set_option linter.unusedVariables false
namespace Go.Proofs.AM
open Go Go.Proofs

def TA : TT := [
  (2, ⟨(.int .i64), 1, 8, [.sc (.int .i64 0)]⟩),
  (3, ⟨(.int .i64), 1, 8, [.sc (.int .i64 0)]⟩),
  (4, ⟨.bool, 1, 1, [.sc (.bool false)]⟩),
  (5, ⟨(.int .u8), 1, 1, [.sc (.int .u8 0)]⟩),
  (6, ⟨(.int .u8), 1, 1, [.sc (.int .u8 0)]⟩),
  (8, ⟨(.struct [(0, 1), (1, 1), (2, 1), (3, 1)]), 4, 24, [.sc (.int .i64 0), .sc (.int .i64 0), .sc (.bool false), .sc (.int .u8 0)]⟩),
  (9, ⟨.str, 1, 16, [.sc (.string ⟨#[]⟩)]⟩),
  (10, ⟨.str, 1, 16, [.sc (.string ⟨#[]⟩)]⟩),
  (11, ⟨.str, 1, 16, [.sc (.string ⟨#[]⟩)]⟩),
  (12, ⟨(.int .u64), 1, 8, [.sc (.int .u64 0)]⟩),
  (14, ⟨(.struct [(0, 1), (1, 1)]), 2, 24, [.sc (.string ⟨#[]⟩), .sc (.int .u64 0)]⟩),
  (15, ⟨(.ptr 338), 1, 8, [.sc (.pointer none)]⟩),
  (16, ⟨(.ptr 341), 1, 8, [.sc (.pointer none)]⟩),
  (17, ⟨(.ptr 350), 1, 8, [.sc (.pointer none)]⟩),
  (19, ⟨(.struct [(0, 1)]), 1, 8, [.sc (.pointer none)]⟩),
  (22, ⟨(.slice 3), 1, 24, [.nl]⟩),
  (23, ⟨(.slice 182), 1, 24, [.nl]⟩),
  (24, ⟨(.slice 186), 1, 24, [.nl]⟩),
  (26, ⟨(.struct [(0, 1), (1, 1), (2, 1), (3, 1)]), 4, 80, [.nl, .sc (.int .i64 0), .nl, .nl]⟩),
  (27, ⟨(.slice 190), 1, 24, [.nl]⟩),
  (28, ⟨(.slice 194), 1, 24, [.nl]⟩),
  (29, ⟨(.slice 196), 1, 24, [.nl]⟩),
  (31, ⟨(.struct [(0, 1), (1, 1), (2, 1)]), 3, 72, [.nl, .nl, .nl]⟩),
  (35, ⟨(.slice 144), 1, 24, [.nl]⟩),
  (36, ⟨(.slice 204), 1, 24, [.nl]⟩),
  (38, ⟨(.struct [(0, 1), (1, 1), (2, 1), (3, 1)]), 4, 80, [.nl, .sc (.int .i64 0), .nl, .nl]⟩),
  (40, ⟨(.slice 136), 1, 24, [.nl]⟩),
  (41, ⟨(.slice 209), 1, 24, [.nl]⟩),
  (42, ⟨(.slice 141), 1, 24, [.nl]⟩),
  (44, ⟨(.struct [(0, 1), (1, 1), (2, 1)]), 3, 72, [.nl, .nl, .nl]⟩),
  (59, ⟨(.struct [(0, 1), (1, 1), (2, 1)]), 3, 24, [.sc (.int .i64 0), .sc (.int .i64 0), .sc (.int .i64 0)]⟩),
  (62, ⟨(.struct [(0, 1), (1, 1), (2, 1)]), 3, 24, [.sc (.int .i64 0), .sc (.int .i64 0), .sc (.int .i64 0)]⟩),
  (65, ⟨(.slice 97), 1, 24, [.nl]⟩),
  (68, ⟨(.slice 90), 1, 24, [.nl]⟩),
  (72, ⟨(.slice 93), 1, 24, [.nl]⟩),
  (88, ⟨(.struct [(0, 1), (1, 1)]), 2, 16, [.sc (.int .i64 0), .sc (.int .i64 0)]⟩),
  (90, ⟨(.struct [(0, 1), (1, 1), (2, 1), (3, 1)]), 4, 32, [.sc (.int .i64 0), .sc (.int .i64 0), .sc (.int .i64 0), .sc (.int .i64 0)]⟩),
  (93, ⟨(.struct [(0, 1), (1, 1)]), 2, 16, [.sc (.int .i64 0), .sc (.int .i64 0)]⟩),
  (97, ⟨(.struct [(0, 1), (1, 1), (2, 1), (3, 1)]), 4, 32, [.sc (.int .i64 0), .sc (.int .i64 0), .sc (.int .i64 0), .sc (.int .i64 0)]⟩),
  (101, ⟨(.slice 88), 1, 24, [.nl]⟩),
  (107, ⟨(.struct [(0, 1), (1, 1)]), 2, 32, [.sc (.int .i64 0), .nl]⟩),
  (132, ⟨(.struct [(0, 1), (1, 1), (2, 1), (3, 1)]), 4, 32, [.sc (.int .i64 0), .sc (.int .i64 0), .sc (.int .i64 0), .sc (.int .i64 0)]⟩),
  (134, ⟨(.slice 234), 1, 24, [.nl]⟩),
  (136, ⟨(.struct [(0, 1), (1, 1), (2, 1), (3, 1), (4, 1)]), 5, 72, [.sc (.int .i64 0), .sc (.int .i64 0), .nl, .sc (.int .i64 0), .nl]⟩),
  (139, ⟨(.struct [(0, 1), (1, 1), (2, 1), (3, 1), (4, 1)]), 5, 40, [.sc (.bool false), .sc (.int .i64 0), .sc (.int .i64 0), .sc (.int .i64 0), .sc (.int .i64 0)]⟩),
  (141, ⟨(.struct [(0, 1), (1, 1)]), 2, 32, [.sc (.int .i64 0), .nl]⟩),
  (142, ⟨(.slice 139), 1, 24, [.nl]⟩),
  (144, ⟨(.struct [(0, 1), (1, 1)]), 2, 32, [.nl, .sc (.int .i64 0)]⟩),
  (154, ⟨(.slice 158), 1, 24, [.nl]⟩),
  (158, ⟨(.struct [(0, 1), (1, 1), (2, 1), (3, 3)]), 6, 48, [.sc (.bool false), .sc (.int .i64 0), .sc (.bool false), .sc (.int .i64 0), .sc (.int .i64 0), .sc (.int .i64 0)]⟩),
  (180, ⟨(.slice 310), 1, 24, [.nl]⟩),
  (182, ⟨(.struct [(0, 1), (1, 1)]), 2, 32, [.nl, .sc (.int .i64 0)]⟩),
  (184, ⟨(.slice 312), 1, 24, [.nl]⟩),
  (186, ⟨(.struct [(0, 1)]), 1, 24, [.nl]⟩),
  (188, ⟨(.slice 314), 1, 24, [.nl]⟩),
  (190, ⟨(.struct [(0, 1), (1, 1), (2, 1), (3, 1), (4, 1)]), 5, 72, [.sc (.int .i64 0), .sc (.int .i64 0), .nl, .sc (.int .i64 0), .nl]⟩),
  (192, ⟨(.slice 59), 1, 24, [.nl]⟩),
  (194, ⟨(.struct [(0, 1), (1, 1), (2, 1), (3, 1), (4, 1)]), 5, 88, [.sc (.int .i64 0), .nl, .nl, .nl, .sc (.bool false)]⟩),
  (196, ⟨(.struct [(0, 1), (1, 1)]), 2, 32, [.sc (.int .i64 0), .nl]⟩),
  (202, ⟨(.slice 132), 1, 24, [.nl]⟩),
  (204, ⟨(.struct [(0, 1)]), 1, 24, [.nl]⟩),
  (207, ⟨(.slice 62), 1, 24, [.nl]⟩),
  (209, ⟨(.struct [(0, 1), (1, 1), (2, 1), (3, 1), (4, 1)]), 5, 88, [.sc (.int .i64 0), .nl, .nl, .nl, .sc (.bool false)]⟩),
  (225, ⟨(.slice 9), 1, 24, [.nl]⟩),
  (234, ⟨(.struct [(0, 1), (1, 1), (2, 1), (3, 1)]), 4, 32, [.sc (.int .i64 0), .sc (.int .i64 0), .sc (.int .i64 0), .sc (.bool false)]⟩),
  (263, ⟨(.slice 5), 1, 24, [.nl]⟩),
  (310, ⟨(.struct [(0, 1), (1, 1), (2, 1), (3, 1), (4, 1)]), 5, 40, [.sc (.bool false), .sc (.int .i64 0), .sc (.int .i64 0), .sc (.int .i64 0), .sc (.int .i64 0)]⟩),
  (312, ⟨(.struct [(0, 1), (1, 1), (2, 1), (3, 1)]), 4, 32, [.sc (.int .i64 0), .sc (.int .i64 0), .sc (.int .i64 0), .sc (.int .i64 0)]⟩),
  (314, ⟨(.struct [(0, 1), (1, 1), (2, 1), (3, 1)]), 4, 32, [.sc (.int .i64 0), .sc (.int .i64 0), .sc (.int .i64 0), .sc (.bool false)]⟩),
  (320, ⟨(.ptr 322), 1, 8, [.sc (.pointer none)]⟩),
  (322, ⟨(.struct [(0, 1), (1, 1)]), 2, 32, [.sc (.pointer none), .nl]⟩),
  (332, ⟨(.ptr 5), 1, 8, [.sc (.pointer none)]⟩),
  (345, ⟨(.int .u8), 1, 1, [.sc (.int .u8 0)]⟩)]
theorem TA_ok : TOk Tryz.prog TA := ttCk_ok (by kernel_rfl)
theorem mixed : Tryz.prog.follows .mixedOrders = true := by kernel_rfl
theorem T2 : TT.get TA 2 = some ⟨(.int .i64), 1, 8, [.sc (.int .i64 0)]⟩ := rfl
theorem T3 : TT.get TA 3 = some ⟨(.int .i64), 1, 8, [.sc (.int .i64 0)]⟩ := rfl
theorem T4 : TT.get TA 4 = some ⟨.bool, 1, 1, [.sc (.bool false)]⟩ := rfl
theorem T5 : TT.get TA 5 = some ⟨(.int .u8), 1, 1, [.sc (.int .u8 0)]⟩ := rfl
theorem T6 : TT.get TA 6 = some ⟨(.int .u8), 1, 1, [.sc (.int .u8 0)]⟩ := rfl
theorem T8 : TT.get TA 8 = some ⟨(.struct [(0, 1), (1, 1), (2, 1), (3, 1)]), 4, 24, [.sc (.int .i64 0), .sc (.int .i64 0), .sc (.bool false), .sc (.int .u8 0)]⟩ := rfl
theorem T9 : TT.get TA 9 = some ⟨.str, 1, 16, [.sc (.string ⟨#[]⟩)]⟩ := rfl
theorem T10 : TT.get TA 10 = some ⟨.str, 1, 16, [.sc (.string ⟨#[]⟩)]⟩ := rfl
theorem T11 : TT.get TA 11 = some ⟨.str, 1, 16, [.sc (.string ⟨#[]⟩)]⟩ := rfl
theorem T12 : TT.get TA 12 = some ⟨(.int .u64), 1, 8, [.sc (.int .u64 0)]⟩ := rfl
theorem T14 : TT.get TA 14 = some ⟨(.struct [(0, 1), (1, 1)]), 2, 24, [.sc (.string ⟨#[]⟩), .sc (.int .u64 0)]⟩ := rfl
theorem T15 : TT.get TA 15 = some ⟨(.ptr 338), 1, 8, [.sc (.pointer none)]⟩ := rfl
theorem T16 : TT.get TA 16 = some ⟨(.ptr 341), 1, 8, [.sc (.pointer none)]⟩ := rfl
theorem T17 : TT.get TA 17 = some ⟨(.ptr 350), 1, 8, [.sc (.pointer none)]⟩ := rfl
theorem T19 : TT.get TA 19 = some ⟨(.struct [(0, 1)]), 1, 8, [.sc (.pointer none)]⟩ := rfl
theorem T22 : TT.get TA 22 = some ⟨(.slice 3), 1, 24, [.nl]⟩ := rfl
theorem T23 : TT.get TA 23 = some ⟨(.slice 182), 1, 24, [.nl]⟩ := rfl
theorem T24 : TT.get TA 24 = some ⟨(.slice 186), 1, 24, [.nl]⟩ := rfl
theorem T26 : TT.get TA 26 = some ⟨(.struct [(0, 1), (1, 1), (2, 1), (3, 1)]), 4, 80, [.nl, .sc (.int .i64 0), .nl, .nl]⟩ := rfl
theorem T27 : TT.get TA 27 = some ⟨(.slice 190), 1, 24, [.nl]⟩ := rfl
theorem T28 : TT.get TA 28 = some ⟨(.slice 194), 1, 24, [.nl]⟩ := rfl
theorem T29 : TT.get TA 29 = some ⟨(.slice 196), 1, 24, [.nl]⟩ := rfl
theorem T31 : TT.get TA 31 = some ⟨(.struct [(0, 1), (1, 1), (2, 1)]), 3, 72, [.nl, .nl, .nl]⟩ := rfl
theorem T35 : TT.get TA 35 = some ⟨(.slice 144), 1, 24, [.nl]⟩ := rfl
theorem T36 : TT.get TA 36 = some ⟨(.slice 204), 1, 24, [.nl]⟩ := rfl
theorem T38 : TT.get TA 38 = some ⟨(.struct [(0, 1), (1, 1), (2, 1), (3, 1)]), 4, 80, [.nl, .sc (.int .i64 0), .nl, .nl]⟩ := rfl
theorem T40 : TT.get TA 40 = some ⟨(.slice 136), 1, 24, [.nl]⟩ := rfl
theorem T41 : TT.get TA 41 = some ⟨(.slice 209), 1, 24, [.nl]⟩ := rfl
theorem T42 : TT.get TA 42 = some ⟨(.slice 141), 1, 24, [.nl]⟩ := rfl
theorem T44 : TT.get TA 44 = some ⟨(.struct [(0, 1), (1, 1), (2, 1)]), 3, 72, [.nl, .nl, .nl]⟩ := rfl
theorem T59 : TT.get TA 59 = some ⟨(.struct [(0, 1), (1, 1), (2, 1)]), 3, 24, [.sc (.int .i64 0), .sc (.int .i64 0), .sc (.int .i64 0)]⟩ := rfl
theorem T62 : TT.get TA 62 = some ⟨(.struct [(0, 1), (1, 1), (2, 1)]), 3, 24, [.sc (.int .i64 0), .sc (.int .i64 0), .sc (.int .i64 0)]⟩ := rfl
theorem T65 : TT.get TA 65 = some ⟨(.slice 97), 1, 24, [.nl]⟩ := rfl
theorem T68 : TT.get TA 68 = some ⟨(.slice 90), 1, 24, [.nl]⟩ := rfl
theorem T72 : TT.get TA 72 = some ⟨(.slice 93), 1, 24, [.nl]⟩ := rfl
theorem T88 : TT.get TA 88 = some ⟨(.struct [(0, 1), (1, 1)]), 2, 16, [.sc (.int .i64 0), .sc (.int .i64 0)]⟩ := rfl
theorem T90 : TT.get TA 90 = some ⟨(.struct [(0, 1), (1, 1), (2, 1), (3, 1)]), 4, 32, [.sc (.int .i64 0), .sc (.int .i64 0), .sc (.int .i64 0), .sc (.int .i64 0)]⟩ := rfl
theorem T93 : TT.get TA 93 = some ⟨(.struct [(0, 1), (1, 1)]), 2, 16, [.sc (.int .i64 0), .sc (.int .i64 0)]⟩ := rfl
theorem T97 : TT.get TA 97 = some ⟨(.struct [(0, 1), (1, 1), (2, 1), (3, 1)]), 4, 32, [.sc (.int .i64 0), .sc (.int .i64 0), .sc (.int .i64 0), .sc (.int .i64 0)]⟩ := rfl
theorem T101 : TT.get TA 101 = some ⟨(.slice 88), 1, 24, [.nl]⟩ := rfl
theorem T107 : TT.get TA 107 = some ⟨(.struct [(0, 1), (1, 1)]), 2, 32, [.sc (.int .i64 0), .nl]⟩ := rfl
theorem T132 : TT.get TA 132 = some ⟨(.struct [(0, 1), (1, 1), (2, 1), (3, 1)]), 4, 32, [.sc (.int .i64 0), .sc (.int .i64 0), .sc (.int .i64 0), .sc (.int .i64 0)]⟩ := rfl
theorem T134 : TT.get TA 134 = some ⟨(.slice 234), 1, 24, [.nl]⟩ := rfl
theorem T136 : TT.get TA 136 = some ⟨(.struct [(0, 1), (1, 1), (2, 1), (3, 1), (4, 1)]), 5, 72, [.sc (.int .i64 0), .sc (.int .i64 0), .nl, .sc (.int .i64 0), .nl]⟩ := rfl
theorem T139 : TT.get TA 139 = some ⟨(.struct [(0, 1), (1, 1), (2, 1), (3, 1), (4, 1)]), 5, 40, [.sc (.bool false), .sc (.int .i64 0), .sc (.int .i64 0), .sc (.int .i64 0), .sc (.int .i64 0)]⟩ := rfl
theorem T141 : TT.get TA 141 = some ⟨(.struct [(0, 1), (1, 1)]), 2, 32, [.sc (.int .i64 0), .nl]⟩ := rfl
theorem T142 : TT.get TA 142 = some ⟨(.slice 139), 1, 24, [.nl]⟩ := rfl
theorem T144 : TT.get TA 144 = some ⟨(.struct [(0, 1), (1, 1)]), 2, 32, [.nl, .sc (.int .i64 0)]⟩ := rfl
theorem T154 : TT.get TA 154 = some ⟨(.slice 158), 1, 24, [.nl]⟩ := rfl
theorem T158 : TT.get TA 158 = some ⟨(.struct [(0, 1), (1, 1), (2, 1), (3, 3)]), 6, 48, [.sc (.bool false), .sc (.int .i64 0), .sc (.bool false), .sc (.int .i64 0), .sc (.int .i64 0), .sc (.int .i64 0)]⟩ := rfl
theorem T180 : TT.get TA 180 = some ⟨(.slice 310), 1, 24, [.nl]⟩ := rfl
theorem T182 : TT.get TA 182 = some ⟨(.struct [(0, 1), (1, 1)]), 2, 32, [.nl, .sc (.int .i64 0)]⟩ := rfl
theorem T184 : TT.get TA 184 = some ⟨(.slice 312), 1, 24, [.nl]⟩ := rfl
theorem T186 : TT.get TA 186 = some ⟨(.struct [(0, 1)]), 1, 24, [.nl]⟩ := rfl
theorem T188 : TT.get TA 188 = some ⟨(.slice 314), 1, 24, [.nl]⟩ := rfl
theorem T190 : TT.get TA 190 = some ⟨(.struct [(0, 1), (1, 1), (2, 1), (3, 1), (4, 1)]), 5, 72, [.sc (.int .i64 0), .sc (.int .i64 0), .nl, .sc (.int .i64 0), .nl]⟩ := rfl
theorem T192 : TT.get TA 192 = some ⟨(.slice 59), 1, 24, [.nl]⟩ := rfl
theorem T194 : TT.get TA 194 = some ⟨(.struct [(0, 1), (1, 1), (2, 1), (3, 1), (4, 1)]), 5, 88, [.sc (.int .i64 0), .nl, .nl, .nl, .sc (.bool false)]⟩ := rfl
theorem T196 : TT.get TA 196 = some ⟨(.struct [(0, 1), (1, 1)]), 2, 32, [.sc (.int .i64 0), .nl]⟩ := rfl
theorem T202 : TT.get TA 202 = some ⟨(.slice 132), 1, 24, [.nl]⟩ := rfl
theorem T204 : TT.get TA 204 = some ⟨(.struct [(0, 1)]), 1, 24, [.nl]⟩ := rfl
theorem T207 : TT.get TA 207 = some ⟨(.slice 62), 1, 24, [.nl]⟩ := rfl
theorem T209 : TT.get TA 209 = some ⟨(.struct [(0, 1), (1, 1), (2, 1), (3, 1), (4, 1)]), 5, 88, [.sc (.int .i64 0), .nl, .nl, .nl, .sc (.bool false)]⟩ := rfl
theorem T225 : TT.get TA 225 = some ⟨(.slice 9), 1, 24, [.nl]⟩ := rfl
theorem T234 : TT.get TA 234 = some ⟨(.struct [(0, 1), (1, 1), (2, 1), (3, 1)]), 4, 32, [.sc (.int .i64 0), .sc (.int .i64 0), .sc (.int .i64 0), .sc (.bool false)]⟩ := rfl
theorem T263 : TT.get TA 263 = some ⟨(.slice 5), 1, 24, [.nl]⟩ := rfl
theorem T310 : TT.get TA 310 = some ⟨(.struct [(0, 1), (1, 1), (2, 1), (3, 1), (4, 1)]), 5, 40, [.sc (.bool false), .sc (.int .i64 0), .sc (.int .i64 0), .sc (.int .i64 0), .sc (.int .i64 0)]⟩ := rfl
theorem T312 : TT.get TA 312 = some ⟨(.struct [(0, 1), (1, 1), (2, 1), (3, 1)]), 4, 32, [.sc (.int .i64 0), .sc (.int .i64 0), .sc (.int .i64 0), .sc (.int .i64 0)]⟩ := rfl
theorem T314 : TT.get TA 314 = some ⟨(.struct [(0, 1), (1, 1), (2, 1), (3, 1)]), 4, 32, [.sc (.int .i64 0), .sc (.int .i64 0), .sc (.int .i64 0), .sc (.bool false)]⟩ := rfl
theorem T320 : TT.get TA 320 = some ⟨(.ptr 322), 1, 8, [.sc (.pointer none)]⟩ := rfl
theorem T322 : TT.get TA 322 = some ⟨(.struct [(0, 1), (1, 1)]), 2, 32, [.sc (.pointer none), .nl]⟩ := rfl
theorem T332 : TT.get TA 332 = some ⟨(.ptr 5), 1, 8, [.sc (.pointer none)]⟩ := rfl
theorem T345 : TT.get TA 345 = some ⟨(.int .u8), 1, 1, [.sc (.int .u8 0)]⟩ := rfl
attribute [go_sem] T2 T3 T4 T5 T6 T8 T9 T10 T11 T12 T14 T15 T16 T17 T19 T22 T23 T24 T26 T27 T28 T29 T31 T35 T36 T38 T40 T41 T42 T44 T59 T62 T65 T68 T72 T88 T90 T93 T97 T101 T107 T132 T134 T136 T139 T141 T142 T144 T154 T158 T180 T182 T184 T186 T188 T190 T192 T194 T196 T202 T204 T207 T209 T225 T234 T263 T310 T312 T314 T320 T322 T332 T345

end Go.Proofs.AM
