/- The functions that the law reaches, as the evaluator reads them: table and names. -/
import Derived.Test.YtmmmlfndnoeedaaDoorProg
import Derived.Test.YtmmmlfndnoeedaaDoorEG
import Derived.Test.YtmmmlfndnoeedaaDoorEH
namespace Go.Proofs.YtmmmlfndnoeedaaDoor.NM
open Go.Eng
set_option linter.unusedVariables false
set_option maxRecDepth 100000
noncomputable section
instance glb : Glb := Glb.utf8 0 1 113 5
def e_i : CTs := (.one (.int .i64))
abbrev T_i : Type := Int
noncomputable def z_i : T_i := (0 : Int)
def e_s : CTs := (.one .str)
abbrev T_s : Type := ByteArray
noncomputable def z_s : T_s := (⟨#[]⟩ : ByteArray)
def e_y : CTs := (.one (.int .u8))
abbrev T_y : Type := Int
noncomputable def z_y : T_y := (0 : Int)
def e_RiQ : CTs := (.one (.row e_i))
abbrev T_RiQ : Type := List T_i
noncomputable def z_RiQ : T_RiQ := ([] : List T_i)
def e_sib : CTs := (.cons .str (.cons (.int .i64) (.one .bool)))
abbrev T_sib : Type := ByteArray × Int × Bool
noncomputable def z_sib : T_sib := ((⟨#[]⟩ : ByteArray), (0 : Int), false)
def e_iiib : CTs := (.cons (.int .i64) (.cons (.int .i64) (.cons (.int .i64) (.one .bool))))
abbrev T_iiib : Type := Int × Int × Int × Bool
noncomputable def z_iiib : T_iiib := ((0 : Int), (0 : Int), (0 : Int), false)
def e_iiii : CTs := (.cons (.int .i64) (.cons (.int .i64) (.cons (.int .i64) (.one (.int .i64)))))
abbrev T_iiii : Type := Int × Int × Int × Int
noncomputable def z_iiii : T_iiii := ((0 : Int), (0 : Int), (0 : Int), (0 : Int))
def e_siiii : CTs := (.cons .str (.cons (.int .i64) (.cons (.int .i64) (.cons (.int .i64) (.one (.int .i64))))))
abbrev T_siiii : Type := ByteArray × Int × Int × Int × Int
noncomputable def z_siiii : T_siiii := ((⟨#[]⟩ : ByteArray), (0 : Int), (0 : Int), (0 : Int), (0 : Int))
def sigT : List (Nat × Sig) := [(3, ⟨.bool, []⟩),
  (4, ⟨.bool, []⟩),
  (5, ⟨.bool, []⟩),
  (6, ⟨.bool, []⟩),
  (7, ⟨.int .i64, []⟩),
  (8, ⟨.int .i64, []⟩),
  (9, ⟨.int .i64, []⟩),
  (10, ⟨.own e_s, []⟩),
  (11, ⟨.agg (.cons (.own e_siiii) (.one (.own e_sib))), []⟩),
  (12, ⟨.own e_s, []⟩),
  (13, ⟨.bool, []⟩),
  (14, ⟨.bool, []⟩),
  (15, ⟨.int .i64, [.row e_siiii, .row e_sib]⟩),
  (16, ⟨.int .i64, [.row e_s]⟩),
  (17, ⟨.int .i64, []⟩),
  (18, ⟨.bool, []⟩),
  (19, ⟨.bool, []⟩),
  (20, ⟨.str, []⟩),
  (21, ⟨.str, []⟩),
  (22, ⟨.bool, []⟩),
  (23, ⟨.bool, []⟩),
  (24, ⟨.own e_i, []⟩),
  (25, ⟨.bool, []⟩),
  (26, ⟨.bool, []⟩),
  (27, ⟨.str, []⟩),
  (28, ⟨.own e_i, []⟩),
  (29, ⟨.bool, []⟩),
  (30, ⟨.bool, []⟩),
  (31, ⟨.bool, []⟩),
  (32, ⟨.int .i64, []⟩),
  (33, ⟨.int .i64, []⟩),
  (34, ⟨.int .i64, []⟩),
  (35, ⟨.own e_siiii, []⟩),
  (36, ⟨.own e_sib, []⟩),
  (37, ⟨.int .i64, []⟩),
  (38, ⟨.own e_sib, []⟩),
  (39, ⟨.tup .nil, [.row e_sib]⟩),
  (40, ⟨.int .i64, []⟩),
  (41, ⟨.int .i64, []⟩),
  (42, ⟨.bool, []⟩),
  (43, ⟨.bool, []⟩),
  (44, ⟨.bool, []⟩),
  (45, ⟨.int .i64, [.row e_siiii]⟩),
  (46, ⟨.int .i64, [.row e_sib]⟩),
  (47, ⟨.str, []⟩),
  (48, ⟨.bool, []⟩),
  (49, ⟨.own e_i, []⟩),
  (50, ⟨.str, []⟩),
  (51, ⟨.str, []⟩),
  (52, ⟨.str, []⟩),
  (53, ⟨.str, []⟩),
  (54, ⟨.bool, []⟩),
  (55, ⟨.bool, []⟩),
  (56, ⟨.bool, []⟩),
  (57, ⟨.int .i64, []⟩),
  (58, ⟨.tup (.cons (.int .i64) (.cons (.int .i64) (.one .bool))), []⟩),
  (59, ⟨.bool, []⟩),
  (60, ⟨.str, []⟩),
  (61, ⟨.own e_i, []⟩),
  (62, ⟨.own e_iiib, []⟩),
  (63, ⟨.int .i64, []⟩),
  (64, ⟨.int .i64, []⟩),
  (65, ⟨.int .i64, []⟩),
  (66, ⟨.str, []⟩),
  (67, ⟨.own e_siiii, [.dead]⟩),
  (68, ⟨.bool, []⟩),
  (69, ⟨.agg (.cons .str (.cons (.int .i64) (.cons (.int .i64) (.cons (.int .i64) (.one (.int .i64)))))), []⟩),
  (70, ⟨.agg (.cons .str (.cons (.int .i64) (.one .bool))), []⟩),
  (71, ⟨.str, []⟩),
  (72, ⟨.bool, []⟩),
  (73, ⟨.bool, []⟩),
  (74, ⟨.agg (.cons (.own e_siiii) (.one (.own e_sib))), [.dead]⟩),
  (75, ⟨.tup .nil, [.row e_sib]⟩),
  (76, ⟨.bool, []⟩),
  (77, ⟨.bool, []⟩),
  (78, ⟨.bool, []⟩),
  (79, ⟨.own e_i, []⟩),
  (80, ⟨.own e_i, []⟩),
  (81, ⟨.own e_i, []⟩),
  (82, ⟨.str, []⟩),
  (83, ⟨.str, []⟩),
  (84, ⟨.tup (.cons (.int .i64) (.one (.int .i64))), []⟩),
  (85, ⟨.bool, []⟩),
  (87, ⟨.bool, []⟩),
  (88, ⟨.own e_y, [.dead]⟩),
  (89, ⟨.own e_i, []⟩),
  (90, ⟨.int .i64, []⟩),
  (91, ⟨.tup .nil, [.row e_i]⟩),
  (92, ⟨.int .i64, []⟩),
  (93, ⟨.int .i64, []⟩),
  (94, ⟨.tup (.cons (.int .i32) (.one (.int .i64))), []⟩),
  (95, ⟨.tup (.cons (.int .i64) (.one (.int .i64))), []⟩),
  (96, ⟨.int .i64, []⟩),
  (97, ⟨.int .i64, []⟩),
  (98, ⟨.bool, []⟩),
  (101, ⟨.bool, []⟩),
  (102, ⟨.own e_siiii, [.dead]⟩),
  (103, ⟨.tup .nil, [.row e_sib]⟩),
  (104, ⟨.tup .nil, [.row e_sib]⟩),
  (105, ⟨.own e_i, []⟩),
  (106, ⟨.bool, []⟩),
  (107, ⟨.own e_i, []⟩),
  (108, ⟨.bool, []⟩),
  (109, ⟨.own e_i, []⟩),
  (110, ⟨.int .i64, []⟩),
  (111, ⟨.own e_i, []⟩),
  (112, ⟨.int .i64, []⟩),
  (113, ⟨.tup (.cons (.int .i64) (.one (.int .i64))), []⟩),
  (114, ⟨.tup (.cons (.int .i64) (.one (.int .i64))), []⟩),
  (115, ⟨.ownF e_i, []⟩),
  (116, ⟨.own e_iiii, []⟩),
  (117, ⟨.own e_iiii, []⟩),
  (118, ⟨.own e_y, [.dead]⟩),
  (119, ⟨.tup .nil, [.row e_i]⟩),
  (120, ⟨.bool, []⟩),
  (123, ⟨.int .i64, []⟩),
  (124, ⟨.tup .nil, [.row e_sib]⟩),
  (125, ⟨.own e_i, []⟩),
  (126, ⟨.int .i64, []⟩),
  (127, ⟨.int .i64, []⟩),
  (128, ⟨.int .i64, []⟩),
  (129, ⟨.tup .nil, [.row e_i]⟩),
  (130, ⟨.tup .nil, [.row e_i]⟩),
  (131, ⟨.bool, []⟩),
  (133, ⟨.int .i64, []⟩),
  (134, ⟨.int .i64, []⟩),
  (135, ⟨.int .i64, []⟩),
  (136, ⟨.tup .nil, [.row e_sib]⟩),
  (137, ⟨.int .i64, []⟩),
  (138, ⟨.int .i64, []⟩),
  (139, ⟨.tup .nil, [.row e_i]⟩),
  (140, ⟨.int .i64, []⟩),
  (141, ⟨.tup .nil, [.row e_i]⟩),
  (142, ⟨.int .i64, []⟩),
  (143, ⟨.int .i64, []⟩),
  (144, ⟨.int .i64, []⟩),
  (145, ⟨.int .i64, []⟩),
  (146, ⟨.int .i64, []⟩),
  (147, ⟨.tup (.cons (.int .u32) (.one (.int .u32))), []⟩)]
def lendT : List (Nat × List Bool) := [(15, [true, false]), (16, [true, false]), (39, [true, false]), (45, [true, false]), (46, [true, false]), (67, [true, false]), (74, [false, true]), (75, [true, false, false]), (88, [true, false]), (91, [true, false]), (102, [true, false]), (103, [true, false, false, false]), (104, [true, false, false, false, false]), (118, [true, false]), (119, [true, false, false]), (124, [true, false, false, false, false]), (129, [true, false, false, false]), (130, [true, false, false, false, false]), (136, [true, false, false, false, false]), (139, [true, false, false, false, false]), (141, [true, false, false, false, false])]
def loopT : List (Nat × List (Nat × Hint)) := [(8, [(7, { live := [29, 30, 31] })]),
  (10, [(6, { live := [1, 2, 3, 7, 8, 9] }), (13, { live := [1, 2, 3, 7, 8, 9, 10, 11] })]),
  (12, [(7, { live := [1, 2, 8, 19, 20, 21] })]),
  (13, [(4, { live := [0, 1, 5] })]),
  (16, [(2, { live := [0, 1, 5] })]),
  (17, [(2, { live := [0, 1, 5] })]),
  (23, [(4, { live := [0, 3] })]),
  (24, [(3, { live := [0, 3, 4] })]),
  (28, [(3, { live := [3, 7, 8, 9] })]),
  (32, [(5, { live := [0, 1, 5] })]),
  (33, [(5, { live := [0, 1, 5] })]),
  (34, [(8, { live := [1, 3, 4, 5] }), (13, { live := [1, 3, 6] })]),
  (35, [(3, { live := [0, 3, 4] })]),
  (36, [(3, { live := [0, 3, 4] })]),
  (43, [(4, { live := [0, 1, 5] })]),
  (44, [(4, { live := [0, 1, 5] })]),
  (45, [(2, { live := [0, 1, 5] })]),
  (46, [(2, { live := [0, 1, 5] })]),
  (47, [(4, { live := [0, 3] })]),
  (48, [(4, { live := [0, 1, 5] })]),
  (49, [(4, { live := [3, 4, 5] })]),
  (50, [(3, { live := [3, 8, 9, 10] })]),
  (52, [(3, { live := [0, 3, 4] })]),
  (58, [(19, { live := [0, 1, 8, 9, 10] })]),
  (60, [(3, { live := [3, 6, 7, 8] })]),
  (61, [(3, { live := [0, 5, 18, 19, 20], mat := [(5, e_i)] }), (8, { live := [0, 5, 8] }), (10, { live := [0, 5, 8, 9] }), (20, { live := [10, 11, 12, 66, 67, 68], mat := [(10, e_i)] })]),
  (62, [(3, { live := [0, 3, 4] })]),
  (66, [(3, { live := [0, 3, 4] })]),
  (71, [(3, { live := [3, 7, 8, 9] })]),
  (72, [(2, { live := [0, 1, 7, 8, 9] })]),
  (73, [(4, { live := [0, 1, 12, 13] })]),
  (75, [(2, { live := [0, 1, 2, 6, 7, 8] }), (7, { live := [0, 1, 2, 6] }), (9, { live := [0, 1, 2, 6, 7, 8] })]),
  (79, [(3, { live := [0, 1, 5, 6] })]),
  (80, [(23, { live := [5, 6, 7] })]),
  (81, [(25, { live := [8, 93, 94, 95] })]),
  (84, [(4, { live := [0, 4, 5] }), (18, { live := [0, 7, 8] })]),
  (89, [(6, { live := [1, 6, 16, 17, 18], mat := [(6, e_i)] })]),
  (96, [(3, { live := [0, 3, 4] })]),
  (97, [(4, { live := [0, 3, 4, 5] })]),
  (98, [(4, { live := [0, 3] })]),
  (101, [(2, { live := [0, 6, 7] })]),
  (102, [(7, { live := [0, 1, 5, 6, 7, 8] })]),
  (103, [(1, { live := [0, 1, 2, 3, 8] }), (4, { live := [0, 1, 2, 3, 8, 9] })]),
  (104, [(3, { live := [0, 1, 4, 10, 11] }), (9, { live := [0, 10, 13] }), (15, { live := [0, 2, 4, 14, 15] }), (21, { live := [0, 14, 17] }), (33, { live := [0, 1, 2, 3, 4, 18, 19, 20, 21, 22] })]),
  (105, [(6, { live := [1, 5, 6, 7] })]),
  (107, [(3, { live := [3, 4] }), (7, { live := [3, 4, 5] })]),
  (109, [(4, { live := [0, 3, 4, 5] }), (10, { live := [0, 3, 4, 5, 6, 7, 8, 9] })]),
  (114, [(2, { live := [0, 6, 7, 8] })]),
  (119, [(2, { live := [0, 1, 2, 6, 7, 8] }), (7, { live := [0, 1, 2, 6] }), (9, { live := [0, 1, 2, 6, 7, 8] })]),
  (123, [(6, { live := [0, 1, 5] })]),
  (124, [(2, { live := [0, 2, 4, 10, 11] })]),
  (129, [(1, { live := [0, 1, 2, 3, 8] }), (4, { live := [0, 1, 2, 3, 8, 9] })]),
  (130, [(3, { live := [0, 1, 4, 10, 11] }), (9, { live := [0, 10, 13] }), (15, { live := [0, 2, 4, 14, 15] }), (21, { live := [0, 14, 17] }), (33, { live := [0, 1, 2, 3, 4, 18, 19, 20, 21, 22] })]),
  (133, [(2, { live := [2, 4] })]),
  (136, [(1, { live := [0, 1, 2, 3, 10] })]),
  (139, [(2, { live := [0, 2, 4, 10, 11] })]),
  (140, [(15, { live := [0, 1, 5, 6, 7, 8, 9, 10] })]),
  (141, [(1, { live := [0, 1, 2, 3, 10] })]),
  (145, [(5, { live := [0, 1, 5, 6, 7, 8, 9] }), (11, { live := [0, 1, 5, 6, 7, 8, 10] })]),
  (147, [(3, { live := [0, 4, 5] }), (8, { live := [4, 6, 7, 8] })])]
def joinT : List (Nat × List (Nat × Hint)) := [(4, [(16, { live := [1, 2, 3, 8, 10] })]),
  (58, [(16, { live := [0, 1, 8, 9] })]),
  (61, [(29, { live := [10, 11, 14, 15, 66, 67, 68] })]),
  (80, [(5, { live := [0, 3, 4, 5, 14] }), (7, { live := [0, 3, 4, 5, 22] }), (9, { live := [0, 3, 4, 5, 36] }), (11, { live := [0, 3, 5, 57] }), (13, { live := [0, 3, 5, 67] }), (15, { live := [0, 3, 5, 80] }), (27, { live := [0] })]),
  (81, [(5, { live := [0, 3, 4, 5, 7, 23] }), (7, { live := [0, 3, 4, 5, 7, 30] }), (9, { live := [0, 3, 4, 5, 7, 40] }), (11, { live := [0, 3, 7, 51] }), (32, { live := [0] })]),
  (82, [(3, { live := [0] })]),
  (93, [(4, { live := [0, 1, 5] }), (6, { live := [0, 1, 5] }), (7, { live := [0, 1, 5, 15] }), (9, { live := [0, 1, 5, 28] })]),
  (95, [(14, { live := [0, 44] }), (16, { live := [0, 51] }), (36, { live := [0, 89] }), (40, { live := [0, 103] }), (46, { live := [0, 124] }), (48, { live := [0, 131] }), (61, { live := [] })]),
  (104, [(41, { live := [0, 1, 3, 4, 18, 20, 24] }), (43, { live := [0, 3, 4, 18, 24] })]),
  (109, [(17, { live := [0, 3, 4, 5, 6, 7] })]),
  (111, [(2, { live := [0, 4] })]),
  (115, [(2, { live := [0, 1, 8] })]),
  (118, [(7, { live := [0, 1, 5, 25] })]),
  (125, [(3, { live := [0, 1, 5, 9] }), (10, { live := [0, 1, 43] })]),
  (127, [(3, { live := [0, 1, 5, 8] }), (5, { live := [0, 1, 5, 25] }), (7, { live := [0, 1, 42] }), (9, { live := [0, 1, 55] }), (12, { live := [] })]),
  (130, [(41, { live := [0, 1, 3, 4, 18, 20, 24] }), (43, { live := [0, 3, 4, 18, 24] })]),
  (140, [(10, { live := [0, 1, 5] }), (21, { live := [0, 1, 5, 6, 7, 8, 9, 10] }), (23, { live := [0, 1, 5, 6, 7, 8, 9, 10] }), (26, { live := [0, 1, 5, 6, 7, 8, 9, 10, 107] })])]
noncomputable def E : Env := { P := Go.Proofs.Tryd.prog, sig := fun f => lookN ⟨.bool, []⟩ f sigT, lend := fun f => lookN [] f lendT, loopHint := fun f k => lookT f k loopT, joinHint := fun f k => lookT f k joinT, over := fun f => memb f [38, 59, 94], bld := fun f => lookN 0 f [(99, 1), (100, 3)], isB := fun t => Nat.beq t 113 }
def bs (l : List Nat) : ByteArray := ⟨⟨l.map UInt8.ofNat⟩⟩
def ext : Cf E := fun f vs os =>
  if h : f = 38 then h ▸ (xClone e_sib 32 vs os : Option (E.sig 38).T) else
  if h : f = 59 then h ▸ (xValid vs os : Option (E.sig 59).T) else
  if h : f = 94 then h ▸ (xDecodeRune vs os : Option (E.sig 94).T) else
  if h : f = 134 then h ▸ (xCountString vs os : Option (E.sig 134).T) else
  if h : f = 146 then h ▸ (xIndexByteString vs os : Option (E.sig 146).T) else
  none
def laws_FnExactIdFault (fu : Nat) (aText : ByteArray) : Option (Bool) := evF E ext fu 3 [.str aText] []
def laws_FnExactMarksAt (fu : Nat) (aR : List T_siiii) (aR_1 : List T_sib) (aFrom : Int) (aTo : Int) : Option (Bool) := evF E ext fu 4 [.agg [.ro e_siiii aR, .ro e_sib aR_1], .int .i64 aFrom, .int .i64 aTo] []
def laws_FnExactLookAlike (fu : Nat) (aA : ByteArray) (aB : ByteArray) : Option (Bool) := evF E ext fu 5 [.str aA, .str aB] []
def laws_FnExactSkeletonOf (fu : Nat) (aText : ByteArray) : Option (Bool) := evF E ext fu 6 [.str aText] []
def spec_IdFault (fu : Nat) (text : ByteArray) : Option (Int) := evF E ext fu 7 [.str text] []
def impl_IdFault (fu : Nat) (text : ByteArray) : Option (Int) := evF E ext fu 8 [.str text] []
def laws_szRope (fu : Nat) (a : List T_siiii) (a_1 : List T_sib) (left : Int) : Option (Int) := evF E ext fu 9 [.agg [.ro e_siiii a, .ro e_sib a_1], .int .i64 left] []
def laws_toRope (fu : Nat) (a : List T_siiii) (a_1 : List T_sib) : Option (List T_siiii × List T_sib) := evF E ext fu 11 [.agg [.ro e_siiii a, .ro e_sib a_1]] []
def spec_MarksAt (fu : Nat) (r : List T_siiii) (r_1 : List T_sib) (from' : Int) (to : Int) : Option (List T_s) := evF E ext fu 10 [.agg [.ro e_siiii r, .ro e_sib r_1], .int .i64 from', .int .i64 to] []
def impl_MarksAt (fu : Nat) (r : List T_siiii) (r_1 : List T_sib) (from' : Int) (to : Int) : Option (List T_s) := evF E ext fu 12 [.agg [.ro e_siiii r, .ro e_sib r_1], .int .i64 from', .int .i64 to] []
def laws_eqStringS (fu : Nat) (a : List T_s) (b : List T_s) : Option (Bool) := evF E ext fu 13 [.ro e_s a, .ro e_s b] []
def laws_eqRope (fu : Nat) (a : List T_siiii) (a_1 : List T_sib) (b : List T_siiii) (b_1 : List T_sib) : Option (Bool) := evF E ext fu 14 [.agg [.ro e_siiii a, .ro e_sib a_1], .agg [.ro e_siiii b, .ro e_sib b_1]] []
def laws_markRope (fu : Nat) (k : Int) (a : List T_siiii) (a_1 : List T_sib) : Option (Int × (List T_siiii × List T_sib)) := evF E ext fu 15 [.agg [.own 0, .own 1], .int .i64 k] [.row .unk e_siiii a, .row .unk e_sib a_1]
def laws_FnExactMarksAt_J16 (fu : Nat) (aFrom : Int) (aTo : Int) (aR : List T_siiii) (aR_1 : List T_sib) (w0 : List T_s) (g0 : List T_s) : Option (Bool) := joinAt E ext 4 0 fu [true, true, true, true, true, true, true, true, true, true, true, true] [] (tabTm [1, 2, 3, 8, 10] [.int .i64 aFrom, .int .i64 aTo, .box 500 0, .own 501, .own 502]) (tabOb [(500, some (.box [.ro e_siiii aR, .ro e_sib aR_1])), (501, some (.row .unk e_s w0)), (502, some (.row .unk e_s g0))])
def spec_LookAlike (fu : Nat) (a : ByteArray) (b : ByteArray) : Option (Bool) := evF E ext fu 18 [.str a, .str b] []
def impl_LookAlike (fu : Nat) (a : ByteArray) (b : ByteArray) : Option (Bool) := evF E ext fu 19 [.str a, .str b] []
def spec_SkeletonOf (fu : Nat) (text : ByteArray) : Option (ByteArray) := evF E ext fu 20 [.str text] []
def impl_SkeletonOf (fu : Nat) (text : ByteArray) : Option (ByteArray) := evF E ext fu 21 [.str text] []
def spec_IsNormal (fu : Nat) (form : Int) (text : ByteArray) : Option (Bool) := evF E ext fu 22 [.int .i64 form, .str text] []
def spec_l01Points (fu : Nat) (t : ByteArray) : Option (List T_i) := evF E ext fu 24 [.str t] []
def spec_l19Id (fu : Nat) (l : List T_i) : Option (Bool) := evF E ext fu 23 [.ro e_i l] []
def impl_long (fu : Nat) (s : ByteArray) : Option (Bool) := evF E ext fu 25 [.str s] []
def impl_well (fu : Nat) (s : ByteArray) : Option (Bool) := evF E ext fu 26 [.str s] []
def impl_norm (fu : Nat) (form : Int) (s : ByteArray) : Option (ByteArray) := evF E ext fu 27 [.int .i64 form, .str s] []
def impl_points (fu : Nat) (s : ByteArray) : Option (List T_i) := evF E ext fu 28 [.str s] []
def impl_IdFault_L7 (fu fu1 : Nat) (x : Int) (x_1 : Int) (x_2 : List T_i) : Option (Int) := loopAt E ext 8 0 fu [true, true, true, true, false, true, false] [] fu1 (tabTm [29, 30, 31] [.own 500, .int .i64 x, .int .i64 x_1]) (tabOb [(500, some (.row .unk e_i x_2))])
def laws_szRopeNodeS (fu : Nat) (a : List T_siiii) (left : Int) : Option (Int) := evF E ext fu 32 [.ro e_siiii a, .int .i64 left] []
def laws_szMarkS (fu : Nat) (a : List T_sib) (left : Int) : Option (Int) := evF E ext fu 33 [.ro e_sib a, .int .i64 left] []
def laws_toRopeNodeS (fu : Nat) (a : List T_siiii) : Option (List T_siiii) := evF E ext fu 35 [.ro e_siiii a] []
def laws_toMarkS (fu : Nat) (a : List T_sib) : Option (List T_sib) := evF E ext fu 36 [.ro e_sib a] []
def spec_RopeFault (fu : Nat) (r : List T_siiii) (r_1 : List T_sib) : Option (Int) := evF E ext fu 34 [.agg [.ro e_siiii r, .ro e_sib r_1]] []
def spec_MarksAt_L6 (fu fu1 : Nat) (from' : Int) (to : Int) (i : Int) (r : List T_siiii) (r_1 : List T_sib) (out : List T_s) (at' : List T_i) : Option (List T_s) := loopAt E ext 10 0 fu [true, true, true, true, false, true, false] [] fu1 (tabTm [1, 2, 3, 7, 8, 9] [.int .i64 from', .int .i64 to, .box 500 0, .own 501, .own 502, .int .i64 i]) (tabOb [(500, some (.box [.ro e_siiii r, .ro e_sib r_1])), (501, some (.row (.is false) e_s out)), (502, some (.row (.is false) e_i at'))])
def impl_RopeFault (fu : Nat) (r : List T_siiii) (r_1 : List T_sib) : Option (Int) := evF E ext fu 37 [.agg [.ro e_siiii r, .ro e_sib r_1]] []
def slices_Clone_Mark_Mark (fu : Nat) (s : List T_sib) : Option (List T_sib) := evF E ext fu 38 [.ro e_sib s] []
def slices_SortStableFunc_Mark_Mark (fu : Nat) (x : List T_sib) : Option (Unit × List T_sib) := evF E ext fu 39 [.own 0, .fn 40 [] []] [.row .unk e_sib x]
def impl_MarksAt_L7 (fu fu1 : Nat) (from' : Int) (to : Int) (x : Int) (x_1 : Int) (x_2 : List T_sib) : Option (List T_s) := loopAt E ext 12 0 fu [true, true, true, true, true, false, true, false] [] fu1 (tabTm [1, 2, 8, 19, 20, 21] [.int .i64 from', .int .i64 to, .nil, .own 500, .int .i64 x, .int .i64 x_1]) (tabOb [(500, some (.row .unk e_sib x_2))])
def laws_eqStringS_L4 (fu fu1 : Nat) (a : List T_s) (b : List T_s) (i : Int) : Option (Bool) := loopAt E ext 13 0 fu [true, true, false, true, false] [] fu1 (tabTm [0, 1, 5] [.ro e_s a, .ro e_s b, .int .i64 i]) (tabOb [])
def laws_eqRopeNodeS (fu : Nat) (a : List T_siiii) (b : List T_siiii) : Option (Bool) := evF E ext fu 43 [.ro e_siiii a, .ro e_siiii b] []
def laws_eqMarkS (fu : Nat) (a : List T_sib) (b : List T_sib) : Option (Bool) := evF E ext fu 44 [.ro e_sib a, .ro e_sib b] []
def laws_markRopeNodeS (fu : Nat) (k : Int) (a : List T_siiii) : Option (Int × List T_siiii) := evF E ext fu 45 [.own 0, .int .i64 k] [.row .unk e_siiii a]
def laws_markMarkS (fu : Nat) (k : Int) (a : List T_sib) : Option (Int × List T_sib) := evF E ext fu 46 [.own 0, .int .i64 k] [.row .unk e_sib a]
def laws_markStringS (fu : Nat) (k : Int) (a : List T_s) : Option (Int × List T_s) := evF E ext fu 16 [.own 0, .int .i64 k] [.row .unk e_s a]
def laws_heldStringS (fu : Nat) (a : List T_s) (k : Int) : Option (Int) := evF E ext fu 17 [.ro e_s a, .int .i64 k] []
def spec_l19Skeleton (fu : Nat) (t : ByteArray) : Option (List T_i) := evF E ext fu 49 [.str t] []
def spec_l04Same (fu : Nat) (a : List T_i) (b : List T_i) : Option (Bool) := evF E ext fu 48 [.ro e_i a, .ro e_i b] []
def impl_skeleton (fu : Nat) (text : ByteArray) : Option (ByteArray) := evF E ext fu 50 [.str text] []
def spec_l01Text (fu : Nat) (points : List T_i) : Option (ByteArray) := evF E ext fu 52 [.ro e_i points] []
def spec_l01Small (fu : Nat) (t : ByteArray) : Option (ByteArray) := evF E ext fu 51 [.str t] []
def impl_short (fu : Nat) (s : ByteArray) : Option (ByteArray) := evF E ext fu 53 [.str s] []
def spec_l05IsForm (fu : Nat) (form : Int) : Option (Bool) := evF E ext fu 54 [.int .i64 form] []
def spec_l05Is (fu : Nat) (form : Int) (text : ByteArray) : Option (Bool) := evF E ext fu 55 [.int .i64 form, .str text] []
def spec_l01Points_L3 (fu fu1 : Nat) (t : ByteArray) (i : Int) (out : List T_i) : Option (List T_i) := loopAt E ext 24 0 fu [true, true, false, true, false] [] fu1 (tabTm [0, 3, 4] [.str t, .own 500, .int .i64 i]) (tabOb [(500, some (.row (.is false) e_i out))])
def spec_l19Letter (fu : Nat) (p : Int) : Option (Bool) := evF E ext fu 56 [.int .i64 p] []
def spec_l19Id_L4 (fu fu1 : Nat) (l : List T_i) (i : Int) : Option (Bool) := loopAt E ext 23 0 fu [true, true, false, true, false] [] fu1 (tabTm [0, 3] [.ro e_i l, .int .i64 i]) (tabOb [])
def unicode_utf8_ValidString (fu : Nat) (s : ByteArray) : Option (Bool) := evF E ext fu 59 [.str s] []
def impl_normal (fu : Nat) (form : Int) (l : List T_i) : Option (List T_i) := evF E ext fu 61 [.int .i64 form, .ro e_i l] []
def impl_write (fu : Nat) (l : List T_i) : Option (ByteArray) := evF E ext fu 60 [.ro e_i l] []
def impl_read (fu : Nat) (s : ByteArray) : Option (List T_iiib) := evF E ext fu 62 [.str s] []
def impl_points_L3 (fu fu1 : Nat) (x : Int) (x_1 : Int) (x_2 : List T_iiib) : Option (List T_i) := loopAt E ext 28 0 fu [true, true, false, true, false] [] fu1 (tabTm [3, 7, 8, 9] [.nil, .own 500, .int .i64 x, .int .i64 x_1]) (tabOb [(500, some (.row .unk e_iiib x_2))])
def impl_isLetter (fu : Nat) (p : Int) : Option (Bool) := evF E ext fu 29 [.int .i64 p] []
def impl_isMark (fu : Nat) (p : Int) : Option (Bool) := evF E ext fu 30 [.int .i64 p] []
def impl_isDigit (fu : Nat) (p : Int) : Option (Bool) := evF E ext fu 31 [.int .i64 p] []
def laws_szRopeNodeS_L5 (fu fu1 : Nat) (a : List T_siiii) (left : Int) (i : Int) : Option (Int) := loopAt E ext 32 0 fu [true, true, true, false, true, false] [] fu1 (tabTm [0, 1, 5] [.ro e_siiii a, .int .i64 left, .int .i64 i]) (tabOb [])
def laws_szMarkS_L5 (fu fu1 : Nat) (a : List T_sib) (left : Int) (i : Int) : Option (Int) := loopAt E ext 33 0 fu [true, true, true, false, true, false] [] fu1 (tabTm [0, 1, 5] [.ro e_sib a, .int .i64 left, .int .i64 i]) (tabOb [])
def laws_toRopeNodeS_L3 (fu fu1 : Nat) (a : List T_siiii) (i : Int) (out : List T_siiii) : Option (List T_siiii) := loopAt E ext 35 0 fu [true, true, false, true, false] [] fu1 (tabTm [0, 3, 4] [.ro e_siiii a, .own 500, .int .i64 i]) (tabOb [(500, some (.row (.is false) e_siiii out))])
def laws_toMarkS_L3 (fu fu1 : Nat) (a : List T_sib) (i : Int) (out : List T_sib) : Option (List T_sib) := loopAt E ext 36 0 fu [true, true, false, true, false] [] fu1 (tabTm [0, 3, 4] [.ro e_sib a, .own 500, .int .i64 i]) (tabOb [(500, some (.row (.is false) e_sib out))])
def spec_l20Text (fu : Nat) (l : List T_siiii) : Option (ByteArray) := evF E ext fu 66 [.ro e_siiii l] []
def spec_l20Build (fu : Nat) (t : ByteArray) (l : List T_siiii) : Option (List T_siiii × Unit) := evF E ext fu 67 [.own 0, .str t] [.row (.is false) e_siiii l]
def spec_RopeFault_L8 (fu fu1 : Nat) (t : ByteArray) (i : Int) (r : List T_siiii) (r_1 : List T_sib) (own : List T_siiii) : Option (Int) := loopAt E ext 34 0 fu [true, true, true, true, true, false, true, false] [] fu1 (tabTm [1, 3, 4, 5] [.box 500 0, .str t, .own 501, .int .i64 i]) (tabOb [(500, some (.box [.ro e_siiii r, .ro e_sib r_1])), (501, some (.row .unk e_siiii own))])
def spec_MarksAt_L13 (fu fu1 fu2 : Nat) (from' : Int) (to : Int) (i : Int) (k : Int) (r : List T_siiii) (r_1 : List T_sib) (out : List T_s) (at' : List T_i) (m : ByteArray) (m_1 : Int) (m_2 : Bool) : Option (List T_s) := loopAt E ext 10 0 fu [true, true, true, true, false, true, false, false, true, false, false, true, true, true, true, true, false, false] [fu1] fu2 (tabTm [1, 2, 3, 7, 8, 9, 10, 11] [.int .i64 from', .int .i64 to, .box 500 0, .own 501, .own 502, .int .i64 i, .box 503 0, .int .i64 k]) (tabOb [(500, some (.box [.ro e_siiii r, .ro e_sib r_1])), (501, some (.row (.is false) e_s out)), (502, some (.row (.is false) e_i at')), (503, some (.box [.str m, .int .i64 m_1, .bool m_2]))])
def impl_ropeText (fu : Nat) (r : List T_siiii) (r_1 : List T_sib) : Option (ByteArray) := evF E ext fu 71 [.agg [.ro e_siiii r, .ro e_sib r_1]] []
def impl_marksRight (fu : Nat) (l : List T_sib) (n : Int) : Option (Bool) := evF E ext fu 72 [.ro e_sib l, .int .i64 n] []
def impl_ropeOf (fu : Nat) (s : ByteArray) (marks : List T_sib) : Option ((List T_siiii × List T_sib) × Unit) := evF E ext fu 74 [.str s, .own 0] [.row (.is true) e_sib marks]
def slices_Equal_RopeNode_RopeNode (fu : Nat) (s1 : List T_siiii) (s2 : List T_siiii) : Option (Bool) := evF E ext fu 73 [.ro e_siiii s1, .ro e_siiii s2] []
def slices_stableCmpFunc_Mark (fu : Nat) (n : Int) (data : List T_sib) : Option (Unit × List T_sib) := evF E ext fu 75 [.own 0, .int .i64 n, .fn 40 [] []] [.row .unk e_sib data]
def impl_in (fu : Nat) (p : Int) (a : Int) (b : Int) : Option (Bool) := evF E ext fu 42 [.int .i64 p, .int .i64 a, .int .i64 b] []
def impl_MarksAt_L7'1 (fu fu1 : Nat) (from' : Int) (to : Int) (x : Int) (x_1 : Int) (out : List T_s) (x_2 : List T_sib) : Option (List T_s) := loopAt E ext 12 0 fu [true, true, true, true, true, false, true, false] [] fu1 (tabTm [1, 2, 8, 19, 20, 21] [.int .i64 from', .int .i64 to, .own 500, .own 501, .int .i64 x, .int .i64 x_1]) (tabOb [(500, some (.row .unk e_s out)), (501, some (.row .unk e_sib x_2))])
def laws_eqRopeNodeS_L4 (fu fu1 : Nat) (a : List T_siiii) (b : List T_siiii) (i : Int) : Option (Bool) := loopAt E ext 43 0 fu [true, true, false, true, false] [] fu1 (tabTm [0, 1, 5] [.ro e_siiii a, .ro e_siiii b, .int .i64 i]) (tabOb [])
def laws_eqMarkS_L4 (fu fu1 : Nat) (a : List T_sib) (b : List T_sib) (i : Int) : Option (Bool) := loopAt E ext 44 0 fu [true, true, false, true, false] [] fu1 (tabTm [0, 1, 5] [.ro e_sib a, .ro e_sib b, .int .i64 i]) (tabOb [])
def laws_markRopeNodeS_L2 (fu fu1 : Nat) (k : Int) (i : Int) (a : List T_siiii) : Option (Int × List T_siiii) := loopAt E ext 45 1 fu [true, false, true, false] [] fu1 (tabTm [0, 1, 5] [.own 0, .int .i64 k, .int .i64 i]) (tabOb [(0, some (.row .unk e_siiii a))])
def laws_markMarkS_L2 (fu fu1 : Nat) (k : Int) (i : Int) (a : List T_sib) : Option (Int × List T_sib) := loopAt E ext 46 1 fu [true, false, true, false] [] fu1 (tabTm [0, 1, 5] [.own 0, .int .i64 k, .int .i64 i]) (tabOb [(0, some (.row .unk e_sib a))])
def laws_markStringS_L2 (fu fu1 : Nat) (k : Int) (i : Int) (a : List T_s) : Option (Int × List T_s) := loopAt E ext 16 1 fu [true, false, true, false] [] fu1 (tabTm [0, 1, 5] [.own 0, .int .i64 k, .int .i64 i]) (tabOb [(0, some (.row .unk e_s a))])
def laws_heldStringS_L2 (fu fu1 : Nat) (a : List T_s) (k : Int) (i : Int) : Option (Int) := loopAt E ext 17 0 fu [true, false, true, false] [] fu1 (tabTm [0, 1, 5] [.ro e_s a, .int .i64 k, .int .i64 i]) (tabOb [])
def spec_l05Norm (fu : Nat) (form : Int) (points : List T_i) : Option (List T_i) := evF E ext fu 79 [.int .i64 form, .ro e_i points] []
def spec_l19Skeleton_L4 (fu fu1 : Nat) (i : Int) (l : List T_i) (out : List T_i) : Option (List T_i) := loopAt E ext 49 0 fu [true, true, true, false, true, false] [] fu1 (tabTm [3, 4, 5] [.own 500, .own 501, .int .i64 i]) (tabOb [(500, some (.row .unk e_i l)), (501, some (.row (.is false) e_i out))])
def spec_l04Same_L4 (fu fu1 : Nat) (a : List T_i) (b : List T_i) (i : Int) : Option (Bool) := loopAt E ext 48 0 fu [true, true, false, true, false] [] fu1 (tabTm [0, 1, 5] [.ro e_i a, .ro e_i b, .int .i64 i]) (tabOb [])
def impl_skeleton_L3 (fu fu1 : Nat) (x : Int) (x_1 : Int) (x_2 : List T_i) : Option (ByteArray) := loopAt E ext 50 0 fu [true, true, false, true, false] [] fu1 (tabTm [3, 8, 9, 10] [.nil, .own 500, .int .i64 x, .int .i64 x_1]) (tabOb [(500, some (.row .unk e_i x_2))])
def spec_l01Text_L3 (fu fu1 : Nat) (points : List T_i) (i : Int) (out : List T_y) : Option (ByteArray) := loopAt E ext 52 0 fu [true, true, false, true, false] [] fu1 (tabTm [0, 3, 4] [.ro e_i points, .own 500, .int .i64 i]) (tabOb [(500, some (.row (.is false) e_y out))])
def spec_l05Text (fu : Nat) (form : Int) (t : ByteArray) : Option (ByteArray) := evF E ext fu 83 [.int .i64 form, .str t] []
def spec_l01Next (fu : Nat) (t : ByteArray) (at' : Int) : Option (Int × Int × Bool) := evF E ext fu 58 [.str t, .int .i64 at'] []
def spec_l01Cat (fu : Nat) (p : Int) : Option (Int) := evF E ext fu 57 [.int .i64 p] []
def impl_normal_L3 (fu fu1 : Nat) (form : Int) (x : List T_i) (x_1 : Int) (x_2 : Int) (out : List T_i) : Option (List T_i) := loopAt E ext 61 0 fu [true, true, false, true, false] [] fu1 (tabTm [0, 5, 18, 19, 20] [.int .i64 form, .own 500, .ro e_i x, .int .i64 x_1, .int .i64 x_2]) (tabOb [(500, some (.row .unk e_i out))])
def impl_write_L3 (fu fu1 : Nat) (x : List T_i) (x_1 : Int) (x_2 : Int) : Option (ByteArray) := loopAt E ext 60 0 fu [true, true, false, true, false] [] fu1 (tabTm [3, 6, 7, 8] [.nil, .ro e_i x, .int .i64 x_1, .int .i64 x_2]) (tabOb [])
def impl_read_L3 (fu fu1 : Nat) (s : ByteArray) (i : Int) : Option (List T_iiib) := loopAt E ext 62 0 fu [true, true, false, true, false] [] fu1 (tabTm [0, 3, 4] [.str s, .nil, .int .i64 i]) (tabOb [])
def impl_points_L3'1 (fu fu1 : Nat) (x : Int) (x_1 : Int) (out : List T_i) (x_2 : List T_iiib) : Option (List T_i) := loopAt E ext 28 0 fu [true, true, false, true, false] [] fu1 (tabTm [3, 7, 8, 9] [.own 500, .own 501, .int .i64 x, .int .i64 x_1]) (tabOb [(500, some (.row .unk e_i out)), (501, some (.row .unk e_iiib x_2))])
def impl_Category (fu : Nat) (p : Int) : Option (Int) := evF E ext fu 63 [.int .i64 p] []
def laws_szRopeNode (fu : Nat) (a : ByteArray) (a_1 : Int) (a_2 : Int) (a_3 : Int) (a_4 : Int) (left : Int) : Option (Int) := evF E ext fu 64 [.agg [.str a, .int .i64 a_1, .int .i64 a_2, .int .i64 a_3, .int .i64 a_4], .int .i64 left] []
def laws_szMark (fu : Nat) (a : ByteArray) (a_1 : Int) (a_2 : Bool) (left : Int) : Option (Int) := evF E ext fu 65 [.agg [.str a, .int .i64 a_1, .bool a_2], .int .i64 left] []
def laws_toRopeNode (fu : Nat) (a : ByteArray) (a_1 : Int) (a_2 : Int) (a_3 : Int) (a_4 : Int) : Option (ByteArray × Int × Int × Int × Int) := evF E ext fu 69 [.agg [.str a, .int .i64 a_1, .int .i64 a_2, .int .i64 a_3, .int .i64 a_4]] []
def laws_toMark (fu : Nat) (a : ByteArray) (a_1 : Int) (a_2 : Bool) : Option (ByteArray × Int × Bool) := evF E ext fu 70 [.agg [.str a, .int .i64 a_1, .bool a_2]] []
def spec_l20Text_L3 (fu fu1 : Nat) (l : List T_siiii) (i : Int) (out : List T_y) : Option (ByteArray) := loopAt E ext 66 0 fu [true, true, false, true, false] [] fu1 (tabTm [0, 3, 4] [.ro e_siiii l, .own 500, .int .i64 i]) (tabOb [(500, some (.row (.is false) e_y out))])
def spec_l20Ends (fu : Nat) (t : ByteArray) : Option (Int) := evF E ext fu 96 [.str t] []
def spec_l20Cut (fu : Nat) (t : ByteArray) : Option (Int) := evF E ext fu 97 [.str t] []
def spec_l20Build'1 (fu : Nat) (t : ByteArray) (l : List T_siiii) : Option (List T_siiii × Unit) := evF E ext fu 67 [.own 0, .str t] [.row .unk e_siiii l]
def spec_RopeFault_L13 (fu fu1 : Nat) (t : ByteArray) (i : Int) (r : List T_siiii) (r_1 : List T_sib) : Option (Int) := loopAt E ext 34 0 fu [true, true, true, true, true, true, false, true, false] [] fu1 (tabTm [1, 3, 6] [.box 500 0, .str t, .int .i64 i]) (tabOb [(500, some (.box [.ro e_siiii r, .ro e_sib r_1]))])
def impl_ropeText_L3 (fu fu1 : Nat) (x : List T_siiii) (x_1 : Int) (x_2 : Int) (b : ByteArray) : Option (ByteArray) := loopAt E ext 71 0 fu [true, true, false, true, false] [] fu1 (tabTm [3, 7, 8, 9] [.box 500 0, .ro e_siiii x, .int .i64 x_1, .int .i64 x_2]) (tabOb [(500, some (.bld b))])
def impl_marksRight_L2 (fu fu1 : Nat) (l : List T_sib) (n : Int) (x : List T_sib) (x_1 : Int) (x_2 : Int) : Option (Bool) := loopAt E ext 72 0 fu [true, false, true, false] [] fu1 (tabTm [0, 1, 7, 8, 9] [.ro e_sib l, .int .i64 n, .ro e_sib x, .int .i64 x_1, .int .i64 x_2]) (tabOb [])
def impl_ropeTree (fu : Nat) (s : ByteArray) (out : List T_siiii) : Option (List T_siiii × Unit) := evF E ext fu 102 [.own 0, .str s] [.row (.is true) e_siiii out]
def slices_Equal_RopeNode_RopeNode_L4 (fu fu1 : Nat) (s1 : List T_siiii) (s2 : List T_siiii) (x : Int) (x_1 : Int) : Option (Bool) := loopAt E ext 73 0 fu [true, true, false, true, false] [] fu1 (tabTm [0, 1, 12, 13] [.ro e_siiii s1, .ro e_siiii s2, .int .i64 x, .int .i64 x_1]) (tabOb [])
def slices_stableCmpFunc_Mark_L2 (fu fu1 : Nat) (n : Int) (blockSize : Int) (a : Int) (b : Int) (data : List T_sib) : Option (Unit × List T_sib) := loopAt E ext 75 1 fu [true, true, false, false] [] fu1 (tabTm [0, 1, 2, 6, 7, 8] [.own 0, .int .i64 n, .fn 40 [] [], .int .i64 blockSize, .int .i64 a, .int .i64 b]) (tabOb [(0, some (.row .unk e_sib data))])
def laws_eqRopeNode (fu : Nat) (a : ByteArray) (a_1 : Int) (a_2 : Int) (a_3 : Int) (a_4 : Int) (b : ByteArray) (b_1 : Int) (b_2 : Int) (b_3 : Int) (b_4 : Int) : Option (Bool) := evF E ext fu 77 [.agg [.str a, .int .i64 a_1, .int .i64 a_2, .int .i64 a_3, .int .i64 a_4], .agg [.str b, .int .i64 b_1, .int .i64 b_2, .int .i64 b_3, .int .i64 b_4]] []
def laws_eqMark (fu : Nat) (a : ByteArray) (a_1 : Int) (a_2 : Bool) (b : ByteArray) (b_1 : Int) (b_2 : Bool) : Option (Bool) := evF E ext fu 78 [.agg [.str a, .int .i64 a_1, .bool a_2], .agg [.str b, .int .i64 b_1, .bool b_2]] []
def laws_markText (fu : Nat) (k : Int) : Option (ByteArray) := evF E ext fu 47 [.int .i64 k] []
def spec_l05Norm_L3 (fu fu1 : Nat) (form : Int) (points : List T_i) (i : Int) (out : List T_i) : Option (List T_i) := loopAt E ext 79 0 fu [true, true, false, true, false] [] fu1 (tabTm [0, 1, 5, 6] [.int .i64 form, .ro e_i points, .own 500, .int .i64 i]) (tabOb [(500, some (.row (.is false) e_i out))])
def spec_l19Seen (fu : Nat) (p : Int) : Option (List T_i) := evF E ext fu 80 [.int .i64 p] []
def impl_looks (fu : Nat) (p : Int) : Option (List T_i) := evF E ext fu 81 [.int .i64 p] []
def impl_skeleton_L3'1 (fu fu1 : Nat) (x : Int) (x_1 : Int) (l : List T_i) (x_2 : List T_i) : Option (ByteArray) := loopAt E ext 50 0 fu [true, true, false, true, false] [] fu1 (tabTm [3, 8, 9, 10] [.own 500, .own 501, .int .i64 x, .int .i64 x_1]) (tabOb [(500, some (.row .unk e_i l)), (501, some (.row .unk e_i x_2))])
def impl_normal'1 (fu : Nat) (form : Int) : Option (List T_i) := evF E ext fu 61 [.int .i64 form, .nil] []
def spec_l01Write (fu : Nat) (p : Int) : Option (ByteArray) := evF E ext fu 82 [.int .i64 p] []
def spec_l01Next_J16 (fu : Nat) (t : ByteArray) (at' : Int) (n : Int) (p : Int) : Option (Int × Int × Bool) := joinAt E ext 58 0 fu [true, true, true, true, true] [] (tabTm [0, 1, 8, 9] [.str t, .int .i64 at', .int .i64 n, .int .i64 p]) (tabOb [])
def spec_l01Known (fu : Nat) (p : Int) : Option (Int × Int) := evF E ext fu 84 [.int .i64 p] []
def impl_decompose (fu : Nat) (p : Int) (k : Bool) : Option (List T_i) := evF E ext fu 89 [.int .i64 p, .bool k] []
def impl_normal_L8 (fu fu1 : Nat) (form : Int) (i : Int) (out : List T_i) : Option (List T_i) := loopAt E ext 61 0 fu [true, true, true, false, true, false] [] fu1 (tabTm [0, 5, 8] [.int .i64 form, .own 500, .int .i64 i]) (tabOb [(500, some (.row .unk e_i out))])
def impl_isPoint (fu : Nat) (p : Int) : Option (Bool) := evF E ext fu 87 [.int .i64 p] []
def unicode_utf8_AppendRune (fu : Nat) (r : Int) (p : List T_y) : Option (List T_y × Unit) := evF E ext fu 88 [.own 0, .int .i32 r] [.row (.is true) e_y p]
def impl_write_L3'1 (fu fu1 : Nat) (x : List T_i) (x_1 : Int) (x_2 : Int) (b : List T_y) : Option (ByteArray) := loopAt E ext 60 0 fu [true, true, false, true, false] [] fu1 (tabTm [3, 6, 7, 8] [.own 500, .ro e_i x, .int .i64 x_1, .int .i64 x_2]) (tabOb [(500, some (.row .unk e_y b))])
def unicode_utf8_DecodeRuneInString (fu : Nat) (s : ByteArray) : Option (Int × Int) := evF E ext fu 94 [.str s] []
def impl_read_L3'1 (fu fu1 : Nat) (s : ByteArray) (i : Int) (out : List T_iiib) : Option (List T_iiib) := loopAt E ext 62 0 fu [true, true, false, true, false] [] fu1 (tabTm [0, 3, 4] [.str s, .own 500, .int .i64 i]) (tabOb [(500, some (.row .unk e_iiib out))])
def impl_kind (fu : Nat) (p : Int) : Option (Int × Int) := evF E ext fu 95 [.int .i64 p] []
def spec_l20Ends_L3 (fu fu1 : Nat) (t : ByteArray) (n : Int) (i : Int) : Option (Int) := loopAt E ext 96 0 fu [true, true, false, true, false] [] fu1 (tabTm [0, 3, 4] [.str t, .int .i64 n, .int .i64 i]) (tabOb [])
def spec_l20Cut_L4 (fu fu1 : Nat) (t : ByteArray) (most : Int) (at' : Int) (i : Int) : Option (Int) := loopAt E ext 97 0 fu [true, true, true, false, true, false] [] fu1 (tabTm [0, 3, 4, 5] [.str t, .int .i64 most, .int .i64 at', .int .i64 i]) (tabOb [])
def spec_l20Mark (fu : Nat) (m : ByteArray) (m_1 : Int) (m_2 : Bool) (size : Int) : Option (Bool) := evF E ext fu 68 [.agg [.str m, .int .i64 m_1, .bool m_2], .int .i64 size] []
def impl_isName (fu : Nat) (s : ByteArray) : Option (Bool) := evF E ext fu 101 [.str s] []
def strings_Count (fu : Nat) (s : ByteArray) (substr : ByteArray) : Option (Int) := evF E ext fu 123 [.str s, .str substr] []
def impl_ropeTree_L7 (fu fu1 : Nat) (s : ByteArray) (n : Int) (lines : Int) (cut : Int) (i : Int) (out : List T_siiii) : Option (List T_siiii × Unit) := loopAt E ext 102 1 fu [true, true, true, true, true, false, true, false] [] fu1 (tabTm [0, 1, 5, 6, 7, 8] [.own 0, .str s, .int .i64 n, .int .i64 lines, .int .i64 cut, .int .i64 i]) (tabOb [(0, some (.row (.is true) e_siiii out))])
def slices_insertionSortCmpFunc_Mark (fu : Nat) (a : Int) (b : Int) (data : List T_sib) : Option (Unit × List T_sib) := evF E ext fu 103 [.own 0, .int .i64 a, .int .i64 b, .fn 40 [] []] [.row .unk e_sib data]
def slices_stableCmpFunc_Mark_L7 (fu fu1 : Nat) (n : Int) (blockSize : Int) (data : List T_sib) : Option (Unit × List T_sib) := loopAt E ext 75 1 fu [true, true, true, true, false] [] fu1 (tabTm [0, 1, 2, 6] [.own 0, .int .i64 n, .fn 40 [] [], .int .i64 blockSize]) (tabOb [(0, some (.row .unk e_sib data))])
def laws_markText_L4 (fu fu1 : Nat) (k : Int) (out : ByteArray) : Option (ByteArray) := loopAt E ext 47 0 fu [true, true, true, false, false] [] fu1 (tabTm [0, 3] [.int .i64 k, .str out]) (tabOb [])
def spec_l05K (fu : Nat) (form : Int) : Option (Bool) := evF E ext fu 106 [.int .i64 form] []
def spec_l05All (fu : Nat) (p : Int) (wide : Bool) : Option (List T_i) := evF E ext fu 105 [.int .i64 p, .bool wide] []
def spec_l05Ordered (fu : Nat) (l : List T_i) : Option (List T_i) := evF E ext fu 107 [.ro e_i l] []
def spec_l05C (fu : Nat) (form : Int) : Option (Bool) := evF E ext fu 108 [.int .i64 form] []
def spec_l05Composed (fu : Nat) (l : List T_i) : Option (List T_i) := evF E ext fu 109 [.ro e_i l] []
def spec_l06Block (fu : Nat) (p : Int) : Option (Int) := evF E ext fu 110 [.int .i64 p] []
def spec_l05Wide (fu : Nat) (p : Int) : Option (List T_i) := evF E ext fu 111 [.int .i64 p] []
def spec_l19Seen_J5 (fu : Nat) (p : Int) (c : Int) (b : Int) (x : Bool) (wide : List T_i) : Option (List T_i) := joinAt E ext 80 0 fu [true, true, true, true, false, false, true] [] (tabTm [0, 3, 4, 5, 14] [.int .i64 p, .int .i64 c, .int .i64 b, .own 500, .bool x]) (tabOb [(500, some (.row .unk e_i wide))])
def impl_block (fu : Nat) (p : Int) : Option (Int × Int) := evF E ext fu 113 [.int .i64 p] []
def impl_systemOf (fu : Nat) (p : Int) : Option (Int × Int) := evF E ext fu 114 [.int .i64 p] []
def impl_looks_J5 (fu : Nat) (p : Int) (c : Int) (b : Int) (k : Int) (n : Int) (x : Bool) : Option (List T_i) := joinAt E ext 81 0 fu [true, true, true, true, false, false, true] [] (tabTm [0, 3, 4, 5, 7, 23] [.int .i64 p, .int .i64 c, .int .i64 b, .int .i64 k, .int .i64 n, .bool x]) (tabOb [])
def impl_normal_L3'1 (fu fu1 : Nat) (form : Int) (x : Int) (x_1 : Int) (out : List T_i) : Option (List T_i) := loopAt E ext 61 0 fu [true, true, false, true, false] [] fu1 (tabTm [0, 5, 18, 19, 20] [.int .i64 form, .own 500, .nil, .int .i64 x, .int .i64 x_1]) (tabOb [(500, some (.row .unk e_i out))])
def spec_l01IsPoint (fu : Nat) (p : Int) : Option (Bool) := evF E ext fu 85 [.int .i64 p] []
def spec_l01Write_J3 (fu : Nat) (p : Int) : Option (ByteArray) := joinAt E ext 82 0 fu [true, true] [] (tabTm [0] [.int .i64 p]) (tabOb [])
def spec_l01Next_L19 (fu fu1 : Nat) (t : ByteArray) (at' : Int) (n : Int) (p : Int) (i : Int) : Option (Int × Int × Bool) := loopAt E ext 58 0 fu [true, true, true, true, true, true, false, true, false] [] fu1 (tabTm [0, 1, 8, 9, 10] [.str t, .int .i64 at', .int .i64 n, .int .i64 p, .int .i64 i]) (tabOb [])
def spec_l01Cased (fu : Nat) : Option (List T_iiii) := evF E ext fu 116 [] []
def spec_l01Known_L4 (fu fu1 : Nat) (p : Int) (i : Int) (rows : List T_iiii) : Option (Int × Int) := loopAt E ext 84 0 fu [true, false, true, false, true, false, true, false] [] fu1 (tabTm [0, 4, 5] [.int .i64 p, .own 500, .int .i64 i]) (tabOb [(500, some (.row .unk e_iiii rows))])
def spec_l01Rows (fu : Nat) : Option (List T_iiii) := evF E ext fu 117 [] []
def spec_l01Known_L18 (fu fu1 : Nat) (p : Int) (i : Int) (rows : List T_iiii) : Option (Int × Int) := loopAt E ext 84 0 fu [true, true, true, true, false, true, false] [] fu1 (tabTm [0, 7, 8] [.int .i64 p, .own 500, .int .i64 i]) (tabOb [(500, some (.row .unk e_iiii rows))])
def impl_parts (fu : Nat) (p : Int) (k : Bool) : Option (List T_i × Bool) := evF E ext fu 115 [.int .i64 p, .bool k] []
def impl_decompose_L6 (fu fu1 : Nat) (k : Bool) (x : Int) (x_1 : Int) (out : List T_i) (Nil : Bool) (x_2 : List T_i) : Option (List T_i) := loopAt E ext 89 0 fu [true, true, true, true, false, true, false] [] fu1 (tabTm [1, 6, 16, 17, 18] [.bool k, .own 500, .own 501, .int .i64 x, .int .i64 x_1]) (tabOb [(500, some (.row .unk e_i out)), (501, some (.row (.is Nil) e_i x_2))])
def impl_normal_L10 (fu fu1 fu2 : Nat) (form : Int) (i : Int) (n : Int) (out : List T_i) : Option (List T_i) := loopAt E ext 61 0 fu [true, true, true, false, true, false, false, true, false, true, false, false] [fu1] fu2 (tabTm [0, 5, 8, 9] [.int .i64 form, .own 500, .int .i64 i, .int .i64 n]) (tabOb [(500, some (.row .unk e_i out))])
def impl_normal_L20 (fu fu1 : Nat) (starter : Int) (last : Int) (x : Int) (x_1 : Int) (c : List T_i) (x_2 : List T_i) : Option (List T_i) := loopAt E ext 61 0 fu [true, true, true, true, true, true, true, true, false, true, false] [] fu1 (tabTm [10, 11, 12, 66, 67, 68] [.own 500, .int .i64 starter, .int .i64 last, .own 501, .int .i64 x, .int .i64 x_1]) (tabOb [(500, some (.row .unk e_i c)), (501, some (.row .unk e_i x_2))])
def unicode_utf8_appendRuneNonASCII (fu : Nat) (r : Int) (p : List T_y) : Option (List T_y × Unit) := evF E ext fu 118 [.own 0, .int .i32 r] [.row (.is true) e_y p]
def unicode_utf8_AppendRune'1 (fu : Nat) (r : Int) (p : List T_y) : Option (List T_y × Unit) := evF E ext fu 88 [.own 0, .int .i32 r] [.row .unk e_y p]
def impl_kind_J14 (fu : Nat) (p : Int) (x : Bool) : Option (Int × Int) := joinAt E ext 95 0 fu [true, true, false, false, true] [] (tabTm [0, 44] [.int .i64 p, .bool x]) (tabOb [])
def spec_l17IsName (fu : Nat) (t : ByteArray) : Option (Bool) := evF E ext fu 98 [.str t] []
def impl_isName_L2 (fu fu1 : Nat) (s : ByteArray) (x : Int) (x_1 : Int) : Option (Bool) := loopAt E ext 101 0 fu [true, false, true, false] [] fu1 (tabTm [0, 6, 7] [.str s, .int .i64 x, .int .i64 x_1]) (tabOb [])
def unicode_utf8_RuneCountInString (fu : Nat) (s : ByteArray) : Option (Int) := evF E ext fu 133 [.str s] []
def internal_bytealg_CountString (fu : Nat) (x : ByteArray) (x_1 : Int) : Option (Int) := evF E ext fu 134 [.str x, .int .u8 x_1] []
def strings_Count_L6 (fu fu1 : Nat) (s : ByteArray) (substr : ByteArray) (n : Int) : Option (Int) := loopAt E ext 123 0 fu [true, true, true, true, false] [] fu1 (tabTm [0, 1, 5] [.str s, .str substr, .int .i64 n]) (tabOb [])
def impl_ropeTree'1 (fu : Nat) (s : ByteArray) (out : List T_siiii) : Option (List T_siiii × Unit) := evF E ext fu 102 [.own 0, .str s] [.row .unk e_siiii out]
def slices_insertionSortCmpFunc_Mark_L1 (fu fu1 : Nat) (a : Int) (b : Int) (i : Int) (data : List T_sib) : Option (Unit × List T_sib) := loopAt E ext 103 1 fu [true, false] [] fu1 (tabTm [0, 1, 2, 3, 8] [.own 0, .int .i64 a, .int .i64 b, .fn 40 [] [], .int .i64 i]) (tabOb [(0, some (.row .unk e_sib data))])
def slices_stableCmpFunc_Mark_L9 (fu fu1 fu2 : Nat) (n : Int) (blockSize : Int) (a : Int) (b : Int) (data : List T_sib) : Option (Unit × List T_sib) := loopAt E ext 75 1 fu [true, true, true, true, false, false, true, false, true, false, false] [fu1] fu2 (tabTm [0, 1, 2, 6, 7, 8] [.own 0, .int .i64 n, .fn 40 [] [], .int .i64 blockSize, .int .i64 a, .int .i64 b]) (tabOb [(0, some (.row .unk e_sib data))])
def spec_l05Parts (fu : Nat) (p : Int) (wide : Bool) : Option (List T_i) := evF E ext fu 125 [.int .i64 p, .bool wide] []
def spec_l05All_L6 (fu fu1 : Nat) (wide : Bool) (i : Int) (parts : List T_i) (out : List T_i) : Option (List T_i) := loopAt E ext 105 0 fu [true, true, true, true, false, true, false] [] fu1 (tabTm [1, 5, 6, 7] [.bool wide, .own 500, .own 501, .int .i64 i]) (tabOb [(500, some (.row .unk e_i parts)), (501, some (.row (.is false) e_i out))])
def spec_l05Ordered_L3 (fu fu1 : Nat) (i : Int) (out : List T_i) : Option (List T_i) := loopAt E ext 107 0 fu [true, true, false, true, false] [] fu1 (tabTm [3, 4] [.own 500, .int .i64 i]) (tabOb [(500, some (.row (.is false) e_i out))])
def spec_l05Composed_L4 (fu fu1 : Nat) (l : List T_i) (starter : Int) (i : Int) (out : List T_i) : Option (List T_i) := loopAt E ext 109 0 fu [true, true, true, false, true, false] [] fu1 (tabTm [0, 3, 4, 5] [.ro e_i l, .own 500, .int .i64 starter, .int .i64 i]) (tabOb [(500, some (.row (.is false) e_i out))])
def spec_l05Wide_J2 (fu : Nat) (p : Int) (x : Bool) : Option (List T_i) := joinAt E ext 111 0 fu [true, false, false, true] [] (tabTm [0, 4] [.int .i64 p, .bool x]) (tabOb [])
def spec_l19Seen_J7 (fu : Nat) (p : Int) (c : Int) (b : Int) (x : Bool) (wide : List T_i) : Option (List T_i) := joinAt E ext 80 0 fu [true, true, true, true, false, false, true, true, true] [] (tabTm [0, 3, 4, 5, 22] [.int .i64 p, .int .i64 c, .int .i64 b, .own 500, .bool x]) (tabOb [(500, some (.row .unk e_i wide))])
def impl_looks_J7 (fu : Nat) (p : Int) (c : Int) (b : Int) (k : Int) (n : Int) (x : Bool) : Option (List T_i) := joinAt E ext 81 0 fu [true, true, true, true, false, false, true, true, true] [] (tabTm [0, 3, 4, 5, 7, 30] [.int .i64 p, .int .i64 c, .int .i64 b, .int .i64 k, .int .i64 n, .bool x]) (tabOb [])
def impl_parts_J2 (fu : Nat) (p : Int) (k : Bool) (x : Bool) : Option (List T_i × Bool) := joinAt E ext 115 0 fu [true, false, false, true] [] (tabTm [0, 1, 8] [.int .i64 p, .bool k, .bool x]) (tabOb [])
def impl_MarkClass (fu : Nat) (p : Int) : Option (Int) := evF E ext fu 90 [.int .i64 p] []
def slices_SortStableFunc_Sint64_int64 (fu : Nat) (xLo : Int) (xHi : Int) (x : List T_i) : Option (Unit × List T_i) := evF E ext fu 91 [.sub 0 xLo xHi, .fn 92 [] []] [.row .unk e_i x]
def impl_Compose (fu : Nat) (a : Int) (b : Int) : Option (Int) := evF E ext fu 93 [.int .i64 a, .int .i64 b] []
def impl_normal_J29 (fu fu1 : Nat) (starter : Int) (p : Int) (k : Int) (x : Int) (x_1 : Int) (c : List T_i) (x_2 : List T_i) : Option (List T_i) := joinAt E ext 61 0 fu [true, true, true, true, true, true, true, true, false, true, false, false, true, true, false, false, true, true, true] [fu1] (tabTm [10, 11, 14, 15, 66, 67, 68] [.own 500, .int .i64 starter, .int .i64 p, .int .i64 k, .own 501, .int .i64 x, .int .i64 x_1]) (tabOb [(500, some (.row .unk e_i c)), (501, some (.row .unk e_i x_2))])
def unicode_utf8_appendRuneNonASCII_J7 (fu : Nat) (r : Int) (i : Int) (x : Bool) (p : List T_y) : Option (List T_y × Unit) := joinAt E ext 118 1 fu [true, true, false, true, true, true] [] (tabTm [0, 1, 5, 25] [.own 0, .int .i32 r, .int .u32 i, .bool x]) (tabOb [(0, some (.row (.is true) e_y p))])
def unicode_utf8_appendRuneNonASCII'1 (fu : Nat) (r : Int) (p : List T_y) : Option (List T_y × Unit) := evF E ext fu 118 [.own 0, .int .i32 r] [.row .unk e_y p]
def impl_kind_J16 (fu : Nat) (p : Int) (x : Bool) : Option (Int × Int) := joinAt E ext 95 0 fu [true, true, false, false, true, true, true] [] (tabTm [0, 51] [.int .i64 p, .bool x]) (tabOb [])
def spec_l17IsName_L4 (fu fu1 : Nat) (t : ByteArray) (i : Int) : Option (Bool) := loopAt E ext 98 0 fu [true, true, false, true, false] [] fu1 (tabTm [0, 3] [.str t, .int .i64 i]) (tabOb [])
def strings_Index (fu : Nat) (s : ByteArray) (substr : ByteArray) : Option (Int) := evF E ext fu 135 [.str s, .str substr] []
def impl_ropeTree_L7'1 (fu fu1 : Nat) (s : ByteArray) (n : Int) (lines : Int) (cut : Int) (i : Int) (out : List T_siiii) : Option (List T_siiii × Unit) := loopAt E ext 102 1 fu [true, true, true, true, true, false, true, false] [] fu1 (tabTm [0, 1, 5, 6, 7, 8] [.own 0, .str s, .int .i64 n, .int .i64 lines, .int .i64 cut, .int .i64 i]) (tabOb [(0, some (.row .unk e_siiii out))])
def slices_insertionSortCmpFunc_Mark_L4 (fu fu1 fu2 : Nat) (a : Int) (b : Int) (i : Int) (j : Int) (data : List T_sib) : Option (Unit × List T_sib) := loopAt E ext 103 1 fu [true, false, false, true, false, false, true, false] [fu1] fu2 (tabTm [0, 1, 2, 3, 8, 9] [.own 0, .int .i64 a, .int .i64 b, .fn 40 [] [], .int .i64 i, .int .i64 j]) (tabOb [(0, some (.row .unk e_sib data))])
def slices_symMergeCmpFunc_Mark (fu : Nat) (a : Int) (m : Int) (b : Int) (data : List T_sib) : Option (Unit × List T_sib) := evF E ext fu 104 [.own 0, .int .i64 a, .int .i64 m, .int .i64 b, .fn 40 [] []] [.row .unk e_sib data]
def spec_l05Parts_J3 (fu : Nat) (p : Int) (wide : Bool) (n : Int) (x : Bool) : Option (List T_i) := joinAt E ext 125 0 fu [true, true, false, false, true] [] (tabTm [0, 1, 5, 9] [.int .i64 p, .bool wide, .int .i64 n, .bool x]) (tabOb [])
def spec_l01Class (fu : Nat) (p : Int) : Option (Int) := evF E ext fu 126 [.int .i64 p] []
def spec_l05Ordered_L7 (fu fu1 fu2 : Nat) (i : Int) (k : Int) (out : List T_i) : Option (List T_i) := loopAt E ext 107 0 fu [true, true, false, true, false, false, true, false, false, true, true, false] [fu1] fu2 (tabTm [3, 4, 5] [.own 500, .int .i64 i, .int .i64 k]) (tabOb [(500, some (.row (.is false) e_i out))])
def spec_l05Composed_L10 (fu fu1 fu2 : Nat) (l : List T_i) (starter : Int) (i : Int) (c : Int) (class' : Int) (open' : Bool) (k : Int) (out : List T_i) : Option (List T_i) := loopAt E ext 109 0 fu [true, true, true, false, true, false, false, true, false, false, true, true, true, false, true, false] [fu1] fu2 (tabTm [0, 3, 4, 5, 6, 7, 8, 9] [.ro e_i l, .own 500, .int .i64 starter, .int .i64 i, .int .i64 c, .int .i64 class', .bool open', .int .i64 k]) (tabOb [(500, some (.row (.is false) e_i out))])
def spec_l19Seen_J9 (fu : Nat) (p : Int) (c : Int) (b : Int) (x : Bool) (wide : List T_i) : Option (List T_i) := joinAt E ext 80 0 fu [true, true, true, true, false, false, true, true, true, true, true] [] (tabTm [0, 3, 4, 5, 36] [.int .i64 p, .int .i64 c, .int .i64 b, .own 500, .bool x]) (tabOb [(500, some (.row .unk e_i wide))])
def impl_looks_J9 (fu : Nat) (p : Int) (c : Int) (b : Int) (k : Int) (n : Int) (x : Bool) : Option (List T_i) := joinAt E ext 81 0 fu [true, true, true, true, false, false, true, true, true, true, true] [] (tabTm [0, 3, 4, 5, 7, 40] [.int .i64 p, .int .i64 c, .int .i64 b, .int .i64 k, .int .i64 n, .bool x]) (tabOb [])
def impl_letter (fu : Nat) (i : Int) : Option (Int) := evF E ext fu 128 [.int .i64 i] []
def slices_stableCmpFunc_int64 (fu : Nat) (dataLo : Int) (dataHi : Int) (n : Int) (data : List T_i) : Option (Unit × List T_i) := evF E ext fu 119 [.sub 0 dataLo dataHi, .int .i64 n, .fn 92 [] []] [.row .unk e_i data]
def impl_Compose_J4 (fu : Nat) (a : Int) (b : Int) (i : Int) : Option (Int) := joinAt E ext 93 0 fu [true, true, true] [] (tabTm [0, 1, 5] [.int .i64 a, .int .i64 b, .int .i64 i]) (tabOb [])
def unicode_utf8_appendRuneNonASCII_J7'1 (fu : Nat) (r : Int) (i : Int) (x : Bool) (p : List T_y) : Option (List T_y × Unit) := joinAt E ext 118 1 fu [true, true, false, true, true, true] [] (tabTm [0, 1, 5, 25] [.own 0, .int .i32 r, .int .u32 i, .bool x]) (tabOb [(0, some (.row .unk e_y p))])
def impl_kind_J36 (fu : Nat) (p : Int) (x : Bool) : Option (Int × Int) := joinAt E ext 95 0 fu [true, true, false, false, true, true, true, true, true, true, true, true, true, true, true, true, true, true, true, true, true, true, true, true, true, true, true] [] (tabTm [0, 89] [.int .i64 p, .bool x]) (tabOb [])
def internal_stringslite_Index (fu : Nat) (s : ByteArray) (substr : ByteArray) : Option (Int) := evF E ext fu 140 [.str s, .str substr] []
def impl_MarksAt_1 (fu : Nat) (a : ByteArray) (a_1 : Int) (a_2 : Bool) (b : ByteArray) (b_1 : Int) (b_2 : Bool) : Option (Int) := evF E ext fu 40 [.agg [.str a, .int .i64 a_1, .bool a_2], .agg [.str b, .int .i64 b_1, .bool b_2]] []
def slices_symMergeCmpFunc_Mark_L3 (fu fu1 : Nat) (a : Int) (i : Int) (j : Int) (data : List T_sib) : Option (Unit × List T_sib) := loopAt E ext 104 1 fu [false, true, false, true, true, false, false] [] fu1 (tabTm [0, 1, 4, 10, 11] [.own 0, .int .i64 a, .fn 40 [] [], .int .i64 i, .int .i64 j]) (tabOb [(0, some (.row .unk e_sib data))])
def slices_symMergeCmpFunc_Mark_L15 (fu fu1 : Nat) (m : Int) (i : Int) (j : Int) (data : List T_sib) : Option (Unit × List T_sib) := loopAt E ext 104 1 fu [true, false, true, false, true, true, false, false] [] fu1 (tabTm [0, 2, 4, 14, 15] [.own 0, .int .i64 m, .fn 40 [] [], .int .i64 i, .int .i64 j]) (tabOb [(0, some (.row .unk e_sib data))])
def slices_symMergeCmpFunc_Mark_L33 (fu fu1 : Nat) (a : Int) (m : Int) (b : Int) (mid : Int) (n : Int) (start : Int) (r : Int) (p : Int) (data : List T_sib) : Option (Unit × List T_sib) := loopAt E ext 104 1 fu [true, true, true, true, true, true, true, false, false] [] fu1 (tabTm [0, 1, 2, 3, 4, 18, 19, 20, 21, 22] [.own 0, .int .i64 a, .int .i64 m, .int .i64 b, .fn 40 [] [], .int .i64 mid, .int .i64 n, .int .i64 start, .int .i64 r, .int .i64 p]) (tabOb [(0, some (.row .unk e_sib data))])
def spec_l05Letter (fu : Nat) (i : Int) : Option (Int) := evF E ext fu 137 [.int .i64 i] []
def spec_l05Parts_J10 (fu : Nat) (p : Int) (wide : Bool) (x : Bool) : Option (List T_i) := joinAt E ext 125 0 fu [true, true, false, false, true, true, true] [] (tabTm [0, 1, 43] [.int .i64 p, .bool wide, .bool x]) (tabOb [])
def spec_l05Pair (fu : Nat) (a : Int) (b : Int) : Option (Int) := evF E ext fu 127 [.int .i64 a, .int .i64 b] []
def spec_l05Composed_J17 (fu fu1 : Nat) (l : List T_i) (starter : Int) (i : Int) (c : Int) (class' : Int) (out : List T_i) : Option (List T_i) := joinAt E ext 109 0 fu [true, true, true, false, true, false, false, true, false, false, true, true, true, true, true] [fu1] (tabTm [0, 3, 4, 5, 6, 7] [.ro e_i l, .own 500, .int .i64 starter, .int .i64 i, .int .i64 c, .int .i64 class']) (tabOb [(500, some (.row (.is false) e_i out))])
def spec_l19Seen_J11 (fu : Nat) (p : Int) (c : Int) (x : Bool) (wide : List T_i) : Option (List T_i) := joinAt E ext 80 0 fu [true, true, true, true, false, false, true, true, true, true, true, true, true] [] (tabTm [0, 3, 5, 57] [.int .i64 p, .int .i64 c, .own 500, .bool x]) (tabOb [(500, some (.row .unk e_i wide))])
def impl_looks_J11 (fu : Nat) (p : Int) (c : Int) (n : Int) (x : Bool) : Option (List T_i) := joinAt E ext 81 0 fu [true, true, true, true, false, false, true, true, true, true, true, true, true] [] (tabTm [0, 3, 7, 51] [.int .i64 p, .int .i64 c, .int .i64 n, .bool x]) (tabOb [])
def slices_stableCmpFunc_int64_L2 (fu fu1 : Nat) (dataLo : Int) (dataHi : Int) (n : Int) (blockSize : Int) (a : Int) (b : Int) (data : List T_i) : Option (Unit × List T_i) := loopAt E ext 119 1 fu [true, true, false, false] [] fu1 (tabTm [0, 1, 2, 6, 7, 8] [.sub 0 dataLo dataHi, .int .i64 n, .fn 92 [] [], .int .i64 blockSize, .int .i64 a, .int .i64 b]) (tabOb [(0, some (.row .unk e_i data))])
def impl_Compose_J6 (fu : Nat) (a : Int) (b : Int) (i : Int) : Option (Int) := joinAt E ext 93 0 fu [true, true, true, true] [] (tabTm [0, 1, 5] [.int .i64 a, .int .i64 b, .int .i64 i]) (tabOb [])
def impl_kind_J40 (fu : Nat) (p : Int) (x : Bool) : Option (Int × Int) := joinAt E ext 95 0 fu [true, true, false, false, true, true, true, true, true, true, true, true, true, true, true, true, true, true, true, true, true, true, true, true, true, true, true, true, true, true, true] [] (tabTm [0, 103] [.int .i64 p, .bool x]) (tabOb [])
def internal_stringslite_IndexByte (fu : Nat) (s : ByteArray) (c : Int) : Option (Int) := evF E ext fu 142 [.str s, .int .u8 c] []
def cmp_Compare_int64 (fu : Nat) (x : Int) (y : Int) : Option (Int) := evF E ext fu 41 [.int .i64 x, .int .i64 y] []
def slices_symMergeCmpFunc_Mark_L9 (fu fu1 : Nat) (i : Int) (k : Int) (data : List T_sib) : Option (Unit × List T_sib) := loopAt E ext 104 1 fu [false, true, false, true, true, true, false, true, false] [] fu1 (tabTm [0, 10, 13] [.own 0, .int .i64 i, .int .i64 k]) (tabOb [(0, some (.row .unk e_sib data))])
def slices_symMergeCmpFunc_Mark_L21 (fu fu1 : Nat) (i : Int) (k : Int) (data : List T_sib) : Option (Unit × List T_sib) := loopAt E ext 104 1 fu [true, false, true, false, true, true, true, false, true, false] [] fu1 (tabTm [0, 14, 17] [.own 0, .int .i64 i, .int .i64 k]) (tabOb [(0, some (.row .unk e_sib data))])
def slices_rotateCmpFunc_Mark (fu : Nat) (a : Int) (m : Int) (b : Int) (data : List T_sib) : Option (Unit × List T_sib) := evF E ext fu 124 [.own 0, .int .i64 a, .int .i64 m, .int .i64 b, .fn 40 [] []] [.row .unk e_sib data]
def slices_symMergeCmpFunc_Mark_J41 (fu : Nat) (a : Int) (b : Int) (mid : Int) (start : Int) (end' : Int) (data : List T_sib) : Option (Unit × List T_sib) := joinAt E ext 104 1 fu [true, true, true, true, true, true, true, true, true, true] [] (tabTm [0, 1, 3, 4, 18, 20, 24] [.own 0, .int .i64 a, .int .i64 b, .fn 40 [] [], .int .i64 mid, .int .i64 start, .int .i64 end']) (tabOb [(0, some (.row .unk e_sib data))])
def spec_l05LetterAt (fu : Nat) (p : Int) : Option (Int) := evF E ext fu 138 [.int .i64 p] []
def spec_l05Pair_J3 (fu : Nat) (a : Int) (b : Int) (i : Int) (x : Bool) : Option (Int) := joinAt E ext 127 0 fu [true, true, false, false, true] [] (tabTm [0, 1, 5, 8] [.int .i64 a, .int .i64 b, .int .i64 i, .bool x]) (tabOb [])
def spec_DigitOf (fu : Nat) (p : Int) : Option (Int) := evF E ext fu 112 [.int .i64 p] []
def spec_l19Seen_J13 (fu : Nat) (p : Int) (c : Int) (x : Bool) (wide : List T_i) : Option (List T_i) := joinAt E ext 80 0 fu [true, true, true, true, false, false, true, true, true, true, true, true, true, true, true] [] (tabTm [0, 3, 5, 67] [.int .i64 p, .int .i64 c, .own 500, .bool x]) (tabOb [(500, some (.row .unk e_i wide))])
def impl_looks_L25 (fu fu1 : Nat) (x : Int) (x_1 : Int) (Nil : Bool) (x_2 : List T_i) : Option (List T_i) := loopAt E ext 81 0 fu [true, true, true, true, false, false, true, true, true, true, true, true, true, true, true, true, true, true, true, true, true, true, true, true, true, false, true, false, true, false] [] fu1 (tabTm [8, 93, 94, 95] [.nil, .own 500, .int .i64 x, .int .i64 x_1]) (tabOb [(500, some (.row (.is Nil) e_i x_2))])
def impl_looks_J32 (fu : Nat) (p : Int) : Option (List T_i) := joinAt E ext 81 0 fu [true, true, true, true, true] [] (tabTm [0] [.int .i64 p]) (tabOb [])
def slices_insertionSortCmpFunc_int64 (fu : Nat) (dataLo : Int) (dataHi : Int) (a : Int) (b : Int) (data : List T_i) : Option (Unit × List T_i) := evF E ext fu 129 [.sub 0 dataLo dataHi, .int .i64 a, .int .i64 b, .fn 92 [] []] [.row .unk e_i data]
def slices_stableCmpFunc_int64_L7 (fu fu1 : Nat) (dataLo : Int) (dataHi : Int) (n : Int) (blockSize : Int) (data : List T_i) : Option (Unit × List T_i) := loopAt E ext 119 1 fu [true, true, true, true, false] [] fu1 (tabTm [0, 1, 2, 6] [.sub 0 dataLo dataHi, .int .i64 n, .fn 92 [] [], .int .i64 blockSize]) (tabOb [(0, some (.row .unk e_i data))])
def impl_Compose_J7 (fu : Nat) (a : Int) (b : Int) (i : Int) (x : Bool) : Option (Int) := joinAt E ext 93 0 fu [true, true, true, true, false, false, true] [] (tabTm [0, 1, 5, 15] [.int .i64 a, .int .i64 b, .int .i64 i, .bool x]) (tabOb [])
def impl_kind_J46 (fu : Nat) (p : Int) (x : Bool) : Option (Int × Int) := joinAt E ext 95 0 fu [true, true, false, false, true, true, true, true, true, true, true, true, true, true, true, true, true, true, true, true, true, true, true, true, true, true, true, true, true, true, true, true, true, true, true, true, true] [] (tabTm [0, 124] [.int .i64 p, .bool x]) (tabOb [])
def internal_bytealg_IndexByteString (fu : Nat) (x : ByteArray) (x_1 : Int) : Option (Int) := evF E ext fu 146 [.str x, .int .u8 x_1] []
def cmp_isNaN_int64 (fu : Nat) (x : Int) : Option (Bool) := evF E ext fu 76 [.int .i64 x] []
def slices_rotateCmpFunc_Mark_L2 (fu fu1 : Nat) (m : Int) (i : Int) (j : Int) (data : List T_sib) : Option (Unit × List T_sib) := loopAt E ext 124 1 fu [true, true, false, false] [] fu1 (tabTm [0, 2, 4, 10, 11] [.own 0, .int .i64 m, .fn 40 [] [], .int .i64 i, .int .i64 j]) (tabOb [(0, some (.row .unk e_sib data))])
def slices_symMergeCmpFunc_Mark_J43 (fu : Nat) (b : Int) (mid : Int) (end' : Int) (data : List T_sib) : Option (Unit × List T_sib) := joinAt E ext 104 1 fu [true, true, true, true, true, true, true, true, true, true, true] [] (tabTm [0, 3, 4, 18, 24] [.own 0, .int .i64 b, .fn 40 [] [], .int .i64 mid, .int .i64 end']) (tabOb [(0, some (.row .unk e_sib data))])
def spec_l05Pair_J5 (fu : Nat) (a : Int) (b : Int) (i : Int) (x : Bool) : Option (Int) := joinAt E ext 127 0 fu [true, true, false, false, true, true, true] [] (tabTm [0, 1, 5, 25] [.int .i64 a, .int .i64 b, .int .i64 i, .bool x]) (tabOb [])
def spec_l19Seen_J15 (fu : Nat) (p : Int) (c : Int) (x : Bool) (wide : List T_i) : Option (List T_i) := joinAt E ext 80 0 fu [true, true, true, true, false, false, true, true, true, true, true, true, true, true, true, true, true] [] (tabTm [0, 3, 5, 80] [.int .i64 p, .int .i64 c, .own 500, .bool x]) (tabOb [(500, some (.row .unk e_i wide))])
def impl_looks_L25'1 (fu fu1 : Nat) (x : Int) (x_1 : Int) (out : List T_i) (Nil : Bool) (x_2 : List T_i) : Option (List T_i) := loopAt E ext 81 0 fu [true, true, true, true, false, false, true, true, true, true, true, true, true, true, true, true, true, true, true, true, true, true, true, true, true, false, true, false, true, false] [] fu1 (tabTm [8, 93, 94, 95] [.own 500, .own 501, .int .i64 x, .int .i64 x_1]) (tabOb [(500, some (.row .unk e_i out)), (501, some (.row (.is Nil) e_i x_2))])
def slices_insertionSortCmpFunc_int64_L1 (fu fu1 : Nat) (dataLo : Int) (dataHi : Int) (a : Int) (b : Int) (i : Int) (data : List T_i) : Option (Unit × List T_i) := loopAt E ext 129 1 fu [true, false] [] fu1 (tabTm [0, 1, 2, 3, 8] [.sub 0 dataLo dataHi, .int .i64 a, .int .i64 b, .fn 92 [] [], .int .i64 i]) (tabOb [(0, some (.row .unk e_i data))])
def slices_stableCmpFunc_int64_L9 (fu fu1 fu2 : Nat) (dataLo : Int) (dataHi : Int) (n : Int) (blockSize : Int) (a : Int) (b : Int) (data : List T_i) : Option (Unit × List T_i) := loopAt E ext 119 1 fu [true, true, true, true, false, false, true, false, true, false, false] [fu1] fu2 (tabTm [0, 1, 2, 6, 7, 8] [.sub 0 dataLo dataHi, .int .i64 n, .fn 92 [] [], .int .i64 blockSize, .int .i64 a, .int .i64 b]) (tabOb [(0, some (.row .unk e_i data))])
def impl_Compose_J9 (fu : Nat) (a : Int) (b : Int) (i : Int) (x : Bool) : Option (Int) := joinAt E ext 93 0 fu [true, true, true, true, false, false, true, true, true] [] (tabTm [0, 1, 5, 28] [.int .i64 a, .int .i64 b, .int .i64 i, .bool x]) (tabOb [])
def impl_kind_J48 (fu : Nat) (p : Int) (x : Bool) : Option (Int × Int) := joinAt E ext 95 0 fu [true, true, false, false, true, true, true, true, true, true, true, true, true, true, true, true, true, true, true, true, true, true, true, true, true, true, true, true, true, true, true, true, true, true, true, true, true, true, true] [] (tabTm [0, 131] [.int .i64 p, .bool x]) (tabOb [])
def slices_swapRangeCmpFunc_Mark (fu : Nat) (a : Int) (b : Int) (n : Int) (data : List T_sib) : Option (Unit × List T_sib) := evF E ext fu 136 [.own 0, .int .i64 a, .int .i64 b, .int .i64 n, .fn 40 [] []] [.row .unk e_sib data]
def spec_l05Pair_J7 (fu : Nat) (a : Int) (b : Int) (x : Bool) : Option (Int) := joinAt E ext 127 0 fu [true, true, false, false, true, true, true, true, true] [] (tabTm [0, 1, 42] [.int .i64 a, .int .i64 b, .bool x]) (tabOb [])
def spec_l19Seen_L23 (fu fu1 : Nat) (i : Int) (wide : List T_i) (out : List T_i) : Option (List T_i) := loopAt E ext 80 0 fu [true, true, true, true, false, false, true, true, true, true, true, true, true, true, true, true, true, true, true, true, true, true, true, false, true, false, true, false] [] fu1 (tabTm [5, 6, 7] [.own 500, .own 501, .int .i64 i]) (tabOb [(500, some (.row .unk e_i wide)), (501, some (.row (.is false) e_i out))])
def spec_l19Seen_J27 (fu : Nat) (p : Int) : Option (List T_i) := joinAt E ext 80 0 fu [true, true, true, true, true] [] (tabTm [0] [.int .i64 p]) (tabOb [])
def slices_insertionSortCmpFunc_int64_L4 (fu fu1 fu2 : Nat) (dataLo : Int) (dataHi : Int) (a : Int) (b : Int) (i : Int) (j : Int) (data : List T_i) : Option (Unit × List T_i) := loopAt E ext 129 1 fu [true, false, false, true, false, false, true, false] [fu1] fu2 (tabTm [0, 1, 2, 3, 8, 9] [.sub 0 dataLo dataHi, .int .i64 a, .int .i64 b, .fn 92 [] [], .int .i64 i, .int .i64 j]) (tabOb [(0, some (.row .unk e_i data))])
def slices_symMergeCmpFunc_int64 (fu : Nat) (dataLo : Int) (dataHi : Int) (a : Int) (m : Int) (b : Int) (data : List T_i) : Option (Unit × List T_i) := evF E ext fu 130 [.sub 0 dataLo dataHi, .int .i64 a, .int .i64 m, .int .i64 b, .fn 92 [] []] [.row .unk e_i data]
def impl_isOpen (fu : Nat) (p : Int) : Option (Bool) := evF E ext fu 120 [.int .i64 p] []
def impl_kind_J61 (fu : Nat) : Option (Int × Int) := joinAt E ext 95 0 fu [true, true, true] [] (tabTm [] []) (tabOb [])
def slices_swapRangeCmpFunc_Mark_L1 (fu fu1 : Nat) (a : Int) (b : Int) (n : Int) (i : Int) (data : List T_sib) : Option (Unit × List T_sib) := loopAt E ext 136 1 fu [true, false] [] fu1 (tabTm [0, 1, 2, 3, 10] [.own 0, .int .i64 a, .int .i64 b, .int .i64 n, .int .i64 i]) (tabOb [(0, some (.row .unk e_sib data))])
def spec_l05Pair_J9 (fu : Nat) (a : Int) (b : Int) (x : Bool) : Option (Int) := joinAt E ext 127 0 fu [true, true, false, false, true, true, true, true, true, true, true] [] (tabTm [0, 1, 55] [.int .i64 a, .int .i64 b, .bool x]) (tabOb [])
def impl_normal_1 (fu : Nat) (a : Int) (b : Int) : Option (Int) := evF E ext fu 92 [.int .i64 a, .int .i64 b] []
def slices_symMergeCmpFunc_int64_L3 (fu fu1 : Nat) (dataLo : Int) (dataHi : Int) (a : Int) (i : Int) (j : Int) (data : List T_i) : Option (Unit × List T_i) := loopAt E ext 130 1 fu [false, true, false, true, true, false, false] [] fu1 (tabTm [0, 1, 4, 10, 11] [.sub 0 dataLo dataHi, .int .i64 a, .fn 92 [] [], .int .i64 i, .int .i64 j]) (tabOb [(0, some (.row .unk e_i data))])
def slices_symMergeCmpFunc_int64_L15 (fu fu1 : Nat) (dataLo : Int) (dataHi : Int) (m : Int) (i : Int) (j : Int) (data : List T_i) : Option (Unit × List T_i) := loopAt E ext 130 1 fu [true, false, true, false, true, true, false, false] [] fu1 (tabTm [0, 2, 4, 14, 15] [.sub 0 dataLo dataHi, .int .i64 m, .fn 92 [] [], .int .i64 i, .int .i64 j]) (tabOb [(0, some (.row .unk e_i data))])
def slices_symMergeCmpFunc_int64_L33 (fu fu1 : Nat) (dataLo : Int) (dataHi : Int) (a : Int) (m : Int) (b : Int) (mid : Int) (n : Int) (start : Int) (r : Int) (p : Int) (data : List T_i) : Option (Unit × List T_i) := loopAt E ext 130 1 fu [true, true, true, true, true, true, true, false, false] [] fu1 (tabTm [0, 1, 2, 3, 4, 18, 19, 20, 21, 22] [.sub 0 dataLo dataHi, .int .i64 a, .int .i64 m, .int .i64 b, .fn 92 [] [], .int .i64 mid, .int .i64 n, .int .i64 start, .int .i64 r, .int .i64 p]) (tabOb [(0, some (.row .unk e_i data))])
def impl_isSyllable (fu : Nat) (p : Int) : Option (Bool) := evF E ext fu 131 [.int .i64 p] []
def spec_l05Pair_J12 (fu : Nat) : Option (Int) := joinAt E ext 127 0 fu [true, true, true] [] (tabTm [] []) (tabOb [])
def slices_symMergeCmpFunc_int64_L9 (fu fu1 : Nat) (dataLo : Int) (dataHi : Int) (i : Int) (k : Int) (data : List T_i) : Option (Unit × List T_i) := loopAt E ext 130 1 fu [false, true, false, true, true, true, false, true, false] [] fu1 (tabTm [0, 10, 13] [.sub 0 dataLo dataHi, .int .i64 i, .int .i64 k]) (tabOb [(0, some (.row .unk e_i data))])
def slices_symMergeCmpFunc_int64_L21 (fu fu1 : Nat) (dataLo : Int) (dataHi : Int) (i : Int) (k : Int) (data : List T_i) : Option (Unit × List T_i) := loopAt E ext 130 1 fu [true, false, true, false, true, true, true, false, true, false] [] fu1 (tabTm [0, 14, 17] [.sub 0 dataLo dataHi, .int .i64 i, .int .i64 k]) (tabOb [(0, some (.row .unk e_i data))])
def slices_rotateCmpFunc_int64 (fu : Nat) (dataLo : Int) (dataHi : Int) (a : Int) (m : Int) (b : Int) (data : List T_i) : Option (Unit × List T_i) := evF E ext fu 139 [.sub 0 dataLo dataHi, .int .i64 a, .int .i64 m, .int .i64 b, .fn 92 [] []] [.row .unk e_i data]
def slices_symMergeCmpFunc_int64_J41 (fu : Nat) (dataLo : Int) (dataHi : Int) (a : Int) (b : Int) (mid : Int) (start : Int) (end' : Int) (data : List T_i) : Option (Unit × List T_i) := joinAt E ext 130 1 fu [true, true, true, true, true, true, true, true, true, true] [] (tabTm [0, 1, 3, 4, 18, 20, 24] [.sub 0 dataLo dataHi, .int .i64 a, .int .i64 b, .fn 92 [] [], .int .i64 mid, .int .i64 start, .int .i64 end']) (tabOb [(0, some (.row .unk e_i data))])
def slices_rotateCmpFunc_int64_L2 (fu fu1 : Nat) (dataLo : Int) (dataHi : Int) (m : Int) (i : Int) (j : Int) (data : List T_i) : Option (Unit × List T_i) := loopAt E ext 139 1 fu [true, true, false, false] [] fu1 (tabTm [0, 2, 4, 10, 11] [.sub 0 dataLo dataHi, .int .i64 m, .fn 92 [] [], .int .i64 i, .int .i64 j]) (tabOb [(0, some (.row .unk e_i data))])
def slices_symMergeCmpFunc_int64_J43 (fu : Nat) (dataLo : Int) (dataHi : Int) (b : Int) (mid : Int) (end' : Int) (data : List T_i) : Option (Unit × List T_i) := joinAt E ext 130 1 fu [true, true, true, true, true, true, true, true, true, true, true] [] (tabTm [0, 3, 4, 18, 24] [.sub 0 dataLo dataHi, .int .i64 b, .fn 92 [] [], .int .i64 mid, .int .i64 end']) (tabOb [(0, some (.row .unk e_i data))])
def slices_swapRangeCmpFunc_int64 (fu : Nat) (dataLo : Int) (dataHi : Int) (a : Int) (b : Int) (n : Int) (data : List T_i) : Option (Unit × List T_i) := evF E ext fu 141 [.sub 0 dataLo dataHi, .int .i64 a, .int .i64 b, .int .i64 n, .fn 92 [] []] [.row .unk e_i data]
def slices_swapRangeCmpFunc_int64_L1 (fu fu1 : Nat) (dataLo : Int) (dataHi : Int) (a : Int) (b : Int) (n : Int) (i : Int) (data : List T_i) : Option (Unit × List T_i) := loopAt E ext 141 1 fu [true, false] [] fu1 (tabTm [0, 1, 2, 3, 10] [.sub 0 dataLo dataHi, .int .i64 a, .int .i64 b, .int .i64 n, .int .i64 i]) (tabOb [(0, some (.row .unk e_i data))])
end
end Go.Proofs.YtmmmlfndnoeedaaDoor.NM
