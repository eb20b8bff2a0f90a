/- The functions that the law reaches, as the evaluator reads them: table and names. -/
import Derived.Test.YtmmmlfndnoeedaaDoorProg
import Derived.Test.YtmmmlfndnoeedaaDoorEG
namespace Go.Proofs.YtmmmlfndnoeedaaDoor.IX
open Go.Eng
set_option linter.unusedVariables false
set_option maxRecDepth 100000
noncomputable section
@[reducible] def glbA (v : Value) : Glb := Glb.utf8A 0 1 113 5 v
def e_i : CTs := (.one (.int .i64))
abbrev T_i : Type := Int
noncomputable def z_i : T_i := (0 : Int)
def e_y : CTs := (.one (.int .u8))
abbrev T_y : Type := Int
noncomputable def z_y : T_y := (0 : Int)
def e_RiQ : CTs := (.one (.row e_i))
abbrev T_RiQ : Type := List T_i
noncomputable def z_RiQ : T_RiQ := ([] : List T_i)
def e_iiib : CTs := (.cons (.int .i64) (.cons (.int .i64) (.cons (.int .i64) (.one .bool))))
abbrev T_iiib : Type := Int × Int × Int × Bool
noncomputable def z_iiib : T_iiib := ((0 : Int), (0 : Int), (0 : Int), false)
def e_iiii : CTs := (.cons (.int .i64) (.cons (.int .i64) (.cons (.int .i64) (.one (.int .i64)))))
abbrev T_iiii : Type := Int × Int × Int × Int
noncomputable def z_iiii : T_iiii := ((0 : Int), (0 : Int), (0 : Int), (0 : Int))
def sigT : List (Nat × Sig) := [(5, ⟨.bool, []⟩),
  (6, ⟨.bool, []⟩),
  (18, ⟨.bool, []⟩),
  (19, ⟨.bool, []⟩),
  (20, ⟨.str, []⟩),
  (21, ⟨.str, []⟩),
  (24, ⟨.own e_i, []⟩),
  (25, ⟨.bool, []⟩),
  (28, ⟨.own e_i, []⟩),
  (42, ⟨.bool, []⟩),
  (48, ⟨.bool, []⟩),
  (49, ⟨.own e_i, []⟩),
  (50, ⟨.str, []⟩),
  (51, ⟨.str, []⟩),
  (52, ⟨.str, []⟩),
  (53, ⟨.str, []⟩),
  (57, ⟨.int .i64, []⟩),
  (58, ⟨.tup (.cons (.int .i64) (.cons (.int .i64) (.one .bool))), []⟩),
  (60, ⟨.str, []⟩),
  (61, ⟨.own e_i, []⟩),
  (62, ⟨.own e_iiib, []⟩),
  (63, ⟨.int .i64, []⟩),
  (79, ⟨.own e_i, []⟩),
  (80, ⟨.own e_i, []⟩),
  (81, ⟨.own e_i, []⟩),
  (82, ⟨.str, []⟩),
  (84, ⟨.tup (.cons (.int .i64) (.one (.int .i64))), []⟩),
  (85, ⟨.bool, []⟩),
  (87, ⟨.bool, []⟩),
  (88, ⟨.own e_y, [.dead]⟩),
  (89, ⟨.own e_i, []⟩),
  (90, ⟨.int .i64, []⟩),
  (91, ⟨.tup .nil, [.row e_i]⟩),
  (92, ⟨.int .i64, []⟩),
  (93, ⟨.int .i64, []⟩),
  (94, ⟨.tup (.cons (.int .i32) (.one (.int .i64))), []⟩),
  (95, ⟨.tup (.cons (.int .i64) (.one (.int .i64))), []⟩),
  (105, ⟨.own e_i, []⟩),
  (106, ⟨.bool, []⟩),
  (107, ⟨.own e_i, []⟩),
  (108, ⟨.bool, []⟩),
  (109, ⟨.own e_i, []⟩),
  (110, ⟨.int .i64, []⟩),
  (111, ⟨.own e_i, []⟩),
  (112, ⟨.int .i64, []⟩),
  (113, ⟨.tup (.cons (.int .i64) (.one (.int .i64))), []⟩),
  (114, ⟨.tup (.cons (.int .i64) (.one (.int .i64))), []⟩),
  (115, ⟨.ownF e_i, []⟩),
  (116, ⟨.own e_iiii, []⟩),
  (117, ⟨.own e_iiii, []⟩),
  (118, ⟨.own e_y, [.dead]⟩),
  (119, ⟨.tup .nil, [.row e_i]⟩),
  (120, ⟨.bool, []⟩),
  (125, ⟨.own e_i, []⟩),
  (126, ⟨.int .i64, []⟩),
  (127, ⟨.int .i64, []⟩),
  (128, ⟨.int .i64, []⟩),
  (129, ⟨.tup .nil, [.row e_i]⟩),
  (130, ⟨.tup .nil, [.row e_i]⟩),
  (131, ⟨.bool, []⟩),
  (137, ⟨.int .i64, []⟩),
  (138, ⟨.int .i64, []⟩),
  (139, ⟨.tup .nil, [.row e_i]⟩),
  (141, ⟨.tup .nil, [.row e_i]⟩)]
def lendT : List (Nat × List Bool) := [(88, [true, false]), (91, [true, false]), (118, [true, false]), (119, [true, false, false]), (129, [true, false, false, false]), (130, [true, false, false, false, false]), (139, [true, false, false, false, false]), (141, [true, false, false, false, false])]
def loopT : List (Nat × List (Nat × Hint)) := [(24, [(3, { live := [0, 3, 4] })]),
  (28, [(3, { live := [3, 7, 8, 9], mat := [(3, e_i)] })]),
  (48, [(4, { live := [0, 1, 5] })]),
  (49, [(4, { live := [3, 4, 5] })]),
  (50, [(3, { live := [3, 8, 9, 10], mat := [(3, e_i)] })]),
  (52, [(3, { live := [0, 3, 4] })]),
  (58, [(19, { live := [0, 1, 8, 9, 10] })]),
  (60, [(3, { live := [3, 6, 7, 8], mat := [(3, e_y)] })]),
  (61, [(3, { live := [0, 5, 18, 19, 20], mat := [(5, e_i)] }), (8, { live := [0, 5, 8] }), (10, { live := [0, 5, 8, 9] }), (20, { live := [10, 11, 12, 66, 67, 68], mat := [(10, e_i)] })]),
  (62, [(3, { live := [0, 3, 4] })]),
  (79, [(3, { live := [0, 1, 5, 6] })]),
  (80, [(23, { live := [5, 6, 7] })]),
  (81, [(25, { live := [8, 93, 94, 95], mat := [(8, e_i)] })]),
  (84, [(4, { live := [0, 4, 5] }), (18, { live := [0, 7, 8] })]),
  (89, [(6, { live := [1, 6, 16, 17, 18], mat := [(6, e_i)] })]),
  (105, [(6, { live := [1, 5, 6, 7] })]),
  (107, [(3, { live := [3, 4] }), (7, { live := [3, 4, 5] })]),
  (109, [(4, { live := [0, 3, 4, 5] }), (10, { live := [0, 3, 4, 5, 6, 7, 8, 9] })]),
  (114, [(2, { live := [0, 6, 7, 8] })]),
  (119, [(2, { live := [0, 1, 2, 6, 7, 8] }), (7, { live := [0, 1, 2, 6] }), (9, { live := [0, 1, 2, 6, 7, 8] })]),
  (129, [(1, { live := [0, 1, 2, 3, 8] }), (4, { live := [0, 1, 2, 3, 8, 9] })]),
  (130, [(3, { live := [0, 1, 4, 10, 11] }), (9, { live := [0, 10, 13] }), (15, { live := [0, 2, 4, 14, 15] }), (21, { live := [0, 14, 17] }), (33, { live := [0, 1, 2, 3, 4, 18, 19, 20, 21, 22] })]),
  (139, [(2, { live := [0, 2, 4, 10, 11] })]),
  (141, [(1, { live := [0, 1, 2, 3, 10] })])]
def joinT : List (Nat × List (Nat × Hint)) := [(58, [(16, { live := [0, 1, 8, 9] })]),
  (61, [(29, { live := [10, 11, 14, 15, 66, 67, 68] })]),
  (80, [(5, { live := [0, 3, 4, 5, 14] }), (7, { live := [0, 3, 4, 5, 22] }), (9, { live := [0, 3, 4, 5, 36] }), (11, { live := [0, 3, 5, 57] }), (13, { live := [0, 3, 5, 67] }), (15, { live := [0, 3, 5, 80] }), (27, { live := [0] })]),
  (81, [(5, { live := [0, 3, 4, 5, 7, 23] }), (7, { live := [0, 3, 4, 5, 7, 30] }), (9, { live := [0, 3, 4, 5, 7, 40] }), (11, { live := [0, 3, 7, 51] }), (32, { live := [0] })]),
  (82, [(3, { live := [0] })]),
  (93, [(4, { live := [0, 1, 5] }), (6, { live := [0, 1, 5] }), (7, { live := [0, 1, 5, 15] }), (9, { live := [0, 1, 5, 28] })]),
  (95, [(14, { live := [0, 44] }), (16, { live := [0, 51] }), (36, { live := [0, 89] }), (40, { live := [0, 103] }), (46, { live := [0, 124] }), (48, { live := [0, 131] }), (61, { live := [] })]),
  (109, [(17, { live := [0, 3, 4, 5, 6, 7] })]),
  (111, [(2, { live := [0, 4] })]),
  (115, [(2, { live := [0, 1, 8] })]),
  (118, [(7, { live := [0, 1, 5, 25] })]),
  (125, [(3, { live := [0, 1, 5, 9] }), (10, { live := [0, 1, 43] })]),
  (127, [(3, { live := [0, 1, 5, 8] }), (5, { live := [0, 1, 5, 25] }), (7, { live := [0, 1, 42] }), (9, { live := [0, 1, 55] }), (12, { live := [] })]),
  (130, [(41, { live := [0, 1, 3, 4, 18, 20, 24] }), (43, { live := [0, 3, 4, 18, 24] })])]
noncomputable def E : Env := { P := Go.Proofs.Tryd.prog, sig := fun f => lookN ⟨.bool, []⟩ f sigT, lend := fun f => lookN [] f lendT, loopHint := fun f k => lookT f k loopT, joinHint := fun f k => lookT f k joinT, over := fun f => memb f [94], gv := fun g => bif Nat.beq g 2 then some (.rc 1 e_i ([48, 592, 848, 1104, 1360, 1616, 10016] : List Int)) else none }
def bs (l : List Nat) : ByteArray := ⟨⟨l.map UInt8.ofNat⟩⟩
def ext : Cf E := fun f vs os =>
  if h : f = 94 then h ▸ (xDecodeRune vs os : Option (E.sig 94).T) else
  none
def laws_FnExactLookAlike (fu : Nat) (aA : ByteArray) (aB : ByteArray) : Option (Bool) := evF E ext fu 5 [.str aA, .str aB] []
def laws_FnExactSkeletonOf (fu : Nat) (aText : ByteArray) : Option (Bool) := evF E ext fu 6 [.str aText] []
def spec_LookAlike (fu : Nat) (a : ByteArray) (b : ByteArray) : Option (Bool) := evF E ext fu 18 [.str a, .str b] []
def impl_LookAlike (fu : Nat) (a : ByteArray) (b : ByteArray) : Option (Bool) := evF E ext fu 19 [.str a, .str b] []
def spec_SkeletonOf (fu : Nat) (text : ByteArray) : Option (ByteArray) := evF E ext fu 20 [.str text] []
def impl_SkeletonOf (fu : Nat) (text : ByteArray) : Option (ByteArray) := evF E ext fu 21 [.str text] []
def spec_l19Skeleton (fu : Nat) (t : ByteArray) : Option (List T_i) := evF E ext fu 49 [.str t] []
def spec_l04Same (fu : Nat) (a : List T_i) (b : List T_i) : Option (Bool) := evF E ext fu 48 [.ro e_i a, .ro e_i b] []
def impl_long (fu : Nat) (s : ByteArray) : Option (Bool) := evF E ext fu 25 [.str s] []
def impl_skeleton (fu : Nat) (text : ByteArray) : Option (ByteArray) := evF E ext fu 50 [.str text] []
def spec_l01Text (fu : Nat) (points : List T_i) : Option (ByteArray) := evF E ext fu 52 [.ro e_i points] []
def spec_l01Small (fu : Nat) (t : ByteArray) : Option (ByteArray) := evF E ext fu 51 [.str t] []
def impl_short (fu : Nat) (s : ByteArray) : Option (ByteArray) := evF E ext fu 53 [.str s] []
def spec_l01Points (fu : Nat) (t : ByteArray) : Option (List T_i) := evF E ext fu 24 [.str t] []
def spec_l05Norm (fu : Nat) (form : Int) (points : List T_i) : Option (List T_i) := evF E ext fu 79 [.int .i64 form, .ro e_i points] []
def spec_l19Skeleton_L4 (fu fu1 : Nat) (i : Int) (l : List T_i) (out : List T_i) : Option (List T_i) := loopAt E ext 49 0 fu [true, true, true, false, true, false] [] fu1 (tabTm [3, 4, 5] [.own 500, .own 501, .int .i64 i]) (tabOb [(500, some (.row .unk e_i l)), (501, some (.row (.is false) e_i out))])
def spec_l04Same_L4 (fu fu1 : Nat) (a : List T_i) (b : List T_i) (i : Int) : Option (Bool) := loopAt E ext 48 0 fu [true, true, false, true, false] [] fu1 (tabTm [0, 1, 5] [.ro e_i a, .ro e_i b, .int .i64 i]) (tabOb [])
def impl_points (fu : Nat) (s : ByteArray) : Option (List T_i) := evF E ext fu 28 [.str s] []
def impl_normal (fu : Nat) (form : Int) (l : List T_i) : Option (List T_i) := evF E ext fu 61 [.int .i64 form, .ro e_i l] []
def impl_skeleton_L3 (fu fu1 : Nat) (x : Int) (x_1 : Int) (l : List T_i) (x_2 : List T_i) : Option (ByteArray) := loopAt E ext 50 0 fu [true, true, false, true, false] [] fu1 (tabTm [3, 8, 9, 10] [.own 500, .own 501, .int .i64 x, .int .i64 x_1]) (tabOb [(500, some (.row .unk e_i l)), (501, some (.row .unk e_i x_2))])
def spec_l01Text_L3 (fu fu1 : Nat) (points : List T_i) (i : Int) (out : List T_y) : Option (ByteArray) := loopAt E ext 52 0 fu [true, true, false, true, false] [] fu1 (tabTm [0, 3, 4] [.ro e_i points, .own 500, .int .i64 i]) (tabOb [(500, some (.row (.is false) e_y out))])
def spec_l01Points_L3 (fu fu1 : Nat) (t : ByteArray) (i : Int) (out : List T_i) : Option (List T_i) := loopAt E ext 24 0 fu [true, true, false, true, false] [] fu1 (tabTm [0, 3, 4] [.str t, .own 500, .int .i64 i]) (tabOb [(500, some (.row (.is false) e_i out))])
def spec_l05Norm_L3 (fu fu1 : Nat) (form : Int) (points : List T_i) (i : Int) (out : List T_i) : Option (List T_i) := loopAt E ext 79 0 fu [true, true, false, true, false] [] fu1 (tabTm [0, 1, 5, 6] [.int .i64 form, .ro e_i points, .own 500, .int .i64 i]) (tabOb [(500, some (.row (.is false) e_i out))])
def spec_l19Seen (fu : Nat) (p : Int) : Option (List T_i) := evF E ext fu 80 [.int .i64 p] []
def impl_read (fu : Nat) (s : ByteArray) : Option (List T_iiib) := evF E ext fu 62 [.str s] []
def impl_points_L3 (fu fu1 : Nat) (x : Int) (x_1 : Int) (out : List T_i) (x_2 : List T_iiib) : Option (List T_i) := loopAt E ext 28 0 fu [true, true, false, true, false] [] fu1 (tabTm [3, 7, 8, 9] [.own 500, .own 501, .int .i64 x, .int .i64 x_1]) (tabOb [(500, some (.row .unk e_i out)), (501, some (.row .unk e_iiib x_2))])
def impl_normal_L3 (fu fu1 : Nat) (form : Int) (x : List T_i) (x_1 : Int) (x_2 : Int) (out : List T_i) : Option (List T_i) := loopAt E ext 61 0 fu [true, true, false, true, false] [] fu1 (tabTm [0, 5, 18, 19, 20] [.int .i64 form, .own 500, .ro e_i x, .int .i64 x_1, .int .i64 x_2]) (tabOb [(500, some (.row .unk e_i out))])
def impl_looks (fu : Nat) (p : Int) : Option (List T_i) := evF E ext fu 81 [.int .i64 p] []
def impl_write (fu : Nat) (l : List T_i) : Option (ByteArray) := evF E ext fu 60 [.ro e_i l] []
def spec_l01Write (fu : Nat) (p : Int) : Option (ByteArray) := evF E ext fu 82 [.int .i64 p] []
def spec_l01Next (fu : Nat) (t : ByteArray) (at' : Int) : Option (Int × Int × Bool) := evF E ext fu 58 [.str t, .int .i64 at'] []
def spec_l05K (fu : Nat) (form : Int) : Option (Bool) := evF E ext fu 106 [.int .i64 form] []
def spec_l05All (fu : Nat) (p : Int) (wide : Bool) : Option (List T_i) := evF E ext fu 105 [.int .i64 p, .bool wide] []
def spec_l05Ordered (fu : Nat) (l : List T_i) : Option (List T_i) := evF E ext fu 107 [.ro e_i l] []
def spec_l05C (fu : Nat) (form : Int) : Option (Bool) := evF E ext fu 108 [.int .i64 form] []
def spec_l05Composed (fu : Nat) (l : List T_i) : Option (List T_i) := evF E ext fu 109 [.ro e_i l] []
def spec_l01Cat (fu : Nat) (p : Int) : Option (Int) := evF E ext fu 57 [.int .i64 p] []
def spec_l06Block (fu : Nat) (p : Int) : Option (Int) := evF E ext fu 110 [.int .i64 p] []
def spec_l05Wide (fu : Nat) (p : Int) : Option (List T_i) := evF E ext fu 111 [.int .i64 p] []
def spec_l19Seen_J5 (fu : Nat) (p : Int) (c : Int) (b : Int) (x : Bool) (wide : List T_i) : Option (List T_i) := joinAt E ext 80 0 fu [true, true, true, true, false, false, true] [] (tabTm [0, 3, 4, 5, 14] [.int .i64 p, .int .i64 c, .int .i64 b, .own 500, .bool x]) (tabOb [(500, some (.row .unk e_i wide))])
def impl_read_L3 (fu fu1 : Nat) (s : ByteArray) (i : Int) : Option (List T_iiib) := loopAt E ext 62 0 fu [true, true, false, true, false] [] fu1 (tabTm [0, 3, 4] [.str s, .nil, .int .i64 i]) (tabOb [])
def impl_decompose (fu : Nat) (p : Int) (k : Bool) : Option (List T_i) := evF E ext fu 89 [.int .i64 p, .bool k] []
def impl_normal_L8 (fu fu1 : Nat) (form : Int) (i : Int) (out : List T_i) : Option (List T_i) := loopAt E ext 61 0 fu [true, true, true, false, true, false] [] fu1 (tabTm [0, 5, 8] [.int .i64 form, .own 500, .int .i64 i]) (tabOb [(500, some (.row .unk e_i out))])
def impl_Category (fu : Nat) (p : Int) : Option (Int) := evF E ext fu 63 [.int .i64 p] []
def impl_block (fu : Nat) (p : Int) : Option (Int × Int) := evF E ext fu 113 [.int .i64 p] []
def impl_systemOf (fu : Nat) (p : Int) : Option (Int × Int) := evF E ext fu 114 [.int .i64 p] []
def impl_looks_J5 (fu : Nat) (p : Int) (c : Int) (b : Int) (k : Int) (n : Int) (x : Bool) : Option (List T_i) := joinAt E ext 81 0 fu [true, true, true, true, false, false, true] [] (tabTm [0, 3, 4, 5, 7, 23] [.int .i64 p, .int .i64 c, .int .i64 b, .int .i64 k, .int .i64 n, .bool x]) (tabOb [])
def impl_write_L3 (fu fu1 : Nat) (x : List T_i) (x_1 : Int) (x_2 : Int) (b : List T_y) : Option (ByteArray) := loopAt E ext 60 0 fu [true, true, false, true, false] [] fu1 (tabTm [3, 6, 7, 8] [.own 500, .ro e_i x, .int .i64 x_1, .int .i64 x_2]) (tabOb [(500, some (.row .unk e_y b))])
def spec_l01IsPoint (fu : Nat) (p : Int) : Option (Bool) := evF E ext fu 85 [.int .i64 p] []
def spec_l01Write_J3 (fu : Nat) (p : Int) : Option (ByteArray) := joinAt E ext 82 0 fu [true, true] [] (tabTm [0] [.int .i64 p]) (tabOb [])
def spec_l01Next_J16 (fu : Nat) (t : ByteArray) (at' : Int) (n : Int) (p : Int) : Option (Int × Int × Bool) := joinAt E ext 58 0 fu [true, true, true, true, true] [] (tabTm [0, 1, 8, 9] [.str t, .int .i64 at', .int .i64 n, .int .i64 p]) (tabOb [])
def spec_l05Parts (fu : Nat) (p : Int) (wide : Bool) : Option (List T_i) := evF E ext fu 125 [.int .i64 p, .bool wide] []
def spec_l05All_L6 (fu fu1 : Nat) (wide : Bool) (i : Int) (parts : List T_i) (out : List T_i) : Option (List T_i) := loopAt E ext 105 0 fu [true, true, true, true, false, true, false] [] fu1 (tabTm [1, 5, 6, 7] [.bool wide, .own 500, .own 501, .int .i64 i]) (tabOb [(500, some (.row .unk e_i parts)), (501, some (.row (.is false) e_i out))])
def spec_l05Ordered_L3 (fu fu1 : Nat) (i : Int) (out : List T_i) : Option (List T_i) := loopAt E ext 107 0 fu [true, true, false, true, false] [] fu1 (tabTm [3, 4] [.own 500, .int .i64 i]) (tabOb [(500, some (.row (.is false) e_i out))])
def spec_l05Composed_L4 (fu fu1 : Nat) (l : List T_i) (starter : Int) (i : Int) (out : List T_i) : Option (List T_i) := loopAt E ext 109 0 fu [true, true, true, false, true, false] [] fu1 (tabTm [0, 3, 4, 5] [.ro e_i l, .own 500, .int .i64 starter, .int .i64 i]) (tabOb [(500, some (.row (.is false) e_i out))])
def spec_l01Known (fu : Nat) (p : Int) : Option (Int × Int) := evF E ext fu 84 [.int .i64 p] []
def spec_l05Wide_J2 (fu : Nat) (p : Int) (x : Bool) : Option (List T_i) := joinAt E ext 111 0 fu [true, false, false, true] [] (tabTm [0, 4] [.int .i64 p, .bool x]) (tabOb [])
def spec_l19Seen_J7 (fu : Nat) (p : Int) (c : Int) (b : Int) (x : Bool) (wide : List T_i) : Option (List T_i) := joinAt E ext 80 0 fu [true, true, true, true, false, false, true, true, true] [] (tabTm [0, 3, 4, 5, 22] [.int .i64 p, .int .i64 c, .int .i64 b, .own 500, .bool x]) (tabOb [(500, some (.row .unk e_i wide))])
def unicode_utf8_DecodeRuneInString (fu : Nat) (s : ByteArray) : Option (Int × Int) := evF E ext fu 94 [.str s] []
def impl_read_L3'1 (fu fu1 : Nat) (s : ByteArray) (i : Int) (out : List T_iiib) : Option (List T_iiib) := loopAt E ext 62 0 fu [true, true, false, true, false] [] fu1 (tabTm [0, 3, 4] [.str s, .own 500, .int .i64 i]) (tabOb [(500, some (.row .unk e_iiib out))])
def impl_parts (fu : Nat) (p : Int) (k : Bool) : Option (List T_i × Bool) := evF E ext fu 115 [.int .i64 p, .bool k] []
def impl_decompose_L6 (fu fu1 : Nat) (k : Bool) (x : Int) (x_1 : Int) (out : List T_i) (Nil : Bool) (x_2 : List T_i) : Option (List T_i) := loopAt E ext 89 0 fu [true, true, true, true, false, true, false] [] fu1 (tabTm [1, 6, 16, 17, 18] [.bool k, .own 500, .own 501, .int .i64 x, .int .i64 x_1]) (tabOb [(500, some (.row .unk e_i out)), (501, some (.row (.is Nil) e_i x_2))])
def impl_normal_L10 (fu fu1 fu2 : Nat) (form : Int) (i : Int) (n : Int) (out : List T_i) : Option (List T_i) := loopAt E ext 61 0 fu [true, true, true, false, true, false, false, true, false, true, false, false] [fu1] fu2 (tabTm [0, 5, 8, 9] [.int .i64 form, .own 500, .int .i64 i, .int .i64 n]) (tabOb [(500, some (.row .unk e_i out))])
def impl_normal_L20 (fu fu1 : Nat) (starter : Int) (last : Int) (x : Int) (x_1 : Int) (c : List T_i) (x_2 : List T_i) : Option (List T_i) := loopAt E ext 61 0 fu [true, true, true, true, true, true, true, true, false, true, false] [] fu1 (tabTm [10, 11, 12, 66, 67, 68] [.own 500, .int .i64 starter, .int .i64 last, .own 501, .int .i64 x, .int .i64 x_1]) (tabOb [(500, some (.row .unk e_i c)), (501, some (.row .unk e_i x_2))])
def impl_kind (fu : Nat) (p : Int) : Option (Int × Int) := evF E ext fu 95 [.int .i64 p] []
def impl_systemOf_L2 (fu fu1 : Nat) (p : Int) (x : List T_i) (x_1 : Int) (x_2 : Int) : Option (Int × Int) := loopAt E ext 114 0 fu [true, false, true, false] [] fu1 (tabTm [0, 6, 7, 8] [.int .i64 p, .rc 1 e_i x, .int .i64 x_1, .int .i64 x_2]) (tabOb [])
def impl_looks_J7 (fu : Nat) (p : Int) (c : Int) (b : Int) (k : Int) (n : Int) (x : Bool) : Option (List T_i) := joinAt E ext 81 0 fu [true, true, true, true, false, false, true, true, true] [] (tabTm [0, 3, 4, 5, 7, 30] [.int .i64 p, .int .i64 c, .int .i64 b, .int .i64 k, .int .i64 n, .bool x]) (tabOb [])
def impl_isPoint (fu : Nat) (p : Int) : Option (Bool) := evF E ext fu 87 [.int .i64 p] []
def unicode_utf8_AppendRune (fu : Nat) (r : Int) (p : List T_y) : Option (List T_y × Unit) := evF E ext fu 88 [.own 0, .int .i32 r] [.row .unk e_y p]
def spec_l01Next_L19 (fu fu1 : Nat) (t : ByteArray) (at' : Int) (n : Int) (p : Int) (i : Int) : Option (Int × Int × Bool) := loopAt E ext 58 0 fu [true, true, true, true, true, true, false, true, false] [] fu1 (tabTm [0, 1, 8, 9, 10] [.str t, .int .i64 at', .int .i64 n, .int .i64 p, .int .i64 i]) (tabOb [])
def spec_l05Parts_J3 (fu : Nat) (p : Int) (wide : Bool) (n : Int) (x : Bool) : Option (List T_i) := joinAt E ext 125 0 fu [true, true, false, false, true] [] (tabTm [0, 1, 5, 9] [.int .i64 p, .bool wide, .int .i64 n, .bool x]) (tabOb [])
def spec_l01Class (fu : Nat) (p : Int) : Option (Int) := evF E ext fu 126 [.int .i64 p] []
def spec_l05Ordered_L7 (fu fu1 fu2 : Nat) (i : Int) (k : Int) (out : List T_i) : Option (List T_i) := loopAt E ext 107 0 fu [true, true, false, true, false, false, true, false, false, true, true, false] [fu1] fu2 (tabTm [3, 4, 5] [.own 500, .int .i64 i, .int .i64 k]) (tabOb [(500, some (.row (.is false) e_i out))])
def spec_l05Composed_L10 (fu fu1 fu2 : Nat) (l : List T_i) (starter : Int) (i : Int) (c : Int) (class' : Int) (open' : Bool) (k : Int) (out : List T_i) : Option (List T_i) := loopAt E ext 109 0 fu [true, true, true, false, true, false, false, true, false, false, true, true, true, false, true, false] [fu1] fu2 (tabTm [0, 3, 4, 5, 6, 7, 8, 9] [.ro e_i l, .own 500, .int .i64 starter, .int .i64 i, .int .i64 c, .int .i64 class', .bool open', .int .i64 k]) (tabOb [(500, some (.row (.is false) e_i out))])
def spec_l01Cased (fu : Nat) : Option (List T_iiii) := evF E ext fu 116 [] []
def spec_l01Known_L4 (fu fu1 : Nat) (p : Int) (i : Int) (rows : List T_iiii) : Option (Int × Int) := loopAt E ext 84 0 fu [true, false, true, false, true, false, true, false] [] fu1 (tabTm [0, 4, 5] [.int .i64 p, .own 500, .int .i64 i]) (tabOb [(500, some (.row .unk e_iiii rows))])
def spec_l01Rows (fu : Nat) : Option (List T_iiii) := evF E ext fu 117 [] []
def spec_l01Known_L18 (fu fu1 : Nat) (p : Int) (i : Int) (rows : List T_iiii) : Option (Int × Int) := loopAt E ext 84 0 fu [true, true, true, true, false, true, false] [] fu1 (tabTm [0, 7, 8] [.int .i64 p, .own 500, .int .i64 i]) (tabOb [(500, some (.row .unk e_iiii rows))])
def spec_l19Seen_J9 (fu : Nat) (p : Int) (c : Int) (b : Int) (x : Bool) (wide : List T_i) : Option (List T_i) := joinAt E ext 80 0 fu [true, true, true, true, false, false, true, true, true, true, true] [] (tabTm [0, 3, 4, 5, 36] [.int .i64 p, .int .i64 c, .int .i64 b, .own 500, .bool x]) (tabOb [(500, some (.row .unk e_i wide))])
def impl_in (fu : Nat) (p : Int) (a : Int) (b : Int) : Option (Bool) := evF E ext fu 42 [.int .i64 p, .int .i64 a, .int .i64 b] []
def impl_parts_J2 (fu : Nat) (p : Int) (k : Bool) (x : Bool) : Option (List T_i × Bool) := joinAt E ext 115 0 fu [true, false, false, true] [] (tabTm [0, 1, 8] [.int .i64 p, .bool k, .bool x]) (tabOb [])
def impl_MarkClass (fu : Nat) (p : Int) : Option (Int) := evF E ext fu 90 [.int .i64 p] []
def slices_SortStableFunc_Sint64_int64 (fu : Nat) (xLo : Int) (xHi : Int) (x : List T_i) : Option (Unit × List T_i) := evF E ext fu 91 [.sub 0 xLo xHi, .fn 92 [] []] [.row .unk e_i x]
def impl_Compose (fu : Nat) (a : Int) (b : Int) : Option (Int) := evF E ext fu 93 [.int .i64 a, .int .i64 b] []
def impl_normal_J29 (fu fu1 : Nat) (starter : Int) (p : Int) (k : Int) (x : Int) (x_1 : Int) (c : List T_i) (x_2 : List T_i) : Option (List T_i) := joinAt E ext 61 0 fu [true, true, true, true, true, true, true, true, false, true, false, false, true, true, false, false, true, true, true] [fu1] (tabTm [10, 11, 14, 15, 66, 67, 68] [.own 500, .int .i64 starter, .int .i64 p, .int .i64 k, .own 501, .int .i64 x, .int .i64 x_1]) (tabOb [(500, some (.row .unk e_i c)), (501, some (.row .unk e_i x_2))])
def impl_kind_J14 (fu : Nat) (p : Int) (x : Bool) : Option (Int × Int) := joinAt E ext 95 0 fu [true, true, false, false, true] [] (tabTm [0, 44] [.int .i64 p, .bool x]) (tabOb [])
def impl_looks_J9 (fu : Nat) (p : Int) (c : Int) (b : Int) (k : Int) (n : Int) (x : Bool) : Option (List T_i) := joinAt E ext 81 0 fu [true, true, true, true, false, false, true, true, true, true, true] [] (tabTm [0, 3, 4, 5, 7, 40] [.int .i64 p, .int .i64 c, .int .i64 b, .int .i64 k, .int .i64 n, .bool x]) (tabOb [])
def unicode_utf8_appendRuneNonASCII (fu : Nat) (r : Int) (p : List T_y) : Option (List T_y × Unit) := evF E ext fu 118 [.own 0, .int .i32 r] [.row .unk e_y p]
def spec_l05Letter (fu : Nat) (i : Int) : Option (Int) := evF E ext fu 137 [.int .i64 i] []
def spec_l05Parts_J10 (fu : Nat) (p : Int) (wide : Bool) (x : Bool) : Option (List T_i) := joinAt E ext 125 0 fu [true, true, false, false, true, true, true] [] (tabTm [0, 1, 43] [.int .i64 p, .bool wide, .bool x]) (tabOb [])
def spec_l05Pair (fu : Nat) (a : Int) (b : Int) : Option (Int) := evF E ext fu 127 [.int .i64 a, .int .i64 b] []
def spec_l05Composed_J17 (fu fu1 : Nat) (l : List T_i) (starter : Int) (i : Int) (c : Int) (class' : Int) (out : List T_i) : Option (List T_i) := joinAt E ext 109 0 fu [true, true, true, false, true, false, false, true, false, false, true, true, true, true, true] [fu1] (tabTm [0, 3, 4, 5, 6, 7] [.ro e_i l, .own 500, .int .i64 starter, .int .i64 i, .int .i64 c, .int .i64 class']) (tabOb [(500, some (.row (.is false) e_i out))])
def spec_l19Seen_J11 (fu : Nat) (p : Int) (c : Int) (x : Bool) (wide : List T_i) : Option (List T_i) := joinAt E ext 80 0 fu [true, true, true, true, false, false, true, true, true, true, true, true, true] [] (tabTm [0, 3, 5, 57] [.int .i64 p, .int .i64 c, .own 500, .bool x]) (tabOb [(500, some (.row .unk e_i wide))])
def impl_letter (fu : Nat) (i : Int) : Option (Int) := evF E ext fu 128 [.int .i64 i] []
def slices_stableCmpFunc_int64 (fu : Nat) (dataLo : Int) (dataHi : Int) (n : Int) (data : List T_i) : Option (Unit × List T_i) := evF E ext fu 119 [.sub 0 dataLo dataHi, .int .i64 n, .fn 92 [] []] [.row .unk e_i data]
def impl_Compose_J4 (fu : Nat) (a : Int) (b : Int) (i : Int) : Option (Int) := joinAt E ext 93 0 fu [true, true, true] [] (tabTm [0, 1, 5] [.int .i64 a, .int .i64 b, .int .i64 i]) (tabOb [])
def impl_kind_J16 (fu : Nat) (p : Int) (x : Bool) : Option (Int × Int) := joinAt E ext 95 0 fu [true, true, false, false, true, true, true] [] (tabTm [0, 51] [.int .i64 p, .bool x]) (tabOb [])
def impl_looks_J11 (fu : Nat) (p : Int) (c : Int) (n : Int) (x : Bool) : Option (List T_i) := joinAt E ext 81 0 fu [true, true, true, true, false, false, true, true, true, true, true, true, true] [] (tabTm [0, 3, 7, 51] [.int .i64 p, .int .i64 c, .int .i64 n, .bool x]) (tabOb [])
def unicode_utf8_appendRuneNonASCII_J7 (fu : Nat) (r : Int) (i : Int) (x : Bool) (p : List T_y) : Option (List T_y × Unit) := joinAt E ext 118 1 fu [true, true, false, true, true, true] [] (tabTm [0, 1, 5, 25] [.own 0, .int .i32 r, .int .u32 i, .bool x]) (tabOb [(0, some (.row .unk e_y p))])
def spec_l05LetterAt (fu : Nat) (p : Int) : Option (Int) := evF E ext fu 138 [.int .i64 p] []
def spec_l05Pair_J3 (fu : Nat) (a : Int) (b : Int) (i : Int) (x : Bool) : Option (Int) := joinAt E ext 127 0 fu [true, true, false, false, true] [] (tabTm [0, 1, 5, 8] [.int .i64 a, .int .i64 b, .int .i64 i, .bool x]) (tabOb [])
def spec_DigitOf (fu : Nat) (p : Int) : Option (Int) := evF E ext fu 112 [.int .i64 p] []
def spec_l19Seen_J13 (fu : Nat) (p : Int) (c : Int) (x : Bool) (wide : List T_i) : Option (List T_i) := joinAt E ext 80 0 fu [true, true, true, true, false, false, true, true, true, true, true, true, true, true, true] [] (tabTm [0, 3, 5, 67] [.int .i64 p, .int .i64 c, .own 500, .bool x]) (tabOb [(500, some (.row .unk e_i wide))])
def slices_stableCmpFunc_int64_L2 (fu fu1 : Nat) (dataLo : Int) (dataHi : Int) (n : Int) (blockSize : Int) (a : Int) (b : Int) (data : List T_i) : Option (Unit × List T_i) := loopAt E ext 119 1 fu [true, true, false, false] [] fu1 (tabTm [0, 1, 2, 6, 7, 8] [.sub 0 dataLo dataHi, .int .i64 n, .fn 92 [] [], .int .i64 blockSize, .int .i64 a, .int .i64 b]) (tabOb [(0, some (.row .unk e_i data))])
def impl_Compose_J6 (fu : Nat) (a : Int) (b : Int) (i : Int) : Option (Int) := joinAt E ext 93 0 fu [true, true, true, true] [] (tabTm [0, 1, 5] [.int .i64 a, .int .i64 b, .int .i64 i]) (tabOb [])
def impl_kind_J36 (fu : Nat) (p : Int) (x : Bool) : Option (Int × Int) := joinAt E ext 95 0 fu [true, true, false, false, true, true, true, true, true, true, true, true, true, true, true, true, true, true, true, true, true, true, true, true, true, true, true] [] (tabTm [0, 89] [.int .i64 p, .bool x]) (tabOb [])
def impl_looks_L25 (fu fu1 : Nat) (x : Int) (x_1 : Int) (out : List T_i) (Nil : Bool) (x_2 : List T_i) : Option (List T_i) := loopAt E ext 81 0 fu [true, true, true, true, false, false, true, true, true, true, true, true, true, true, true, true, true, true, true, true, true, true, true, true, true, false, true, false, true, false] [] fu1 (tabTm [8, 93, 94, 95] [.own 500, .own 501, .int .i64 x, .int .i64 x_1]) (tabOb [(500, some (.row .unk e_i out)), (501, some (.row (.is Nil) e_i x_2))])
def impl_looks_J32 (fu : Nat) (p : Int) : Option (List T_i) := joinAt E ext 81 0 fu [true, true, true, true, true] [] (tabTm [0] [.int .i64 p]) (tabOb [])
def spec_l05Pair_J5 (fu : Nat) (a : Int) (b : Int) (i : Int) (x : Bool) : Option (Int) := joinAt E ext 127 0 fu [true, true, false, false, true, true, true] [] (tabTm [0, 1, 5, 25] [.int .i64 a, .int .i64 b, .int .i64 i, .bool x]) (tabOb [])
def spec_l19Seen_J15 (fu : Nat) (p : Int) (c : Int) (x : Bool) (wide : List T_i) : Option (List T_i) := joinAt E ext 80 0 fu [true, true, true, true, false, false, true, true, true, true, true, true, true, true, true, true, true] [] (tabTm [0, 3, 5, 80] [.int .i64 p, .int .i64 c, .own 500, .bool x]) (tabOb [(500, some (.row .unk e_i wide))])
def slices_insertionSortCmpFunc_int64 (fu : Nat) (dataLo : Int) (dataHi : Int) (a : Int) (b : Int) (data : List T_i) : Option (Unit × List T_i) := evF E ext fu 129 [.sub 0 dataLo dataHi, .int .i64 a, .int .i64 b, .fn 92 [] []] [.row .unk e_i data]
def slices_stableCmpFunc_int64_L7 (fu fu1 : Nat) (dataLo : Int) (dataHi : Int) (n : Int) (blockSize : Int) (data : List T_i) : Option (Unit × List T_i) := loopAt E ext 119 1 fu [true, true, true, true, false] [] fu1 (tabTm [0, 1, 2, 6] [.sub 0 dataLo dataHi, .int .i64 n, .fn 92 [] [], .int .i64 blockSize]) (tabOb [(0, some (.row .unk e_i data))])
def impl_Compose_J7 (fu : Nat) (a : Int) (b : Int) (i : Int) (x : Bool) : Option (Int) := joinAt E ext 93 0 fu [true, true, true, true, false, false, true] [] (tabTm [0, 1, 5, 15] [.int .i64 a, .int .i64 b, .int .i64 i, .bool x]) (tabOb [])
def impl_kind_J40 (fu : Nat) (p : Int) (x : Bool) : Option (Int × Int) := joinAt E ext 95 0 fu [true, true, false, false, true, true, true, true, true, true, true, true, true, true, true, true, true, true, true, true, true, true, true, true, true, true, true, true, true, true, true] [] (tabTm [0, 103] [.int .i64 p, .bool x]) (tabOb [])
def spec_l05Pair_J7 (fu : Nat) (a : Int) (b : Int) (x : Bool) : Option (Int) := joinAt E ext 127 0 fu [true, true, false, false, true, true, true, true, true] [] (tabTm [0, 1, 42] [.int .i64 a, .int .i64 b, .bool x]) (tabOb [])
def spec_l19Seen_L23 (fu fu1 : Nat) (i : Int) (wide : List T_i) (out : List T_i) : Option (List T_i) := loopAt E ext 80 0 fu [true, true, true, true, false, false, true, true, true, true, true, true, true, true, true, true, true, true, true, true, true, true, true, false, true, false, true, false] [] fu1 (tabTm [5, 6, 7] [.own 500, .own 501, .int .i64 i]) (tabOb [(500, some (.row .unk e_i wide)), (501, some (.row (.is false) e_i out))])
def spec_l19Seen_J27 (fu : Nat) (p : Int) : Option (List T_i) := joinAt E ext 80 0 fu [true, true, true, true, true] [] (tabTm [0] [.int .i64 p]) (tabOb [])
def slices_insertionSortCmpFunc_int64_L1 (fu fu1 : Nat) (dataLo : Int) (dataHi : Int) (a : Int) (b : Int) (i : Int) (data : List T_i) : Option (Unit × List T_i) := loopAt E ext 129 1 fu [true, false] [] fu1 (tabTm [0, 1, 2, 3, 8] [.sub 0 dataLo dataHi, .int .i64 a, .int .i64 b, .fn 92 [] [], .int .i64 i]) (tabOb [(0, some (.row .unk e_i data))])
def slices_stableCmpFunc_int64_L9 (fu fu1 fu2 : Nat) (dataLo : Int) (dataHi : Int) (n : Int) (blockSize : Int) (a : Int) (b : Int) (data : List T_i) : Option (Unit × List T_i) := loopAt E ext 119 1 fu [true, true, true, true, false, false, true, false, true, false, false] [fu1] fu2 (tabTm [0, 1, 2, 6, 7, 8] [.sub 0 dataLo dataHi, .int .i64 n, .fn 92 [] [], .int .i64 blockSize, .int .i64 a, .int .i64 b]) (tabOb [(0, some (.row .unk e_i data))])
def impl_Compose_J9 (fu : Nat) (a : Int) (b : Int) (i : Int) (x : Bool) : Option (Int) := joinAt E ext 93 0 fu [true, true, true, true, false, false, true, true, true] [] (tabTm [0, 1, 5, 28] [.int .i64 a, .int .i64 b, .int .i64 i, .bool x]) (tabOb [])
def impl_kind_J46 (fu : Nat) (p : Int) (x : Bool) : Option (Int × Int) := joinAt E ext 95 0 fu [true, true, false, false, true, true, true, true, true, true, true, true, true, true, true, true, true, true, true, true, true, true, true, true, true, true, true, true, true, true, true, true, true, true, true, true, true] [] (tabTm [0, 124] [.int .i64 p, .bool x]) (tabOb [])
def spec_l05Pair_J9 (fu : Nat) (a : Int) (b : Int) (x : Bool) : Option (Int) := joinAt E ext 127 0 fu [true, true, false, false, true, true, true, true, true, true, true] [] (tabTm [0, 1, 55] [.int .i64 a, .int .i64 b, .bool x]) (tabOb [])
def slices_insertionSortCmpFunc_int64_L4 (fu fu1 fu2 : Nat) (dataLo : Int) (dataHi : Int) (a : Int) (b : Int) (i : Int) (j : Int) (data : List T_i) : Option (Unit × List T_i) := loopAt E ext 129 1 fu [true, false, false, true, false, false, true, false] [fu1] fu2 (tabTm [0, 1, 2, 3, 8, 9] [.sub 0 dataLo dataHi, .int .i64 a, .int .i64 b, .fn 92 [] [], .int .i64 i, .int .i64 j]) (tabOb [(0, some (.row .unk e_i data))])
def slices_symMergeCmpFunc_int64 (fu : Nat) (dataLo : Int) (dataHi : Int) (a : Int) (m : Int) (b : Int) (data : List T_i) : Option (Unit × List T_i) := evF E ext fu 130 [.sub 0 dataLo dataHi, .int .i64 a, .int .i64 m, .int .i64 b, .fn 92 [] []] [.row .unk e_i data]
def impl_isOpen (fu : Nat) (p : Int) : Option (Bool) := evF E ext fu 120 [.int .i64 p] []
def impl_kind_J48 (fu : Nat) (p : Int) (x : Bool) : Option (Int × Int) := joinAt E ext 95 0 fu [true, true, false, false, true, true, true, true, true, true, true, true, true, true, true, true, true, true, true, true, true, true, true, true, true, true, true, true, true, true, true, true, true, true, true, true, true, true, true] [] (tabTm [0, 131] [.int .i64 p, .bool x]) (tabOb [])
def spec_l05Pair_J12 (fu : Nat) : Option (Int) := joinAt E ext 127 0 fu [true, true, true] [] (tabTm [] []) (tabOb [])
def impl_normal_1 (fu : Nat) (a : Int) (b : Int) : Option (Int) := evF E ext fu 92 [.int .i64 a, .int .i64 b] []
def slices_symMergeCmpFunc_int64_L3 (fu fu1 : Nat) (dataLo : Int) (dataHi : Int) (a : Int) (i : Int) (j : Int) (data : List T_i) : Option (Unit × List T_i) := loopAt E ext 130 1 fu [false, true, false, true, true, false, false] [] fu1 (tabTm [0, 1, 4, 10, 11] [.sub 0 dataLo dataHi, .int .i64 a, .fn 92 [] [], .int .i64 i, .int .i64 j]) (tabOb [(0, some (.row .unk e_i data))])
def slices_symMergeCmpFunc_int64_L15 (fu fu1 : Nat) (dataLo : Int) (dataHi : Int) (m : Int) (i : Int) (j : Int) (data : List T_i) : Option (Unit × List T_i) := loopAt E ext 130 1 fu [true, false, true, false, true, true, false, false] [] fu1 (tabTm [0, 2, 4, 14, 15] [.sub 0 dataLo dataHi, .int .i64 m, .fn 92 [] [], .int .i64 i, .int .i64 j]) (tabOb [(0, some (.row .unk e_i data))])
def slices_symMergeCmpFunc_int64_L33 (fu fu1 : Nat) (dataLo : Int) (dataHi : Int) (a : Int) (m : Int) (b : Int) (mid : Int) (n : Int) (start : Int) (r : Int) (p : Int) (data : List T_i) : Option (Unit × List T_i) := loopAt E ext 130 1 fu [true, true, true, true, true, true, true, false, false] [] fu1 (tabTm [0, 1, 2, 3, 4, 18, 19, 20, 21, 22] [.sub 0 dataLo dataHi, .int .i64 a, .int .i64 m, .int .i64 b, .fn 92 [] [], .int .i64 mid, .int .i64 n, .int .i64 start, .int .i64 r, .int .i64 p]) (tabOb [(0, some (.row .unk e_i data))])
def impl_isSyllable (fu : Nat) (p : Int) : Option (Bool) := evF E ext fu 131 [.int .i64 p] []
def impl_kind_J61 (fu : Nat) : Option (Int × Int) := joinAt E ext 95 0 fu [true, true, true] [] (tabTm [] []) (tabOb [])
def slices_symMergeCmpFunc_int64_L9 (fu fu1 : Nat) (dataLo : Int) (dataHi : Int) (i : Int) (k : Int) (data : List T_i) : Option (Unit × List T_i) := loopAt E ext 130 1 fu [false, true, false, true, true, true, false, true, false] [] fu1 (tabTm [0, 10, 13] [.sub 0 dataLo dataHi, .int .i64 i, .int .i64 k]) (tabOb [(0, some (.row .unk e_i data))])
def slices_symMergeCmpFunc_int64_L21 (fu fu1 : Nat) (dataLo : Int) (dataHi : Int) (i : Int) (k : Int) (data : List T_i) : Option (Unit × List T_i) := loopAt E ext 130 1 fu [true, false, true, false, true, true, true, false, true, false] [] fu1 (tabTm [0, 14, 17] [.sub 0 dataLo dataHi, .int .i64 i, .int .i64 k]) (tabOb [(0, some (.row .unk e_i data))])
def slices_rotateCmpFunc_int64 (fu : Nat) (dataLo : Int) (dataHi : Int) (a : Int) (m : Int) (b : Int) (data : List T_i) : Option (Unit × List T_i) := evF E ext fu 139 [.sub 0 dataLo dataHi, .int .i64 a, .int .i64 m, .int .i64 b, .fn 92 [] []] [.row .unk e_i data]
def slices_symMergeCmpFunc_int64_J41 (fu : Nat) (dataLo : Int) (dataHi : Int) (a : Int) (b : Int) (mid : Int) (start : Int) (end' : Int) (data : List T_i) : Option (Unit × List T_i) := joinAt E ext 130 1 fu [true, true, true, true, true, true, true, true, true, true] [] (tabTm [0, 1, 3, 4, 18, 20, 24] [.sub 0 dataLo dataHi, .int .i64 a, .int .i64 b, .fn 92 [] [], .int .i64 mid, .int .i64 start, .int .i64 end']) (tabOb [(0, some (.row .unk e_i data))])
def slices_rotateCmpFunc_int64_L2 (fu fu1 : Nat) (dataLo : Int) (dataHi : Int) (m : Int) (i : Int) (j : Int) (data : List T_i) : Option (Unit × List T_i) := loopAt E ext 139 1 fu [true, true, false, false] [] fu1 (tabTm [0, 2, 4, 10, 11] [.sub 0 dataLo dataHi, .int .i64 m, .fn 92 [] [], .int .i64 i, .int .i64 j]) (tabOb [(0, some (.row .unk e_i data))])
def slices_symMergeCmpFunc_int64_J43 (fu : Nat) (dataLo : Int) (dataHi : Int) (b : Int) (mid : Int) (end' : Int) (data : List T_i) : Option (Unit × List T_i) := joinAt E ext 130 1 fu [true, true, true, true, true, true, true, true, true, true, true] [] (tabTm [0, 3, 4, 18, 24] [.sub 0 dataLo dataHi, .int .i64 b, .fn 92 [] [], .int .i64 mid, .int .i64 end']) (tabOb [(0, some (.row .unk e_i data))])
def slices_swapRangeCmpFunc_int64 (fu : Nat) (dataLo : Int) (dataHi : Int) (a : Int) (b : Int) (n : Int) (data : List T_i) : Option (Unit × List T_i) := evF E ext fu 141 [.sub 0 dataLo dataHi, .int .i64 a, .int .i64 b, .int .i64 n, .fn 92 [] []] [.row .unk e_i data]
def slices_swapRangeCmpFunc_int64_L1 (fu fu1 : Nat) (dataLo : Int) (dataHi : Int) (a : Int) (b : Int) (n : Int) (i : Int) (data : List T_i) : Option (Unit × List T_i) := loopAt E ext 141 1 fu [true, false] [] fu1 (tabTm [0, 1, 2, 3, 10] [.sub 0 dataLo dataHi, .int .i64 a, .int .i64 b, .int .i64 n, .int .i64 i]) (tabOb [(0, some (.row .unk e_i data))])
end
end Go.Proofs.YtmmmlfndnoeedaaDoor.IX
