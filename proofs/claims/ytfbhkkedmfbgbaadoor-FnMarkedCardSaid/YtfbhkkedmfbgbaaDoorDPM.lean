/- The functions that the law reaches, as the evaluator reads them: table and names. -/
import Derived.Test.YtfbhkkedmfbgbaaDoorProg
import Derived.Test.YtfbhkkedmfbgbaaDoorEG
import Derived.Test.YtfbhkkedmfbgbaaDoorET
namespace Go.Proofs.YtfbhkkedmfbgbaaDoor.PM
open Go.Eng
set_option linter.unusedVariables false
set_option maxRecDepth 100000
noncomputable section
instance glb : Glb := Glb.utf8 1 2 91 5
def e_i : CTs := (.one (.int .i64))
abbrev T_i : Type := Int
noncomputable def z_i : T_i := (0 : Int)
def e_s : CTs := (.one .str)
abbrev T_s : Type := ByteArray
noncomputable def z_s : T_s := (⟨#[]⟩ : ByteArray)
def e_y : CTs := (.one (.int .u8))
abbrev T_y : Type := Int
noncomputable def z_y : T_y := (0 : Int)
def e_sib : CTs := (.cons .str (.cons (.int .i64) (.one .bool)))
abbrev T_sib : Type := ByteArray × Int × Bool
noncomputable def z_sib : T_sib := ((⟨#[]⟩ : ByteArray), (0 : Int), false)
def e_iiib : CTs := (.cons (.int .i64) (.cons (.int .i64) (.cons (.int .i64) (.one .bool))))
abbrev T_iiib : Type := Int × Int × Int × Bool
noncomputable def z_iiib : T_iiib := ((0 : Int), (0 : Int), (0 : Int), false)
def e_siiii : CTs := (.cons .str (.cons (.int .i64) (.cons (.int .i64) (.cons (.int .i64) (.one (.int .i64))))))
abbrev T_siiii : Type := ByteArray × Int × Int × Int × Int
noncomputable def z_siiii : T_siiii := ((⟨#[]⟩ : ByteArray), (0 : Int), (0 : Int), (0 : Int), (0 : Int))
def sigT : List (Nat × Sig) := [(3, ⟨.bool, []⟩),
  (4, ⟨.bool, []⟩),
  (5, ⟨.int .i64, []⟩),
  (6, ⟨.int .i64, []⟩),
  (7, ⟨.agg (.cons (.int .i64) (.cons (.own e_siiii) (.one (.own e_sib)))), []⟩),
  (8, ⟨.agg (.cons (.own e_siiii) (.one (.own e_sib))), []⟩),
  (9, ⟨.agg (.cons .str (.cons (.int .i64) (.one .bool))), []⟩),
  (10, ⟨.agg (.cons (.int .i64) (.cons (.own e_siiii) (.one (.own e_sib)))), []⟩),
  (11, ⟨.bool, []⟩),
  (12, ⟨.bool, []⟩),
  (13, ⟨.int .i64, [.row e_siiii, .row e_sib]⟩),
  (14, ⟨.int .i64, [.row e_siiii, .row e_sib]⟩),
  (15, ⟨.int .i64, []⟩),
  (16, ⟨.tup (.cons (.agg (.cons (.own e_siiii) (.one (.own e_sib)))) (.one (.agg (.cons .str (.cons (.int .i64) (.one .bool)))))), []⟩),
  (17, ⟨.own e_s, []⟩),
  (18, ⟨.bool, []⟩),
  (19, ⟨.own e_s, []⟩),
  (20, ⟨.int .i64, []⟩),
  (21, ⟨.int .i64, []⟩),
  (22, ⟨.int .i64, []⟩),
  (23, ⟨.int .i64, []⟩),
  (24, ⟨.bool, []⟩),
  (25, ⟨.str, []⟩),
  (26, ⟨.own e_siiii, []⟩),
  (27, ⟨.own e_sib, []⟩),
  (28, ⟨.bool, []⟩),
  (29, ⟨.str, []⟩),
  (30, ⟨.own e_sib, [.dead, .box (.cons .str (.cons (.int .i64) (.one .bool)))]⟩),
  (31, ⟨.own e_sib, []⟩),
  (32, ⟨.bool, [.box (.cons .str (.cons (.int .i64) (.one .bool)))]⟩),
  (33, ⟨.tup .nil, [.row e_sib]⟩),
  (34, ⟨.int .i64, []⟩),
  (35, ⟨.int .i64, []⟩),
  (36, ⟨.own e_siiii, []⟩),
  (37, ⟨.bool, []⟩),
  (38, ⟨.bool, []⟩),
  (39, ⟨.int .i64, [.row e_siiii]⟩),
  (40, ⟨.int .i64, [.row e_sib]⟩),
  (41, ⟨.int .i64, []⟩),
  (42, ⟨.ptr (.cons (.rc 0 e_y) (.cons (.int .i64) (.cons (.int .u64) (.one (.int .i64))))), []⟩),
  (43, ⟨.agg (.cons (.own e_siiii) (.one (.own e_sib))), [.box (.cons (.rc 0 e_y) (.cons (.int .i64) (.cons (.int .u64) (.one (.int .i64)))))]⟩),
  (44, ⟨.str, [.box (.cons (.rc 0 e_y) (.cons (.int .i64) (.cons (.int .u64) (.one (.int .i64)))))]⟩),
  (45, ⟨.int .i64, [.box (.cons (.rc 0 e_y) (.cons (.int .i64) (.cons (.int .u64) (.one (.int .i64)))))]⟩),
  (46, ⟨.bool, [.box (.cons (.rc 0 e_y) (.cons (.int .i64) (.cons (.int .u64) (.one (.int .i64)))))]⟩),
  (47, ⟨.tup .nil, [.row e_sib]⟩),
  (48, ⟨.int .i64, []⟩),
  (49, ⟨.int .i64, []⟩),
  (50, ⟨.bool, []⟩),
  (51, ⟨.bool, []⟩),
  (52, ⟨.bool, []⟩),
  (53, ⟨.bool, []⟩),
  (54, ⟨.agg (.cons (.own e_siiii) (.one (.own e_sib))), [.dead]⟩),
  (55, ⟨.int .i64, []⟩),
  (56, ⟨.own e_siiii, [.dead]⟩),
  (57, ⟨.bool, []⟩),
  (58, ⟨.agg (.cons .str (.cons (.int .i64) (.cons (.int .i64) (.cons (.int .i64) (.one (.int .i64)))))), []⟩),
  (61, ⟨.int .i64, [.box (.cons .str (.cons (.int .i64) (.one .bool)))]⟩),
  (64, ⟨.int .i64, []⟩),
  (65, ⟨.bool, []⟩),
  (66, ⟨.bool, []⟩),
  (67, ⟨.str, []⟩),
  (68, ⟨.int .i64, []⟩),
  (69, ⟨.int .i64, []⟩),
  (70, ⟨.agg (.cons (.own e_siiii) (.one (.own e_sib))), [.box (.cons (.rc 0 e_y) (.cons (.int .i64) (.cons (.int .u64) (.one (.int .i64)))))]⟩),
  (71, ⟨.tup .nil, [.row e_sib]⟩),
  (72, ⟨.bool, []⟩),
  (73, ⟨.own e_siiii, [.dead]⟩),
  (74, ⟨.int .i64, []⟩),
  (75, ⟨.int .i64, []⟩),
  (77, ⟨.tup .nil, [.row e_sib]⟩),
  (87, ⟨.int .i64, []⟩),
  (88, ⟨.str, [.box (.cons (.rc 0 e_y) (.cons (.int .i64) (.cons (.int .u64) (.one (.int .i64)))))]⟩),
  (89, ⟨.agg (.cons (.own e_siiii) (.one (.own e_sib))), []⟩),
  (90, ⟨.str, []⟩),
  (91, ⟨.tup .nil, [.row e_sib]⟩),
  (92, ⟨.int .i64, []⟩),
  (93, ⟨.own e_iiib, []⟩),
  (94, ⟨.tup (.cons (.int .i64) (.cons (.int .i64) (.one .bool))), []⟩),
  (101, ⟨.str, []⟩),
  (102, ⟨.str, [.box (.cons (.rc 0 e_y) (.cons (.int .i64) (.cons (.int .u64) (.one (.int .i64)))))]⟩),
  (103, ⟨.str, []⟩),
  (104, ⟨.tup .nil, [.row e_sib]⟩),
  (105, ⟨.int .i64, []⟩),
  (106, ⟨.int .i64, []⟩),
  (107, ⟨.int .i64, []⟩),
  (108, ⟨.tup (.cons (.int .i32) (.one (.int .i64))), []⟩),
  (109, ⟨.bool, []⟩),
  (111, ⟨.tup .nil, [.row e_sib]⟩),
  (112, ⟨.int .i64, []⟩),
  (114, ⟨.int .i64, []⟩),
  (115, ⟨.int .i64, []⟩),
  (116, ⟨.int .i64, []⟩),
  (117, ⟨.int .i64, []⟩),
  (118, ⟨.int .i64, []⟩),
  (119, ⟨.tup (.cons (.int .u32) (.one (.int .u32))), []⟩)]
def lendT : List (Nat × List Bool) := [(13, [true, false]), (14, [true, false]), (30, [true, false]), (33, [true, false]), (39, [true, false]), (40, [true, false]), (43, [true]), (44, [true, false]), (45, [true, false]), (46, [true, false]), (47, [true, false]), (54, [false, true]), (56, [true, false]), (70, [true]), (71, [true, false, false]), (73, [true, false]), (77, [true, false, false, false]), (88, [true]), (91, [true, false, false, false, false]), (102, [true, false, false]), (104, [true, false, false, false, false]), (111, [true, false, false, false, false])]
def loopT : List (Nat × List (Nat × Hint)) := [(4, [(12, { live := [4, 5, 6, 7, 8, 9, 10] })]),
  (7, [(6, { live := [2, 3, 4, 5, 6, 7] })]),
  (17, [(7, { live := [1, 2, 8, 19, 20, 21] })]),
  (18, [(4, { live := [0, 1, 5] })]),
  (19, [(6, { live := [1, 2, 3, 7, 8, 9] }), (13, { live := [1, 2, 3, 7, 8, 9, 10, 11] })]),
  (21, [(5, { live := [0, 1, 5] })]),
  (22, [(5, { live := [0, 1, 5] })]),
  (23, [(8, { live := [1, 3, 4, 5] }), (13, { live := [1, 3, 6] })]),
  (25, [(3, { live := [0, 3, 4] })]),
  (26, [(3, { live := [0, 3, 4] })]),
  (27, [(3, { live := [0, 3, 4] })]),
  (28, [(2, { live := [0, 6, 7] })]),
  (29, [(3, { live := [3, 7, 8, 9] })]),
  (30, [(5, { live := [0, 1, 5, 6] })]),
  (37, [(4, { live := [0, 1, 5] })]),
  (38, [(4, { live := [0, 1, 5] })]),
  (39, [(2, { live := [0, 1, 5] })]),
  (40, [(2, { live := [0, 1, 5] })]),
  (42, [(3, { live := [0, 3, 4] })]),
  (52, [(2, { live := [0, 1, 7, 8, 9] })]),
  (53, [(4, { live := [0, 1, 12, 13] })]),
  (57, [(4, { live := [0, 3] })]),
  (61, [(2, { live := [0, 1, 7, 8] })]),
  (67, [(4, { live := [0, 3] })]),
  (68, [(2, { live := [0, 1, 5] })]),
  (69, [(2, { live := [0, 1, 5] })]),
  (70, [(5, { live := [0, 2, 3, 4, 5, 6] }), (12, { live := [2, 4, 7] })]),
  (71, [(2, { live := [0, 1, 2, 6, 7, 8] }), (7, { live := [0, 1, 2, 6] }), (9, { live := [0, 1, 2, 6, 7, 8] })]),
  (73, [(7, { live := [0, 1, 5, 6, 7, 8] })]),
  (74, [(3, { live := [0, 3, 4] })]),
  (75, [(4, { live := [0, 3, 4, 5] })]),
  (77, [(1, { live := [0, 1, 2, 3, 8] }), (4, { live := [0, 1, 2, 3, 8, 9] })]),
  (88, [(3, { live := [0, 3, 4] })]),
  (91, [(3, { live := [0, 1, 4, 10, 11] }), (9, { live := [0, 10, 13] }), (15, { live := [0, 2, 4, 14, 15] }), (21, { live := [0, 14, 17] }), (33, { live := [0, 1, 2, 3, 4, 18, 19, 20, 21, 22] })]),
  (92, [(6, { live := [0, 1, 5] })]),
  (93, [(3, { live := [0, 3, 4] })]),
  (94, [(19, { live := [0, 1, 8, 9, 10] })]),
  (102, [(2, { live := [1, 2, 7] })]),
  (103, [(4, { live := [0, 3] })]),
  (104, [(2, { live := [0, 2, 4, 10, 11] })]),
  (105, [(2, { live := [2, 4] })]),
  (111, [(1, { live := [0, 1, 2, 3, 10] })]),
  (112, [(15, { live := [0, 1, 5, 6, 7, 8, 9, 10] })]),
  (117, [(5, { live := [0, 1, 5, 6, 7, 8, 9] }), (11, { live := [0, 1, 5, 6, 7, 8, 10] })]),
  (119, [(3, { live := [0, 4, 5] }), (8, { live := [4, 6, 7, 8] })])]
def joinT : List (Nat × List (Nat × Hint)) := [(3, [(19, { live := [2, 3, 6, 8] })]),
  (7, [(11, { live := [2, 3, 4, 5, 6, 7] }), (15, { live := [2, 4, 5] })]),
  (10, [(3, { live := [2, 3, 4] })]),
  (43, [(4, { live := [0, 2, 3, 16] }), (17, { live := [2, 3] })]),
  (45, [(7, { live := [0, 1, 5] })]),
  (91, [(41, { live := [0, 1, 3, 4, 18, 20, 24] }), (43, { live := [0, 3, 4, 18, 24] })]),
  (94, [(16, { live := [0, 1, 8, 9] })]),
  (101, [(3, { live := [0] })]),
  (112, [(10, { live := [0, 1, 5] }), (21, { live := [0, 1, 5, 6, 7, 8, 9, 10] }), (23, { live := [0, 1, 5, 6, 7, 8, 9, 10] }), (26, { live := [0, 1, 5, 6, 7, 8, 9, 10, 107] })])]
noncomputable def E : Env := { P := Go.Proofs.Tryd.prog, sig := fun f => lookN ⟨.bool, []⟩ f sigT, lend := fun f => lookN [] f lendT, loopHint := fun f k => lookT f k loopT, joinHint := fun f k => lookT f k joinT, over := fun f => memb f [31, 33, 36, 108], bld := fun f => lookN 0 f [(59, 1), (60, 3)], isB := fun t => Nat.beq t 91 }
def bs (l : List Nat) : ByteArray := ⟨⟨l.map UInt8.ofNat⟩⟩
def ext : Cf E := fun f vs os =>
  if h : f = 31 then h ▸ (xClone e_sib 32 vs os : Option (E.sig 31).T) else
  if h : f = 33 then h ▸ (xSortF e_sib 34 (fun x y => Lib.compareBytes x.1.data.toList y.1.data.toList) vs os : Option (E.sig 33).T) else
  if h : f = 36 then h ▸ (xClone e_siiii 48 vs os : Option (E.sig 36).T) else
  if h : f = 106 then h ▸ (xCountString vs os : Option (E.sig 106).T) else
  if h : f = 108 then h ▸ (xDecodeRune vs os : Option (E.sig 108).T) else
  if h : f = 118 then h ▸ (xIndexByteString vs os : Option (E.sig 118).T) else
  none
def laws_FnExactPutMark (fu : Nat) (aR : List T_siiii) (aR_1 : List T_sib) (aM : ByteArray) (aM_1 : Int) (aM_2 : Bool) : Option (Bool) := evF E ext fu 3 [.agg [.ro e_siiii aR, .ro e_sib aR_1], .agg [.str aM, .int .i64 aM_1, .bool aM_2]] []
def laws_FnMarked (fu : Nat) (code : List T_y) : Option (Bool) := evF E ext fu 4 [.rc 0 e_y code] []
def laws_szRope (fu : Nat) (a : List T_siiii) (a_1 : List T_sib) (left : Int) : Option (Int) := evF E ext fu 5 [.agg [.ro e_siiii a, .ro e_sib a_1], .int .i64 left] []
def laws_szMark (fu : Nat) (a : ByteArray) (a_1 : Int) (a_2 : Bool) (left : Int) : Option (Int) := evF E ext fu 6 [.agg [.str a, .int .i64 a_1, .bool a_2], .int .i64 left] []
def laws_toRope (fu : Nat) (a : List T_siiii) (a_1 : List T_sib) : Option (List T_siiii × List T_sib) := evF E ext fu 8 [.agg [.ro e_siiii a, .ro e_sib a_1]] []
def laws_toMark (fu : Nat) (a : ByteArray) (a_1 : Int) (a_2 : Bool) : Option (ByteArray × Int × Bool) := evF E ext fu 9 [.agg [.str a, .int .i64 a_1, .bool a_2]] []
def spec_PutMark (fu : Nat) (r : List T_siiii) (r_1 : List T_sib) (m : ByteArray) (m_1 : Int) (m_2 : Bool) : Option (Int × List T_siiii × List T_sib) := evF E ext fu 7 [.agg [.ro e_siiii r, .ro e_sib r_1], .agg [.str m, .int .i64 m_1, .bool m_2]] []
def impl_PutMark (fu : Nat) (r : List T_siiii) (r_1 : List T_sib) (m : ByteArray) (m_1 : Int) (m_2 : Bool) : Option (Int × List T_siiii × List T_sib) := evF E ext fu 10 [.agg [.ro e_siiii r, .ro e_sib r_1], .agg [.str m, .int .i64 m_1, .bool m_2]] []
def laws_eqRopeOut (fu : Nat) (a : Int) (a_1 : List T_siiii) (a_2 : List T_sib) (b : Int) (b_1 : List T_siiii) (b_2 : List T_sib) : Option (Bool) := evF E ext fu 11 [.agg [.int .i64 a, .ro e_siiii a_1, .ro e_sib a_2], .agg [.int .i64 b, .ro e_siiii b_1, .ro e_sib b_2]] []
def laws_eqRope (fu : Nat) (a : List T_siiii) (a_1 : List T_sib) (b : List T_siiii) (b_1 : List T_sib) : Option (Bool) := evF E ext fu 12 [.agg [.ro e_siiii a, .ro e_sib a_1], .agg [.ro e_siiii b, .ro e_sib b_1]] []
def laws_markRope (fu : Nat) (k : Int) (a : List T_siiii) (a_1 : List T_sib) : Option (Int × (List T_siiii × List T_sib)) := evF E ext fu 13 [.agg [.own 0, .own 1], .int .i64 k] [.row .unk e_siiii a, .row .unk e_sib a_1]
def laws_FnExactPutMark_J19 (fu : Nat) (aR : List T_siiii) (aR_1 : List T_sib) (aM : ByteArray) (aM_1 : Int) (aM_2 : Bool) (w0 : Int) (x : List T_siiii) (x_1 : List T_sib) (g0 : Int) (x_2 : List T_siiii) (x_3 : List T_sib) : Option (Bool) := joinAt E ext 3 0 fu [true, true, true, true, true, true, true, true, true, true, true, true, true, true] [] (tabTm [2, 3, 6, 8] [.box 500 0, .box 501 0, .box 502 0, .box 505 0]) (tabOb [(500, some (.box [.ro e_siiii aR, .ro e_sib aR_1])), (501, some (.box [.str aM, .int .i64 aM_1, .bool aM_2])), (502, some (.box [.int .i64 w0, .own 503, .own 504])), (503, some (.row .unk e_siiii x)), (504, some (.row .unk e_sib x_1)), (505, some (.box [.int .i64 g0, .own 506, .own 507])), (506, some (.row .unk e_siiii x_2)), (507, some (.row .unk e_sib x_3))])
def spec_DrawPutMark (fu : Nat) (code : List T_y) : Option ((List T_siiii × List T_sib) × (ByteArray × Int × Bool)) := evF E ext fu 16 [.rc 0 e_y code] []
def impl_MarksAt (fu : Nat) (r : List T_siiii) (r_1 : List T_sib) (from' : Int) (to : Int) : Option (List T_s) := evF E ext fu 17 [.agg [.ro e_siiii r, .ro e_sib r_1], .int .i64 from', .int .i64 to] []
def laws_FnMarked_L12 (fu fu1 : Nat) (found : Bool) (i : Int) (m : ByteArray) (m_1 : Int) (m_2 : Bool) (o : Int) (x : List T_siiii) (x_1 : List T_sib) (want : Int) (x_2 : List T_siiii) (x_3 : List T_sib) (at' : List T_s) (all : List T_s) : Option (Bool) := loopAt E ext 4 0 fu [true, true, true, true, true, true, true, true, true, false, true, false] [] fu1 (tabTm [4, 5, 6, 7, 8, 9, 10] [.box 500 0, .box 501 0, .box 504 0, .own 507, .own 508, .bool found, .int .i64 i]) (tabOb [(500, some (.box [.str m, .int .i64 m_1, .bool m_2])), (501, some (.box [.int .i64 o, .own 502, .own 503])), (502, some (.row .unk e_siiii x)), (503, some (.row .unk e_sib x_1)), (504, some (.box [.int .i64 want, .own 505, .own 506])), (505, some (.row .unk e_siiii x_2)), (506, some (.row .unk e_sib x_3)), (507, some (.row .unk e_s at')), (508, some (.row .unk e_s all))])
def laws_szRopeNodeS (fu : Nat) (a : List T_siiii) (left : Int) : Option (Int) := evF E ext fu 21 [.ro e_siiii a, .int .i64 left] []
def laws_szMarkS (fu : Nat) (a : List T_sib) (left : Int) : Option (Int) := evF E ext fu 22 [.ro e_sib a, .int .i64 left] []
def laws_toRopeNodeS (fu : Nat) (a : List T_siiii) : Option (List T_siiii) := evF E ext fu 26 [.ro e_siiii a] []
def laws_toMarkS (fu : Nat) (a : List T_sib) : Option (List T_sib) := evF E ext fu 27 [.ro e_sib a] []
def spec_RopeFault (fu : Nat) (r : List T_siiii) (r_1 : List T_sib) : Option (Int) := evF E ext fu 23 [.agg [.ro e_siiii r, .ro e_sib r_1]] []
def spec_l20Text (fu : Nat) (l : List T_siiii) : Option (ByteArray) := evF E ext fu 25 [.ro e_siiii l] []
def spec_l20Mark (fu : Nat) (m : ByteArray) (m_1 : Int) (m_2 : Bool) (size : Int) : Option (Bool) := evF E ext fu 24 [.agg [.str m, .int .i64 m_1, .bool m_2], .int .i64 size] []
def spec_PutMark_L6 (fu fu1 : Nat) (put : Bool) (i : Int) (r : List T_siiii) (r_1 : List T_sib) (m : ByteArray) (m_1 : Int) (m_2 : Bool) (x : Int) (marks : List T_sib) : Option (Int × List T_siiii × List T_sib) := loopAt E ext 7 0 fu [true, true, true, true, false, true, false] [] fu1 (tabTm [2, 3, 4, 5, 6, 7] [.box 500 0, .box 501 0, .box 502 0, .own 503, .bool put, .int .i64 i]) (tabOb [(500, some (.box [.ro e_siiii r, .ro e_sib r_1])), (501, some (.box [.str m, .int .i64 m_1, .bool m_2])), (502, some (.box [.int .i64 x, .nil, .nil])), (503, some (.row (.is false) e_sib marks))])
def impl_RopeFault (fu : Nat) (r : List T_siiii) (r_1 : List T_sib) : Option (Int) := evF E ext fu 20 [.agg [.ro e_siiii r, .ro e_sib r_1]] []
def impl_isName (fu : Nat) (s : ByteArray) : Option (Bool) := evF E ext fu 28 [.str s] []
def impl_ropeText (fu : Nat) (r : List T_siiii) (r_1 : List T_sib) : Option (ByteArray) := evF E ext fu 29 [.agg [.ro e_siiii r, .ro e_sib r_1]] []
def impl_PutMark_J3 (fu : Nat) (r : List T_siiii) (r_1 : List T_sib) (m : ByteArray) (m_1 : Int) (m_2 : Bool) (x : Int) : Option (Int × List T_siiii × List T_sib) := joinAt E ext 10 0 fu [true, true] [] (tabTm [2, 3, 4] [.box 500 0, .box 501 0, .box 502 0]) (tabOb [(500, some (.box [.ro e_siiii r, .ro e_sib r_1])), (501, some (.box [.str m, .int .i64 m_1, .bool m_2])), (502, some (.box [.int .i64 x, .nil, .nil]))])
def laws_eqRopeNodeS (fu : Nat) (a : List T_siiii) (b : List T_siiii) : Option (Bool) := evF E ext fu 37 [.ro e_siiii a, .ro e_siiii b] []
def laws_eqMarkS (fu : Nat) (a : List T_sib) (b : List T_sib) : Option (Bool) := evF E ext fu 38 [.ro e_sib a, .ro e_sib b] []
def laws_markRopeNodeS (fu : Nat) (k : Int) (a : List T_siiii) : Option (Int × List T_siiii) := evF E ext fu 39 [.own 0, .int .i64 k] [.row .unk e_siiii a]
def laws_markMarkS (fu : Nat) (k : Int) (a : List T_sib) : Option (Int × List T_sib) := evF E ext fu 40 [.own 0, .int .i64 k] [.row .unk e_sib a]
def laws_markRopeOut (fu : Nat) (a : Int) (k : Int) (a_1 : List T_siiii) (a_2 : List T_sib) : Option (Int × (List T_siiii × List T_sib)) := evF E ext fu 14 [.agg [.int .i64 a, .own 0, .own 1], .int .i64 k] [.row .unk e_siiii a_1, .row .unk e_sib a_2]
def laws_heldRopeOut (fu : Nat) (a : Int) (a_1 : List T_siiii) (a_2 : List T_sib) (k : Int) : Option (Int) := evF E ext fu 15 [.agg [.int .i64 a, .ro e_siiii a_1, .ro e_sib a_2], .int .i64 k] []
def spec_l01Source (fu : Nat) (code : List T_y) : Option (List T_y × Int × Int × Int) := evF E ext fu 42 [.rc 0 e_y code] []
def spec_l01Src_anyRope (fu : Nat) (s : List T_y) (s_1 : Int) (s_2 : Int) (s_3 : Int) : Option ((List T_siiii × List T_sib) × (List T_y × Int × Int × Int)) := evF E ext fu 43 [.box 0 0] [.box [.rc 0 e_y s, .int .i64 s_1, .int .u64 s_2, .int .i64 s_3]]
def spec_l01Src_pick (fu : Nat) (l : List T_s) (s : List T_y) (s_1 : Int) (s_2 : Int) (s_3 : Int) : Option (ByteArray × (List T_y × Int × Int × Int)) := evF E ext fu 44 [.box 0 0, .ro e_s l] [.box [.rc 0 e_y s, .int .i64 s_1, .int .u64 s_2, .int .i64 s_3]]
def spec_l01Src_n (fu : Nat) (most : Int) (s : List T_y) (s_1 : Int) (s_2 : Int) (s_3 : Int) : Option (Int × (List T_y × Int × Int × Int)) := evF E ext fu 45 [.box 0 0, .int .i64 most] [.box [.rc 0 e_y s, .int .i64 s_1, .int .u64 s_2, .int .i64 s_3]]
def spec_l01Src_one (fu : Nat) (of : Int) (s : List T_y) (s_1 : Int) (s_2 : Int) (s_3 : Int) : Option (Bool × (List T_y × Int × Int × Int)) := evF E ext fu 46 [.box 0 0, .int .i64 of] [.box [.rc 0 e_y s, .int .i64 s_1, .int .u64 s_2, .int .i64 s_3]]
def slices_Clone_Mark_Mark (fu : Nat) (s : List T_sib) : Option (List T_sib) := evF E ext fu 31 [.ro e_sib s] []
def slices_SortStableFunc_Mark_Mark (fu : Nat) (x : List T_sib) : Option (Unit × List T_sib) := evF E ext fu 47 [.own 0, .fn 48 [] []] [.row .unk e_sib x]
def impl_MarksAt_L7 (fu fu1 : Nat) (from' : Int) (to : Int) (x : Int) (x_1 : Int) (x_2 : List T_sib) : Option (List T_s) := loopAt E ext 17 0 fu [true, true, true, true, true, false, true, false] [] fu1 (tabTm [1, 2, 8, 19, 20, 21] [.int .i64 from', .int .i64 to, .nil, .own 500, .int .i64 x, .int .i64 x_1]) (tabOb [(500, some (.row .unk e_sib x_2))])
def spec_MarksAt (fu : Nat) (r : List T_siiii) (r_1 : List T_sib) (from' : Int) (to : Int) : Option (List T_s) := evF E ext fu 19 [.agg [.ro e_siiii r, .ro e_sib r_1], .int .i64 from', .int .i64 to] []
def laws_lwTexts (fu : Nat) (a : List T_s) (b : List T_s) : Option (Bool) := evF E ext fu 18 [.ro e_s a, .ro e_s b] []
def laws_szRopeNodeS_L5 (fu fu1 : Nat) (a : List T_siiii) (left : Int) (i : Int) : Option (Int) := loopAt E ext 21 0 fu [true, true, true, false, true, false] [] fu1 (tabTm [0, 1, 5] [.ro e_siiii a, .int .i64 left, .int .i64 i]) (tabOb [])
def laws_szMarkS_L5 (fu fu1 : Nat) (a : List T_sib) (left : Int) (i : Int) : Option (Int) := loopAt E ext 22 0 fu [true, true, true, false, true, false] [] fu1 (tabTm [0, 1, 5] [.ro e_sib a, .int .i64 left, .int .i64 i]) (tabOb [])
def laws_toRopeNodeS_L3 (fu fu1 : Nat) (a : List T_siiii) (i : Int) (out : List T_siiii) : Option (List T_siiii) := loopAt E ext 26 0 fu [true, true, false, true, false] [] fu1 (tabTm [0, 3, 4] [.ro e_siiii a, .own 500, .int .i64 i]) (tabOb [(500, some (.row (.is false) e_siiii out))])
def laws_toMarkS_L3 (fu fu1 : Nat) (a : List T_sib) (i : Int) (out : List T_sib) : Option (List T_sib) := loopAt E ext 27 0 fu [true, true, false, true, false] [] fu1 (tabTm [0, 3, 4] [.ro e_sib a, .own 500, .int .i64 i]) (tabOb [(500, some (.row (.is false) e_sib out))])
def spec_l20Build (fu : Nat) (t : ByteArray) (l : List T_siiii) : Option (List T_siiii × Unit) := evF E ext fu 56 [.own 0, .str t] [.row (.is false) e_siiii l]
def spec_RopeFault_L8 (fu fu1 : Nat) (t : ByteArray) (i : Int) (r : List T_siiii) (r_1 : List T_sib) (own : List T_siiii) : Option (Int) := loopAt E ext 23 0 fu [true, true, true, true, true, false, true, false] [] fu1 (tabTm [1, 3, 4, 5] [.box 500 0, .str t, .own 501, .int .i64 i]) (tabOb [(500, some (.box [.ro e_siiii r, .ro e_sib r_1])), (501, some (.row .unk e_siiii own))])
def spec_l20Text_L3 (fu fu1 : Nat) (l : List T_siiii) (i : Int) (out : List T_y) : Option (ByteArray) := loopAt E ext 25 0 fu [true, true, false, true, false] [] fu1 (tabTm [0, 3, 4] [.ro e_siiii l, .own 500, .int .i64 i]) (tabOb [(500, some (.row (.is false) e_y out))])
def spec_l17IsName (fu : Nat) (t : ByteArray) : Option (Bool) := evF E ext fu 57 [.str t] []
def spec_PutMark_J11 (fu fu1 : Nat) (put : Bool) (i : Int) (r : List T_siiii) (r_1 : List T_sib) (m : ByteArray) (m_1 : Int) (m_2 : Bool) (x : Int) (marks : List T_sib) : Option (Int × List T_siiii × List T_sib) := joinAt E ext 7 0 fu [true, true, true, true, false, true, false, false, true, false, false, true] [fu1] (tabTm [2, 3, 4, 5, 6, 7] [.box 500 0, .box 501 0, .box 502 0, .own 503, .bool put, .int .i64 i]) (tabOb [(500, some (.box [.ro e_siiii r, .ro e_sib r_1])), (501, some (.box [.str m, .int .i64 m_1, .bool m_2])), (502, some (.box [.int .i64 x, .nil, .nil])), (503, some (.row (.is false) e_sib marks))])
def spec_PutMark_J15 (fu : Nat) (r : List T_siiii) (r_1 : List T_sib) (x : Int) (marks : List T_sib) : Option (Int × List T_siiii × List T_sib) := joinAt E ext 7 0 fu [true, true, true, true, true, true] [] (tabTm [2, 4, 5] [.box 500 0, .box 501 0, .own 502]) (tabOb [(500, some (.box [.ro e_siiii r, .ro e_sib r_1])), (501, some (.box [.int .i64 x, .nil, .nil])), (502, some (.row (.is false) e_sib marks))])
def impl_long (fu : Nat) (s : ByteArray) : Option (Bool) := evF E ext fu 51 [.str s] []
def impl_marksRight (fu : Nat) (l : List T_sib) (n : Int) : Option (Bool) := evF E ext fu 52 [.ro e_sib l, .int .i64 n] []
def impl_ropeOf (fu : Nat) (s : ByteArray) (marks : List T_sib) : Option ((List T_siiii × List T_sib) × Unit) := evF E ext fu 54 [.str s, .own 0] [.row (.is true) e_sib marks]
def slices_Equal_RopeNode_RopeNode (fu : Nat) (s1 : List T_siiii) (s2 : List T_siiii) : Option (Bool) := evF E ext fu 53 [.ro e_siiii s1, .ro e_siiii s2] []
def impl_isName_L2 (fu fu1 : Nat) (s : ByteArray) (x : Int) (x_1 : Int) : Option (Bool) := loopAt E ext 28 0 fu [true, false, true, false] [] fu1 (tabTm [0, 6, 7] [.str s, .int .i64 x, .int .i64 x_1]) (tabOb [])
def impl_ropeText_L3 (fu fu1 : Nat) (x : List T_siiii) (x_1 : Int) (x_2 : Int) (b : ByteArray) : Option (ByteArray) := loopAt E ext 29 0 fu [true, true, false, true, false] [] fu1 (tabTm [3, 7, 8, 9] [.box 500 0, .ro e_siiii x, .int .i64 x_1, .int .i64 x_2]) (tabOb [(500, some (.bld b))])
def slices_DeleteFunc_Mark_Mark (fu : Nat) (s : List T_sib) (x : ByteArray) (x_1 : Int) (x_2 : Bool) : Option (List T_sib × (Unit × (ByteArray × Int × Bool))) := evF E ext fu 30 [.own 0, .fn 32 [] [.box 1 0]] [.row .unk e_sib s, .box [.str x, .int .i64 x_1, .bool x_2]]
def slices_SortFunc_Mark_Mark (fu : Nat) (x : List T_sib) : Option (Unit × List T_sib) := evF E ext fu 33 [.own 0, .fn 34 [] []] [.row .unk e_sib x]
def slices_Clone_RopeNode_RopeNode (fu : Nat) (s : List T_siiii) : Option (List T_siiii) := evF E ext fu 36 [.ro e_siiii s] []
def laws_eqRopeNodeS_L4 (fu fu1 : Nat) (a : List T_siiii) (b : List T_siiii) (i : Int) : Option (Bool) := loopAt E ext 37 0 fu [true, true, false, true, false] [] fu1 (tabTm [0, 1, 5] [.ro e_siiii a, .ro e_siiii b, .int .i64 i]) (tabOb [])
def laws_eqMarkS_L4 (fu fu1 : Nat) (a : List T_sib) (b : List T_sib) (i : Int) : Option (Bool) := loopAt E ext 38 0 fu [true, true, false, true, false] [] fu1 (tabTm [0, 1, 5] [.ro e_sib a, .ro e_sib b, .int .i64 i]) (tabOb [])
def laws_markRopeNodeS_L2 (fu fu1 : Nat) (k : Int) (i : Int) (a : List T_siiii) : Option (Int × List T_siiii) := loopAt E ext 39 1 fu [true, false, true, false] [] fu1 (tabTm [0, 1, 5] [.own 0, .int .i64 k, .int .i64 i]) (tabOb [(0, some (.row .unk e_siiii a))])
def laws_markMarkS_L2 (fu fu1 : Nat) (k : Int) (i : Int) (a : List T_sib) : Option (Int × List T_sib) := loopAt E ext 40 1 fu [true, false, true, false] [] fu1 (tabTm [0, 1, 5] [.own 0, .int .i64 k, .int .i64 i]) (tabOb [(0, some (.row .unk e_sib a))])
def laws_heldRope (fu : Nat) (a : List T_siiii) (a_1 : List T_sib) (k : Int) : Option (Int) := evF E ext fu 41 [.agg [.ro e_siiii a, .ro e_sib a_1], .int .i64 k] []
def spec_l01Source_L3 (fu fu1 : Nat) (code : List T_y) (i : Int) (s : List T_y) (s_1 : Int) (s_2 : Int) (s_3 : Int) : Option (List T_y × Int × Int × Int) := loopAt E ext 42 0 fu [true, true, false, true, false] [] fu1 (tabTm [0, 3, 4] [.rc 0 e_y code, .box 500 0, .int .i64 i]) (tabOb [(500, some (.box [.rc 0 e_y s, .int .i64 s_1, .int .u64 s_2, .int .i64 s_3]))])
def spec_l01Src_rope (fu : Nat) (s : List T_y) (s_1 : Int) (s_2 : Int) (s_3 : Int) : Option ((List T_siiii × List T_sib) × (List T_y × Int × Int × Int)) := evF E ext fu 70 [.box 0 0] [.box [.rc 0 e_y s, .int .i64 s_1, .int .u64 s_2, .int .i64 s_3]]
def spec_l01Src_anyRope_J4 (fu : Nat) (x : Bool) (s : List T_y) (s_1 : Int) (s_2 : Int) (s_3 : Int) (x_1 : List T_siiii) (x_2 : List T_sib) : Option ((List T_siiii × List T_sib) × (List T_y × Int × Int × Int)) := joinAt E ext 43 1 fu [true, true, false, true, false, true] [] (tabTm [0, 2, 3, 16] [.box 0 0, .box 500 0, .box 501 0, .bool x]) (tabOb [(0, some (.box [.rc 0 e_y s, .int .i64 s_1, .int .u64 s_2, .int .i64 s_3])), (500, some (.box [.nil, .nil])), (501, some (.box [.own 502, .own 503])), (502, some (.row .unk e_siiii x_1)), (503, some (.row .unk e_sib x_2))])
def spec_l01Src_anyRope_J17 (fu : Nat) (x : List T_y) (x_1 : Int) (x_2 : Int) (x_3 : Int) (x_4 : List T_siiii) (x_5 : List T_sib) : Option ((List T_siiii × List T_sib) × (List T_y × Int × Int × Int)) := joinAt E ext 43 1 fu [true, true, true] [] (tabTm [2, 3] [.box 500 0, .box 501 0]) (tabOb [(0, some (.box [.rc 0 e_y x, .int .i64 x_1, .int .u64 x_2, .int .i64 x_3])), (500, some (.box [.nil, .nil])), (501, some (.box [.own 502, .own 503])), (502, some (.row .unk e_siiii x_4)), (503, some (.row .unk e_sib x_5))])
def spec_l01Src_n_J7 (fu : Nat) (most : Int) (v : Int) (s : List T_y) (s_1 : Int) (s_2 : Int) (s_3 : Int) : Option (Int × (List T_y × Int × Int × Int)) := joinAt E ext 45 1 fu [true, true, true, true] [] (tabTm [0, 1, 5] [.box 0 0, .int .i64 most, .int .u64 v]) (tabOb [(0, some (.box [.rc 0 e_y s, .int .i64 s_1, .int .u64 s_2, .int .i64 s_3]))])
def slices_stableCmpFunc_Mark (fu : Nat) (n : Int) (data : List T_sib) : Option (Unit × List T_sib) := evF E ext fu 71 [.own 0, .int .i64 n, .fn 48 [] []] [.row .unk e_sib data]
def impl_in (fu : Nat) (p : Int) (a : Int) (b : Int) : Option (Bool) := evF E ext fu 50 [.int .i64 p, .int .i64 a, .int .i64 b] []
def impl_MarksAt_L7'1 (fu fu1 : Nat) (from' : Int) (to : Int) (x : Int) (x_1 : Int) (out : List T_s) (x_2 : List T_sib) : Option (List T_s) := loopAt E ext 17 0 fu [true, true, true, true, true, false, true, false] [] fu1 (tabTm [1, 2, 8, 19, 20, 21] [.int .i64 from', .int .i64 to, .own 500, .own 501, .int .i64 x, .int .i64 x_1]) (tabOb [(500, some (.row .unk e_s out)), (501, some (.row .unk e_sib x_2))])
def spec_MarksAt_L6 (fu fu1 : Nat) (from' : Int) (to : Int) (i : Int) (r : List T_siiii) (r_1 : List T_sib) (out : List T_s) (at' : List T_i) : Option (List T_s) := loopAt E ext 19 0 fu [true, true, true, true, false, true, false] [] fu1 (tabTm [1, 2, 3, 7, 8, 9] [.int .i64 from', .int .i64 to, .box 500 0, .own 501, .own 502, .int .i64 i]) (tabOb [(500, some (.box [.ro e_siiii r, .ro e_sib r_1])), (501, some (.row (.is false) e_s out)), (502, some (.row (.is false) e_i at'))])
def laws_lwTexts_L4 (fu fu1 : Nat) (a : List T_s) (b : List T_s) (i : Int) : Option (Bool) := loopAt E ext 18 0 fu [true, true, false, true, false] [] fu1 (tabTm [0, 1, 5] [.ro e_s a, .ro e_s b, .int .i64 i]) (tabOb [])
def laws_szRopeNode (fu : Nat) (a : ByteArray) (a_1 : Int) (a_2 : Int) (a_3 : Int) (a_4 : Int) (left : Int) : Option (Int) := evF E ext fu 55 [.agg [.str a, .int .i64 a_1, .int .i64 a_2, .int .i64 a_3, .int .i64 a_4], .int .i64 left] []
def laws_toRopeNode (fu : Nat) (a : ByteArray) (a_1 : Int) (a_2 : Int) (a_3 : Int) (a_4 : Int) : Option (ByteArray × Int × Int × Int × Int) := evF E ext fu 58 [.agg [.str a, .int .i64 a_1, .int .i64 a_2, .int .i64 a_3, .int .i64 a_4]] []
def spec_l20Ends (fu : Nat) (t : ByteArray) : Option (Int) := evF E ext fu 74 [.str t] []
def spec_l20Cut (fu : Nat) (t : ByteArray) : Option (Int) := evF E ext fu 75 [.str t] []
def spec_l20Build'1 (fu : Nat) (t : ByteArray) (l : List T_siiii) : Option (List T_siiii × Unit) := evF E ext fu 56 [.own 0, .str t] [.row .unk e_siiii l]
def spec_RopeFault_L13 (fu fu1 : Nat) (t : ByteArray) (i : Int) (r : List T_siiii) (r_1 : List T_sib) : Option (Int) := loopAt E ext 23 0 fu [true, true, true, true, true, true, false, true, false] [] fu1 (tabTm [1, 3, 6] [.box 500 0, .str t, .int .i64 i]) (tabOb [(500, some (.box [.ro e_siiii r, .ro e_sib r_1]))])
def spec_l17IsName_L4 (fu fu1 : Nat) (t : ByteArray) (i : Int) : Option (Bool) := loopAt E ext 57 0 fu [true, true, false, true, false] [] fu1 (tabTm [0, 3] [.str t, .int .i64 i]) (tabOb [])
def impl_marksRight_L2 (fu fu1 : Nat) (l : List T_sib) (n : Int) (x : List T_sib) (x_1 : Int) (x_2 : Int) : Option (Bool) := loopAt E ext 52 0 fu [true, false, true, false] [] fu1 (tabTm [0, 1, 7, 8, 9] [.ro e_sib l, .int .i64 n, .ro e_sib x, .int .i64 x_1, .int .i64 x_2]) (tabOb [])
def impl_ropeTree (fu : Nat) (s : ByteArray) (out : List T_siiii) : Option (List T_siiii × Unit) := evF E ext fu 73 [.own 0, .str s] [.row (.is true) e_siiii out]
def slices_Equal_RopeNode_RopeNode_L4 (fu fu1 : Nat) (s1 : List T_siiii) (s2 : List T_siiii) (x : Int) (x_1 : Int) : Option (Bool) := loopAt E ext 53 0 fu [true, true, false, true, false] [] fu1 (tabTm [0, 1, 12, 13] [.ro e_siiii s1, .ro e_siiii s2, .int .i64 x, .int .i64 x_1]) (tabOb [])
def slices_IndexFunc_Mark_Mark (fu : Nat) (s : List T_sib) (x : ByteArray) (x_1 : Int) (x_2 : Bool) : Option (Int × (ByteArray × Int × Bool)) := evF E ext fu 61 [.ro e_sib s, .fn 32 [] [.box 0 0]] [.box [.str x, .int .i64 x_1, .bool x_2]]
def slices_DeleteFunc_Mark_Mark_L5 (fu fu1 : Nat) (i : Int) (j : Int) (s : List T_sib) (x : ByteArray) (x_1 : Int) (x_2 : Bool) : Option (List T_sib × (Unit × (ByteArray × Int × Bool))) := loopAt E ext 30 2 fu [true, true, true, false, true, false] [] fu1 (tabTm [0, 1, 5, 6] [.own 0, .fn 32 [] [.box 1 0], .int .i64 i, .int .i64 j]) (tabOb [(0, some (.row .unk e_sib s)), (1, some (.box [.str x, .int .i64 x_1, .bool x_2]))])
def laws_eqRopeNode (fu : Nat) (a : ByteArray) (a_1 : Int) (a_2 : Int) (a_3 : Int) (a_4 : Int) (b : ByteArray) (b_1 : Int) (b_2 : Int) (b_3 : Int) (b_4 : Int) : Option (Bool) := evF E ext fu 65 [.agg [.str a, .int .i64 a_1, .int .i64 a_2, .int .i64 a_3, .int .i64 a_4], .agg [.str b, .int .i64 b_1, .int .i64 b_2, .int .i64 b_3, .int .i64 b_4]] []
def laws_eqMark (fu : Nat) (a : ByteArray) (a_1 : Int) (a_2 : Bool) (b : ByteArray) (b_1 : Int) (b_2 : Bool) : Option (Bool) := evF E ext fu 66 [.agg [.str a, .int .i64 a_1, .bool a_2], .agg [.str b, .int .i64 b_1, .bool b_2]] []
def laws_markText (fu : Nat) (k : Int) : Option (ByteArray) := evF E ext fu 67 [.int .i64 k] []
def laws_heldRopeNodeS (fu : Nat) (a : List T_siiii) (k : Int) : Option (Int) := evF E ext fu 68 [.ro e_siiii a, .int .i64 k] []
def laws_heldMarkS (fu : Nat) (a : List T_sib) (k : Int) : Option (Int) := evF E ext fu 69 [.ro e_sib a, .int .i64 k] []
def spec_l01Src_ropeText (fu : Nat) (s : List T_y) (s_1 : Int) (s_2 : Int) (s_3 : Int) : Option (ByteArray × (List T_y × Int × Int × Int)) := evF E ext fu 88 [.box 0 0] [.box [.rc 0 e_y s, .int .i64 s_1, .int .u64 s_2, .int .i64 s_3]]
def spec_RopeOf (fu : Nat) (text : ByteArray) : Option (List T_siiii × List T_sib) := evF E ext fu 89 [.str text] []
def spec_l01Src_rope_L5 (fu fu1 : Nat) (t : ByteArray) (i : Int) (s : List T_y) (s_1 : Int) (s_2 : Int) (s_3 : Int) (x : List T_siiii) (x_1 : List T_sib) (names : List T_s) : Option ((List T_siiii × List T_sib) × (List T_y × Int × Int × Int)) := loopAt E ext 70 1 fu [true, true, true, true, false, true, false] [] fu1 (tabTm [0, 2, 3, 4, 5, 6] [.box 0 0, .box 500 0, .str t, .box 501 0, .own 504, .int .i64 i]) (tabOb [(0, some (.box [.rc 0 e_y s, .int .i64 s_1, .int .u64 s_2, .int .i64 s_3])), (500, some (.box [.nil, .nil])), (501, some (.box [.own 502, .own 503])), (502, some (.row .unk e_siiii x)), (503, some (.row .unk e_sib x_1)), (504, some (.row (.is false) e_s names))])
def spec_l01Src_anyRope_J17'1 (fu : Nat) (x : List T_y) (x_1 : Int) (x_2 : Int) (x_3 : Int) (rHi : Int) (x_4 : List T_siiii) (x_5 : List T_sib) : Option ((List T_siiii × List T_sib) × (List T_y × Int × Int × Int)) := joinAt E ext 43 1 fu [true, true, true] [] (tabTm [2, 3] [.box 500 0, .box 501 0]) (tabOb [(0, some (.box [.rc 0 e_y x, .int .i64 x_1, .int .u64 x_2, .int .i64 x_3])), (500, some (.box [.nil, .nil])), (501, some (.box [.sub 502 0 rHi, .own 503])), (502, some (.row .unk e_siiii x_4)), (503, some (.row .unk e_sib x_5))])
def slices_stableCmpFunc_Mark_L2 (fu fu1 : Nat) (n : Int) (blockSize : Int) (a : Int) (b : Int) (data : List T_sib) : Option (Unit × List T_sib) := loopAt E ext 71 1 fu [true, true, false, false] [] fu1 (tabTm [0, 1, 2, 6, 7, 8] [.own 0, .int .i64 n, .fn 48 [] [], .int .i64 blockSize, .int .i64 a, .int .i64 b]) (tabOb [(0, some (.row .unk e_sib data))])
def spec_MarksAt_L13 (fu fu1 fu2 : Nat) (from' : Int) (to : Int) (i : Int) (k : Int) (r : List T_siiii) (r_1 : List T_sib) (out : List T_s) (at' : List T_i) (m : ByteArray) (m_1 : Int) (m_2 : Bool) : Option (List T_s) := loopAt E ext 19 0 fu [true, true, true, true, false, true, false, false, true, false, false, true, true, true, true, true, false, false] [fu1] fu2 (tabTm [1, 2, 3, 7, 8, 9, 10, 11] [.int .i64 from', .int .i64 to, .box 500 0, .own 501, .own 502, .int .i64 i, .box 503 0, .int .i64 k]) (tabOb [(500, some (.box [.ro e_siiii r, .ro e_sib r_1])), (501, some (.row (.is false) e_s out)), (502, some (.row (.is false) e_i at')), (503, some (.box [.str m, .int .i64 m_1, .bool m_2]))])
def spec_l20Ends_L3 (fu fu1 : Nat) (t : ByteArray) (n : Int) (i : Int) : Option (Int) := loopAt E ext 74 0 fu [true, true, false, true, false] [] fu1 (tabTm [0, 3, 4] [.str t, .int .i64 n, .int .i64 i]) (tabOb [])
def spec_l20Cut_L4 (fu fu1 : Nat) (t : ByteArray) (most : Int) (at' : Int) (i : Int) : Option (Int) := loopAt E ext 75 0 fu [true, true, true, false, true, false] [] fu1 (tabTm [0, 3, 4, 5] [.str t, .int .i64 most, .int .i64 at', .int .i64 i]) (tabOb [])
def strings_Count (fu : Nat) (s : ByteArray) (substr : ByteArray) : Option (Int) := evF E ext fu 92 [.str s, .str substr] []
def impl_ropeTree_L7 (fu fu1 : Nat) (s : ByteArray) (n : Int) (lines : Int) (cut : Int) (i : Int) (out : List T_siiii) : Option (List T_siiii × Unit) := loopAt E ext 73 1 fu [true, true, true, true, true, false, true, false] [] fu1 (tabTm [0, 1, 5, 6, 7, 8] [.own 0, .str s, .int .i64 n, .int .i64 lines, .int .i64 cut, .int .i64 i]) (tabOb [(0, some (.row (.is true) e_siiii out))])
def slices_IndexFunc_Mark_Mark_L2 (fu fu1 : Nat) (s : List T_sib) (x : Int) (x_1 : Int) (x_2 : ByteArray) (x_3 : Int) (x_4 : Bool) : Option (Int × (ByteArray × Int × Bool)) := loopAt E ext 61 1 fu [true, false, true, false] [] fu1 (tabTm [0, 1, 7, 8] [.ro e_sib s, .fn 32 [] [.box 0 0], .int .i64 x, .int .i64 x_1]) (tabOb [(0, some (.box [.str x_2, .int .i64 x_3, .bool x_4]))])
def impl_PutMark_1 (fu : Nat) (x : ByteArray) (x_1 : Int) (x_2 : Bool) (x_3 : ByteArray) (x_4 : Int) (x_5 : Bool) : Option (Bool × (ByteArray × Int × Bool)) := evF E ext fu 32 [.agg [.str x, .int .i64 x_1, .bool x_2], .box 0 0] [.box [.str x_3, .int .i64 x_4, .bool x_5]]
def laws_markText_L4 (fu fu1 : Nat) (k : Int) (out : ByteArray) : Option (ByteArray) := loopAt E ext 67 0 fu [true, true, true, false, false] [] fu1 (tabTm [0, 3] [.int .i64 k, .str out]) (tabOb [])
def laws_heldRopeNodeS_L2 (fu fu1 : Nat) (a : List T_siiii) (k : Int) (i : Int) : Option (Int) := loopAt E ext 68 0 fu [true, false, true, false] [] fu1 (tabTm [0, 1, 5] [.ro e_siiii a, .int .i64 k, .int .i64 i]) (tabOb [])
def laws_heldMarkS_L2 (fu fu1 : Nat) (a : List T_sib) (k : Int) (i : Int) : Option (Int) := loopAt E ext 69 0 fu [true, false, true, false] [] fu1 (tabTm [0, 1, 5] [.ro e_sib a, .int .i64 k, .int .i64 i]) (tabOb [])
def spec_l01Src_ropeText_L3 (fu fu1 : Nat) (out : ByteArray) (k : Int) (s : List T_y) (s_1 : Int) (s_2 : Int) (s_3 : Int) : Option (ByteArray × (List T_y × Int × Int × Int)) := loopAt E ext 88 1 fu [true, true, false, true, false] [] fu1 (tabTm [0, 3, 4] [.box 0 0, .str out, .int .i64 k]) (tabOb [(0, some (.box [.rc 0 e_y s, .int .i64 s_1, .int .u64 s_2, .int .i64 s_3]))])
def spec_l01Src_rope_L12 (fu fu1 : Nat) (k : Int) (x : List T_y) (x_1 : Int) (x_2 : Int) (x_3 : Int) (x_4 : List T_siiii) (x_5 : List T_sib) : Option ((List T_siiii × List T_sib) × (List T_y × Int × Int × Int)) := loopAt E ext 70 1 fu [true, true, true, true, true, false, true, false, true, true, false] [] fu1 (tabTm [2, 4, 7] [.box 500 0, .box 501 0, .int .i64 k]) (tabOb [(0, some (.box [.rc 0 e_y x, .int .i64 x_1, .int .u64 x_2, .int .i64 x_3])), (500, some (.box [.nil, .nil])), (501, some (.box [.own 502, .own 503])), (502, some (.row .unk e_siiii x_4)), (503, some (.row (.is false) e_sib x_5))])
def slices_insertionSortCmpFunc_Mark (fu : Nat) (a : Int) (b : Int) (data : List T_sib) : Option (Unit × List T_sib) := evF E ext fu 77 [.own 0, .int .i64 a, .int .i64 b, .fn 48 [] []] [.row .unk e_sib data]
def slices_stableCmpFunc_Mark_L7 (fu fu1 : Nat) (n : Int) (blockSize : Int) (data : List T_sib) : Option (Unit × List T_sib) := loopAt E ext 71 1 fu [true, true, true, true, false] [] fu1 (tabTm [0, 1, 2, 6] [.own 0, .int .i64 n, .fn 48 [] [], .int .i64 blockSize]) (tabOb [(0, some (.row .unk e_sib data))])
def spec_l01Next (fu : Nat) (t : ByteArray) (at' : Int) : Option (Int × Int × Bool) := evF E ext fu 94 [.str t, .int .i64 at'] []
def unicode_utf8_RuneCountInString (fu : Nat) (s : ByteArray) : Option (Int) := evF E ext fu 105 [.str s] []
def internal_bytealg_CountString (fu : Nat) (x : ByteArray) (x_1 : Int) : Option (Int) := evF E ext fu 106 [.str x, .int .u8 x_1] []
def strings_Count_L6 (fu fu1 : Nat) (s : ByteArray) (substr : ByteArray) (n : Int) : Option (Int) := loopAt E ext 92 0 fu [true, true, true, true, false] [] fu1 (tabTm [0, 1, 5] [.str s, .str substr, .int .i64 n]) (tabOb [])
def impl_read (fu : Nat) (s : ByteArray) : Option (List T_iiib) := evF E ext fu 93 [.str s] []
def impl_ropeTree'1 (fu : Nat) (s : ByteArray) (out : List T_siiii) : Option (List T_siiii × Unit) := evF E ext fu 73 [.own 0, .str s] [.row .unk e_siiii out]
def spec_l01Write (fu : Nat) (p : Int) : Option (ByteArray) := evF E ext fu 101 [.int .i64 p] []
def spec_l01Src_long (fu : Nat) (c : ByteArray) (n : Int) (s : List T_y) (s_1 : Int) (s_2 : Int) (s_3 : Int) : Option (ByteArray × (List T_y × Int × Int × Int)) := evF E ext fu 102 [.box 0 0, .str c, .int .i64 n] [.box [.rc 0 e_y s, .int .i64 s_1, .int .u64 s_2, .int .i64 s_3]]
def spec_l04Dec (fu : Nat) (n : Int) : Option (ByteArray) := evF E ext fu 90 [.int .i64 n] []
def slices_insertionSortCmpFunc_Mark_L1 (fu fu1 : Nat) (a : Int) (b : Int) (i : Int) (data : List T_sib) : Option (Unit × List T_sib) := loopAt E ext 77 1 fu [true, false] [] fu1 (tabTm [0, 1, 2, 3, 8] [.own 0, .int .i64 a, .int .i64 b, .fn 48 [] [], .int .i64 i]) (tabOb [(0, some (.row .unk e_sib data))])
def slices_stableCmpFunc_Mark_L9 (fu fu1 fu2 : Nat) (n : Int) (blockSize : Int) (a : Int) (b : Int) (data : List T_sib) : Option (Unit × List T_sib) := loopAt E ext 71 1 fu [true, true, true, true, false, false, true, false, true, false, false] [fu1] fu2 (tabTm [0, 1, 2, 6, 7, 8] [.own 0, .int .i64 n, .fn 48 [] [], .int .i64 blockSize, .int .i64 a, .int .i64 b]) (tabOb [(0, some (.row .unk e_sib data))])
def spec_l01Next_J16 (fu : Nat) (t : ByteArray) (at' : Int) (n : Int) (p : Int) : Option (Int × Int × Bool) := joinAt E ext 94 0 fu [true, true, true, true, true] [] (tabTm [0, 1, 8, 9] [.str t, .int .i64 at', .int .i64 n, .int .i64 p]) (tabOb [])
def strings_Index (fu : Nat) (s : ByteArray) (substr : ByteArray) : Option (Int) := evF E ext fu 107 [.str s, .str substr] []
def impl_read_L3 (fu fu1 : Nat) (s : ByteArray) (i : Int) : Option (List T_iiib) := loopAt E ext 93 0 fu [true, true, false, true, false] [] fu1 (tabTm [0, 3, 4] [.str s, .nil, .int .i64 i]) (tabOb [])
def impl_ropeTree_L7'1 (fu fu1 : Nat) (s : ByteArray) (n : Int) (lines : Int) (cut : Int) (i : Int) (out : List T_siiii) : Option (List T_siiii × Unit) := loopAt E ext 73 1 fu [true, true, true, true, true, false, true, false] [] fu1 (tabTm [0, 1, 5, 6, 7, 8] [.own 0, .str s, .int .i64 n, .int .i64 lines, .int .i64 cut, .int .i64 i]) (tabOb [(0, some (.row .unk e_siiii out))])
def spec_l01IsPoint (fu : Nat) (p : Int) : Option (Bool) := evF E ext fu 109 [.int .i64 p] []
def spec_l01Write_J3 (fu : Nat) (p : Int) : Option (ByteArray) := joinAt E ext 101 0 fu [true, true] [] (tabTm [0] [.int .i64 p]) (tabOb [])
def spec_l01Src_long_L2 (fu fu1 : Nat) (c : ByteArray) (n : Int) (x : List T_y) (x_1 : Int) (x_2 : Int) (x_3 : Int) (b : List T_y) : Option (ByteArray × (List T_y × Int × Int × Int)) := loopAt E ext 102 1 fu [true, true, false, false] [] fu1 (tabTm [1, 2, 7] [.str c, .int .i64 n, .own 500]) (tabOb [(0, some (.box [.rc 0 e_y x, .int .i64 x_1, .int .u64 x_2, .int .i64 x_3])), (500, some (.row (.is false) e_y b))])
def spec_l04Digits (fu : Nat) (n : Int) : Option (ByteArray) := evF E ext fu 103 [.int .i64 n] []
def slices_insertionSortCmpFunc_Mark_L4 (fu fu1 fu2 : Nat) (a : Int) (b : Int) (i : Int) (j : Int) (data : List T_sib) : Option (Unit × List T_sib) := loopAt E ext 77 1 fu [true, false, false, true, false, false, true, false] [fu1] fu2 (tabTm [0, 1, 2, 3, 8, 9] [.own 0, .int .i64 a, .int .i64 b, .fn 48 [] [], .int .i64 i, .int .i64 j]) (tabOb [(0, some (.row .unk e_sib data))])
def slices_symMergeCmpFunc_Mark (fu : Nat) (a : Int) (m : Int) (b : Int) (data : List T_sib) : Option (Unit × List T_sib) := evF E ext fu 91 [.own 0, .int .i64 a, .int .i64 m, .int .i64 b, .fn 48 [] []] [.row .unk e_sib data]
def spec_l01Next_L19 (fu fu1 : Nat) (t : ByteArray) (at' : Int) (n : Int) (p : Int) (i : Int) : Option (Int × Int × Bool) := loopAt E ext 94 0 fu [true, true, true, true, true, true, false, true, false] [] fu1 (tabTm [0, 1, 8, 9, 10] [.str t, .int .i64 at', .int .i64 n, .int .i64 p, .int .i64 i]) (tabOb [])
def internal_stringslite_Index (fu : Nat) (s : ByteArray) (substr : ByteArray) : Option (Int) := evF E ext fu 112 [.str s, .str substr] []
def unicode_utf8_DecodeRuneInString (fu : Nat) (s : ByteArray) : Option (Int × Int) := evF E ext fu 108 [.str s] []
def impl_read_L3'1 (fu fu1 : Nat) (s : ByteArray) (i : Int) (out : List T_iiib) : Option (List T_iiib) := loopAt E ext 93 0 fu [true, true, false, true, false] [] fu1 (tabTm [0, 3, 4] [.str s, .own 500, .int .i64 i]) (tabOb [(500, some (.row .unk e_iiib out))])
def spec_l04Digits_L4 (fu fu1 : Nat) (n : Int) (out : ByteArray) : Option (ByteArray) := loopAt E ext 103 0 fu [true, true, true, false, false] [] fu1 (tabTm [0, 3] [.int .i64 n, .str out]) (tabOb [])
def impl_MarksAt_1 (fu : Nat) (a : ByteArray) (a_1 : Int) (a_2 : Bool) (b : ByteArray) (b_1 : Int) (b_2 : Bool) : Option (Int) := evF E ext fu 48 [.agg [.str a, .int .i64 a_1, .bool a_2], .agg [.str b, .int .i64 b_1, .bool b_2]] []
def slices_symMergeCmpFunc_Mark_L3 (fu fu1 : Nat) (a : Int) (i : Int) (j : Int) (data : List T_sib) : Option (Unit × List T_sib) := loopAt E ext 91 1 fu [false, true, false, true, true, false, false] [] fu1 (tabTm [0, 1, 4, 10, 11] [.own 0, .int .i64 a, .fn 48 [] [], .int .i64 i, .int .i64 j]) (tabOb [(0, some (.row .unk e_sib data))])
def slices_symMergeCmpFunc_Mark_L15 (fu fu1 : Nat) (m : Int) (i : Int) (j : Int) (data : List T_sib) : Option (Unit × List T_sib) := loopAt E ext 91 1 fu [true, false, true, false, true, true, false, false] [] fu1 (tabTm [0, 2, 4, 14, 15] [.own 0, .int .i64 m, .fn 48 [] [], .int .i64 i, .int .i64 j]) (tabOb [(0, some (.row .unk e_sib data))])
def slices_symMergeCmpFunc_Mark_L33 (fu fu1 : Nat) (a : Int) (m : Int) (b : Int) (mid : Int) (n : Int) (start : Int) (r : Int) (p : Int) (data : List T_sib) : Option (Unit × List T_sib) := loopAt E ext 91 1 fu [true, true, true, true, true, true, true, false, false] [] fu1 (tabTm [0, 1, 2, 3, 4, 18, 19, 20, 21, 22] [.own 0, .int .i64 a, .int .i64 m, .int .i64 b, .fn 48 [] [], .int .i64 mid, .int .i64 n, .int .i64 start, .int .i64 r, .int .i64 p]) (tabOb [(0, some (.row .unk e_sib data))])
def internal_stringslite_IndexByte (fu : Nat) (s : ByteArray) (c : Int) : Option (Int) := evF E ext fu 114 [.str s, .int .u8 c] []
def cmp_Compare_int64 (fu : Nat) (x : Int) (y : Int) : Option (Int) := evF E ext fu 49 [.int .i64 x, .int .i64 y] []
def slices_symMergeCmpFunc_Mark_L9 (fu fu1 : Nat) (i : Int) (k : Int) (data : List T_sib) : Option (Unit × List T_sib) := loopAt E ext 91 1 fu [false, true, false, true, true, true, false, true, false] [] fu1 (tabTm [0, 10, 13] [.own 0, .int .i64 i, .int .i64 k]) (tabOb [(0, some (.row .unk e_sib data))])
def slices_symMergeCmpFunc_Mark_L21 (fu fu1 : Nat) (i : Int) (k : Int) (data : List T_sib) : Option (Unit × List T_sib) := loopAt E ext 91 1 fu [true, false, true, false, true, true, true, false, true, false] [] fu1 (tabTm [0, 14, 17] [.own 0, .int .i64 i, .int .i64 k]) (tabOb [(0, some (.row .unk e_sib data))])
def slices_rotateCmpFunc_Mark (fu : Nat) (a : Int) (m : Int) (b : Int) (data : List T_sib) : Option (Unit × List T_sib) := evF E ext fu 104 [.own 0, .int .i64 a, .int .i64 m, .int .i64 b, .fn 48 [] []] [.row .unk e_sib data]
def slices_symMergeCmpFunc_Mark_J41 (fu : Nat) (a : Int) (b : Int) (mid : Int) (start : Int) (end' : Int) (data : List T_sib) : Option (Unit × List T_sib) := joinAt E ext 91 1 fu [true, true, true, true, true, true, true, true, true, true] [] (tabTm [0, 1, 3, 4, 18, 20, 24] [.own 0, .int .i64 a, .int .i64 b, .fn 48 [] [], .int .i64 mid, .int .i64 start, .int .i64 end']) (tabOb [(0, some (.row .unk e_sib data))])
def internal_bytealg_IndexByteString (fu : Nat) (x : ByteArray) (x_1 : Int) : Option (Int) := evF E ext fu 118 [.str x, .int .u8 x_1] []
def cmp_isNaN_int64 (fu : Nat) (x : Int) : Option (Bool) := evF E ext fu 72 [.int .i64 x] []
def slices_rotateCmpFunc_Mark_L2 (fu fu1 : Nat) (m : Int) (i : Int) (j : Int) (data : List T_sib) : Option (Unit × List T_sib) := loopAt E ext 104 1 fu [true, true, false, false] [] fu1 (tabTm [0, 2, 4, 10, 11] [.own 0, .int .i64 m, .fn 48 [] [], .int .i64 i, .int .i64 j]) (tabOb [(0, some (.row .unk e_sib data))])
def slices_symMergeCmpFunc_Mark_J43 (fu : Nat) (b : Int) (mid : Int) (end' : Int) (data : List T_sib) : Option (Unit × List T_sib) := joinAt E ext 91 1 fu [true, true, true, true, true, true, true, true, true, true, true] [] (tabTm [0, 3, 4, 18, 24] [.own 0, .int .i64 b, .fn 48 [] [], .int .i64 mid, .int .i64 end']) (tabOb [(0, some (.row .unk e_sib data))])
def slices_swapRangeCmpFunc_Mark (fu : Nat) (a : Int) (b : Int) (n : Int) (data : List T_sib) : Option (Unit × List T_sib) := evF E ext fu 111 [.own 0, .int .i64 a, .int .i64 b, .int .i64 n, .fn 48 [] []] [.row .unk e_sib data]
def slices_swapRangeCmpFunc_Mark_L1 (fu fu1 : Nat) (a : Int) (b : Int) (n : Int) (i : Int) (data : List T_sib) : Option (Unit × List T_sib) := loopAt E ext 111 1 fu [true, false] [] fu1 (tabTm [0, 1, 2, 3, 10] [.own 0, .int .i64 a, .int .i64 b, .int .i64 n, .int .i64 i]) (tabOb [(0, some (.row .unk e_sib data))])
end
end Go.Proofs.YtfbhkkedmfbgbaaDoor.PM
