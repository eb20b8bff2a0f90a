/- The functions that the law reaches, as the evaluator reads them: table and names. -/
import Derived.Test.YtkghicadebeceaaDoorProg
import Derived.Test.YtkghicadebeceaaDoorEG
namespace Go.Proofs.YtkghicadebeceaaDoor.RG
open Go.Eng
set_option linter.unusedVariables false
noncomputable section
@[reducible] def glbA (v : Value) : Glb := Glb.utf8A 1 2 125 5 v
def e_i : CTs := (.one (.int .i64))
abbrev T_i : Type := Int
noncomputable def z_i : T_i := (0 : Int)
def e_s : CTs := (.one .str)
abbrev T_s : Type := ByteArray
noncomputable def z_s : T_s := (⟨#[]⟩ : ByteArray)
def e_y : CTs := (.one (.int .u8))
abbrev T_y : Type := Int
noncomputable def z_y : T_y := (0 : Int)
def e_iis : CTs := (.cons (.int .i64) (.cons (.int .i64) (.one .str)))
abbrev T_iis : Type := Int × Int × ByteArray
noncomputable def z_iis : T_iis := ((0 : Int), (0 : Int), (⟨#[]⟩ : ByteArray))
def e_sib : CTs := (.cons .str (.cons (.int .i64) (.one .bool)))
abbrev T_sib : Type := ByteArray × Int × Bool
noncomputable def z_sib : T_sib := ((⟨#[]⟩ : ByteArray), (0 : Int), false)
def e_iiib : CTs := (.cons (.int .i64) (.cons (.int .i64) (.cons (.int .i64) (.one .bool))))
abbrev T_iiib : Type := Int × Int × Int × Bool
noncomputable def z_iiib : T_iiib := ((0 : Int), (0 : Int), (0 : Int), false)
def e_siiii : CTs := (.cons .str (.cons (.int .i64) (.cons (.int .i64) (.cons (.int .i64) (.one (.int .i64))))))
abbrev T_siiii : Type := ByteArray × Int × Int × Int × Int
noncomputable def z_siiii : T_siiii := ((⟨#[]⟩ : ByteArray), (0 : Int), (0 : Int), (0 : Int), (0 : Int))
def sigT : List (Nat × Sig) := [(5, ⟨.bool, []⟩),
  (6, ⟨.bool, []⟩),
  (7, ⟨.bool, []⟩),
  (8, ⟨.bool, []⟩),
  (9, ⟨.bool, []⟩),
  (10, ⟨.bool, []⟩),
  (13, ⟨.bool, []⟩),
  (17, ⟨.agg (.cons (.own e_siiii) (.one (.own e_sib))), []⟩),
  (19, ⟨.int .i64, []⟩),
  (20, ⟨.int .i64, []⟩),
  (21, ⟨.int .i64, []⟩),
  (22, ⟨.str, []⟩),
  (23, ⟨.str, []⟩),
  (26, ⟨.int .i64, []⟩),
  (27, ⟨.int .i64, []⟩),
  (28, ⟨.agg (.cons (.own e_siiii) (.one (.own e_sib))), []⟩),
  (29, ⟨.bool, []⟩),
  (30, ⟨.str, []⟩),
  (31, ⟨.int .i64, []⟩),
  (32, ⟨.str, []⟩),
  (33, ⟨.int .i64, []⟩),
  (34, ⟨.int .i64, []⟩),
  (35, ⟨.agg (.cons (.int .i64) (.cons (.own e_siiii) (.one (.own e_sib)))), []⟩),
  (36, ⟨.own e_iis, []⟩),
  (37, ⟨.agg (.cons (.int .i64) (.cons (.own e_siiii) (.one (.own e_sib)))), []⟩),
  (38, ⟨.bool, []⟩),
  (39, ⟨.bool, []⟩),
  (40, ⟨.int .i64, [.row e_siiii, .row e_sib]⟩),
  (41, ⟨.int .i64, [.row e_iis]⟩),
  (42, ⟨.int .i64, [.row e_siiii, .row e_sib]⟩),
  (43, ⟨.int .i64, []⟩),
  (49, ⟨.int .i64, []⟩),
  (51, ⟨.agg (.cons .str (.cons (.int .i64) (.one .bool))), []⟩),
  (53, ⟨.tup (.cons (.agg (.cons (.own e_siiii) (.one (.own e_sib)))) (.one (.own e_iis))), []⟩),
  (56, ⟨.ptr (.cons (.rc 0 e_y) (.cons (.int .i64) (.cons (.int .u64) (.one (.int .i64))))), []⟩),
  (57, ⟨.str, [.box (.cons (.rc 0 e_y) (.cons (.int .i64) (.cons (.int .u64) (.one (.int .i64)))))]⟩),
  (58, ⟨.bool, []⟩),
  (59, ⟨.agg (.cons (.own e_siiii) (.one (.own e_sib))), [.dead]⟩),
  (60, ⟨.own e_siiii, [.dead]⟩),
  (61, ⟨.str, []⟩),
  (62, ⟨.int .i64, []⟩),
  (63, ⟨.bool, []⟩),
  (64, ⟨.bool, []⟩),
  (67, ⟨.int .i64, []⟩),
  (68, ⟨.int .i64, []⟩),
  (69, ⟨.str, []⟩),
  (70, ⟨.bool, []⟩),
  (71, ⟨.own e_siiii, []⟩),
  (72, ⟨.own e_sib, []⟩),
  (73, ⟨.bool, []⟩),
  (74, ⟨.bool, []⟩),
  (75, ⟨.int .i64, []⟩),
  (76, ⟨.int .i64, []⟩),
  (77, ⟨.agg (.cons (.int .i64) (.cons (.own e_siiii) (.one (.own e_sib)))), []⟩),
  (78, ⟨.agg (.cons (.int .i64) (.cons (.int .i64) (.one .str))), []⟩),
  (79, ⟨.own e_sib, []⟩),
  (80, ⟨.own e_sib, [.dead]⟩),
  (81, ⟨.bool, []⟩),
  (82, ⟨.int .i64, [.row e_siiii]⟩),
  (83, ⟨.int .i64, [.row e_sib]⟩),
  (84, ⟨.str, []⟩),
  (85, ⟨.int .i64, []⟩),
  (90, ⟨.bool, []⟩),
  (97, ⟨.agg (.cons (.own e_siiii) (.one (.own e_sib))), [.box (.cons (.rc 0 e_y) (.cons (.int .i64) (.cons (.int .u64) (.one (.int .i64)))))]⟩),
  (98, ⟨.own e_iis, [.box (.cons (.rc 0 e_y) (.cons (.int .i64) (.cons (.int .u64) (.one (.int .i64)))))]⟩),
  (99, ⟨.str, [.box (.cons (.rc 0 e_y) (.cons (.int .i64) (.cons (.int .u64) (.one (.int .i64)))))]⟩),
  (100, ⟨.int .i64, [.box (.cons (.rc 0 e_y) (.cons (.int .i64) (.cons (.int .u64) (.one (.int .i64)))))]⟩),
  (101, ⟨.bool, [.box (.cons (.rc 0 e_y) (.cons (.int .i64) (.cons (.int .u64) (.one (.int .i64)))))]⟩),
  (102, ⟨.str, []⟩),
  (103, ⟨.str, [.box (.cons (.rc 0 e_y) (.cons (.int .i64) (.cons (.int .u64) (.one (.int .i64)))))]⟩),
  (104, ⟨.own e_siiii, [.dead]⟩),
  (105, ⟨.int .i64, []⟩),
  (108, ⟨.int .i64, []⟩),
  (109, ⟨.int .i64, []⟩),
  (110, ⟨.int .i64, []⟩),
  (119, ⟨.int .i64, []⟩),
  (120, ⟨.bool, []⟩),
  (121, ⟨.agg (.cons .str (.cons (.int .i64) (.cons (.int .i64) (.cons (.int .i64) (.one (.int .i64)))))), []⟩),
  (122, ⟨.bool, []⟩),
  (123, ⟨.bool, []⟩),
  (124, ⟨.bool, []⟩),
  (125, ⟨.int .i64, []⟩),
  (126, ⟨.int .i64, []⟩),
  (127, ⟨.int .i64, []⟩),
  (134, ⟨.agg (.cons (.own e_siiii) (.one (.own e_sib))), [.box (.cons (.rc 0 e_y) (.cons (.int .i64) (.cons (.int .u64) (.one (.int .i64)))))]⟩),
  (135, ⟨.bool, []⟩),
  (136, ⟨.own e_iiib, []⟩),
  (137, ⟨.tup (.cons (.int .i64) (.cons (.int .i64) (.one .bool))), []⟩),
  (139, ⟨.int .i64, []⟩),
  (159, ⟨.str, []⟩),
  (160, ⟨.tup (.cons (.int .i32) (.one (.int .i64))), []⟩),
  (162, ⟨.int .i64, []⟩),
  (163, ⟨.int .i64, []⟩),
  (164, ⟨.int .i64, []⟩),
  (165, ⟨.int .i64, []⟩),
  (183, ⟨.str, []⟩),
  (185, ⟨.int .i64, []⟩),
  (186, ⟨.tup (.cons (.int .u32) (.one (.int .u32))), []⟩)]
def lendT : List (Nat × List Bool) := [(40, [true, false]), (41, [true, false]), (42, [true, false]), (57, [true]), (59, [false, true]), (60, [true, false]), (80, [true, false, false, false]), (82, [true, false]), (83, [true, false]), (97, [true]), (98, [true, false]), (99, [true, false]), (100, [true, false]), (101, [true, false]), (103, [true, false, false]), (104, [true, false]), (134, [true])]
def loopT : List (Nat × List (Nat × Hint)) := [(13, [(11, { live := [3, 4, 5, 6, 7, 8, 9] }), (22, { live := [3, 5, 6, 8, 12] })]),
  (20, [(7, { live := [1, 5, 15, 16] })]),
  (27, [(8, { live := [1, 3, 4, 5] }), (13, { live := [1, 3, 6] })]),
  (33, [(7, { live := [1, 5, 6] })]),
  (34, [(5, { live := [0, 1, 5] })]),
  (36, [(3, { live := [0, 3, 4] })]),
  (37, [(7, { live := [4, 5, 6, 23, 24, 25] })]),
  (39, [(4, { live := [0, 1, 5] })]),
  (41, [(2, { live := [0, 1, 5] })]),
  (56, [(3, { live := [0, 3, 4] })]),
  (57, [(3, { live := [0, 3, 4] })]),
  (61, [(3, { live := [3, 7, 8, 9] })]),
  (62, [(6, { live := [0, 1, 5] })]),
  (63, [(2, { live := [0, 1, 7, 8, 9] })]),
  (64, [(4, { live := [0, 1, 12, 13] })]),
  (67, [(5, { live := [0, 1, 5] })]),
  (68, [(5, { live := [0, 1, 5] })]),
  (69, [(3, { live := [0, 3, 4] })]),
  (71, [(3, { live := [0, 3, 4] })]),
  (72, [(3, { live := [0, 3, 4] })]),
  (73, [(4, { live := [0, 1, 5] })]),
  (74, [(4, { live := [0, 1, 5] })]),
  (75, [(3, { live := [0, 3, 4] })]),
  (77, [(4, { live := [1, 4, 5, 6, 7] }), (13, { live := [1, 4, 5, 6, 7, 8, 9] })]),
  (80, [(3, { live := [0, 1, 2, 3, 14, 15] })]),
  (82, [(2, { live := [0, 1, 5] })]),
  (83, [(2, { live := [0, 1, 5] })]),
  (84, [(4, { live := [0, 3] })]),
  (90, [(2, { live := [0, 6, 7] })]),
  (98, [(3, { live := [0, 1, 5, 6] })]),
  (103, [(2, { live := [1, 2, 7] })]),
  (104, [(7, { live := [0, 1, 5, 6, 7, 8] })]),
  (105, [(4, { live := [0, 3, 4, 5] })]),
  (108, [(2, { live := [2, 4] })]),
  (120, [(4, { live := [0, 3] })]),
  (126, [(2, { live := [0, 1, 5] })]),
  (127, [(2, { live := [0, 1, 5] })]),
  (134, [(5, { live := [0, 2, 3, 4, 5, 6] }), (12, { live := [2, 4, 7] })]),
  (136, [(3, { live := [0, 3, 4] })]),
  (137, [(19, { live := [0, 1, 8, 9, 10] })]),
  (139, [(15, { live := [0, 1, 5, 6, 7, 8, 9, 10] })]),
  (165, [(5, { live := [0, 1, 5, 6, 7, 8, 9] }), (11, { live := [0, 1, 5, 6, 7, 8, 10] })]),
  (183, [(4, { live := [0, 3] })]),
  (186, [(3, { live := [0, 4, 5] }), (8, { live := [4, 6, 7, 8] })])]
def joinT : List (Nat × List (Nat × Hint)) := [(10, [(23, { live := [1, 2, 6, 9] })]),
  (37, [(12, { live := [4, 5, 6, 8, 23, 24, 25] })]),
  (80, [(13, { live := [0, 1, 2, 3, 14, 15] })]),
  (97, [(4, { live := [0, 2, 3, 16] }), (17, { live := [2, 3] })]),
  (98, [(4, { live := [0, 1, 5, 6] }), (8, { live := [0, 1, 5, 6, 7] }), (10, { live := [0, 1, 5, 6, 7] }), (12, { live := [0, 1, 5, 6, 7] }), (14, { live := [0, 1, 5, 6, 7] })]),
  (100, [(7, { live := [0, 1, 5] })]),
  (102, [(3, { live := [0] })]),
  (125, [(3, { live := [2, 3, 5, 11] })]),
  (137, [(16, { live := [0, 1, 8, 9] })]),
  (139, [(10, { live := [0, 1, 5] }), (21, { live := [0, 1, 5, 6, 7, 8, 9, 10] }), (23, { live := [0, 1, 5, 6, 7, 8, 9, 10] }), (26, { live := [0, 1, 5, 6, 7, 8, 9, 10, 107] })])]
noncomputable def E : Env := { P := Go.Proofs.Tryd.prog, sig := fun f => lookN ⟨.bool, []⟩ f sigT, lend := fun f => lookN [] f lendT, loopHint := fun f k => lookT f k loopT, joinHint := fun f k => lookT f k joinT, over := fun f => memb f [79, 160], bld := fun f => lookN 0 f [(106, 1), (107, 3)], isB := fun t => Nat.beq t 125 }
def bs (l : List Nat) : ByteArray := ⟨⟨l.map UInt8.ofNat⟩⟩
def ext : Cf E := fun f vs os =>
  if h : f = 79 then h ▸ (xClone e_sib 32 vs os : Option (E.sig 79).T) else
  if h : f = 109 then h ▸ (xCountString vs os : Option (E.sig 109).T) else
  if h : f = 160 then h ▸ (xDecodeRune vs os : Option (E.sig 160).T) else
  if h : f = 185 then h ▸ (xIndexByteString vs os : Option (E.sig 185).T) else
  none
def laws_FnExactRopeFault (fu : Nat) (aR : List T_siiii) (aR_1 : List T_sib) : Option (Bool) := evF E ext fu 5 [.agg [.ro e_siiii aR, .ro e_sib aR_1]] []
def laws_FnExactRopeText (fu : Nat) (aR : List T_siiii) (aR_1 : List T_sib) : Option (Bool) := evF E ext fu 6 [.agg [.ro e_siiii aR, .ro e_sib aR_1]] []
def laws_FnExactLineAt (fu : Nat) (aR : List T_siiii) (aR_1 : List T_sib) (aAt : Int) : Option (Bool) := evF E ext fu 7 [.agg [.ro e_siiii aR, .ro e_sib aR_1], .int .i64 aAt] []
def laws_FnExactPiece (fu : Nat) (aR : List T_siiii) (aR_1 : List T_sib) (aFrom : Int) (aTo : Int) : Option (Bool) := evF E ext fu 8 [.agg [.ro e_siiii aR, .ro e_sib aR_1], .int .i64 aFrom, .int .i64 aTo] []
def laws_FnExactPlaceOfLine (fu : Nat) (aR : List T_siiii) (aR_1 : List T_sib) (aLine : Int) : Option (Bool) := evF E ext fu 9 [.agg [.ro e_siiii aR, .ro e_sib aR_1], .int .i64 aLine] []
def laws_FnExactEditRope (fu : Nat) (aR : List T_siiii) (aR_1 : List T_sib) (aEdits : List T_iis) : Option (Bool) := evF E ext fu 10 [.agg [.ro e_siiii aR, .ro e_sib aR_1], .ro e_iis aEdits] []
def laws_FnRopeEdits (fu : Nat) (code : List T_y) : Option (Bool) := evF E ext fu 13 [.rc 0 e_y code] []
def laws_szRope (fu : Nat) (a : List T_siiii) (a_1 : List T_sib) (left : Int) : Option (Int) := evF E ext fu 26 [.agg [.ro e_siiii a, .ro e_sib a_1], .int .i64 left] []
def laws_toRope (fu : Nat) (a : List T_siiii) (a_1 : List T_sib) : Option (List T_siiii × List T_sib) := evF E ext fu 28 [.agg [.ro e_siiii a, .ro e_sib a_1]] []
def spec_RopeFault (fu : Nat) (r : List T_siiii) (r_1 : List T_sib) : Option (Int) := evF E ext fu 27 [.agg [.ro e_siiii r, .ro e_sib r_1]] []
def impl_RopeFault (fu : Nat) (r : List T_siiii) (r_1 : List T_sib) : Option (Int) := evF E ext fu 21 [.agg [.ro e_siiii r, .ro e_sib r_1]] []
def laws_eqRope (fu : Nat) (a : List T_siiii) (a_1 : List T_sib) (b : List T_siiii) (b_1 : List T_sib) : Option (Bool) := evF E ext fu 29 [.agg [.ro e_siiii a, .ro e_sib a_1], .agg [.ro e_siiii b, .ro e_sib b_1]] []
def spec_RopeText (fu : Nat) (r : List T_siiii) (r_1 : List T_sib) : Option (ByteArray) := evF E ext fu 30 [.agg [.ro e_siiii r, .ro e_sib r_1]] []
def impl_RopeText (fu : Nat) (r : List T_siiii) (r_1 : List T_sib) : Option (ByteArray) := evF E ext fu 22 [.agg [.ro e_siiii r, .ro e_sib r_1]] []
def spec_LineAt (fu : Nat) (r : List T_siiii) (r_1 : List T_sib) (at' : Int) : Option (Int) := evF E ext fu 31 [.agg [.ro e_siiii r, .ro e_sib r_1], .int .i64 at'] []
def impl_LineAt (fu : Nat) (r : List T_siiii) (r_1 : List T_sib) (at' : Int) : Option (Int) := evF E ext fu 19 [.agg [.ro e_siiii r, .ro e_sib r_1], .int .i64 at'] []
def spec_Piece (fu : Nat) (r : List T_siiii) (r_1 : List T_sib) (from' : Int) (to : Int) : Option (ByteArray) := evF E ext fu 32 [.agg [.ro e_siiii r, .ro e_sib r_1], .int .i64 from', .int .i64 to] []
def impl_Piece (fu : Nat) (r : List T_siiii) (r_1 : List T_sib) (from' : Int) (to : Int) : Option (ByteArray) := evF E ext fu 23 [.agg [.ro e_siiii r, .ro e_sib r_1], .int .i64 from', .int .i64 to] []
def spec_PlaceOfLine (fu : Nat) (r : List T_siiii) (r_1 : List T_sib) (line : Int) : Option (Int) := evF E ext fu 33 [.agg [.ro e_siiii r, .ro e_sib r_1], .int .i64 line] []
def impl_PlaceOfLine (fu : Nat) (r : List T_siiii) (r_1 : List T_sib) (line : Int) : Option (Int) := evF E ext fu 20 [.agg [.ro e_siiii r, .ro e_sib r_1], .int .i64 line] []
def laws_szRopeEditS (fu : Nat) (a : List T_iis) (left : Int) : Option (Int) := evF E ext fu 34 [.ro e_iis a, .int .i64 left] []
def laws_toRopeEditS (fu : Nat) (a : List T_iis) : Option (List T_iis) := evF E ext fu 36 [.ro e_iis a] []
def spec_EditRope (fu : Nat) (r : List T_siiii) (r_1 : List T_sib) (edits : List T_iis) : Option (Int × List T_siiii × List T_sib) := evF E ext fu 35 [.agg [.ro e_siiii r, .ro e_sib r_1], .ro e_iis edits] []
def impl_EditRope (fu : Nat) (r : List T_siiii) (r_1 : List T_sib) (edits : List T_iis) : Option (Int × List T_siiii × List T_sib) := evF E ext fu 37 [.agg [.ro e_siiii r, .ro e_sib r_1], .ro e_iis edits] []
def laws_eqRopeOut (fu : Nat) (a : Int) (a_1 : List T_siiii) (a_2 : List T_sib) (b : Int) (b_1 : List T_siiii) (b_2 : List T_sib) : Option (Bool) := evF E ext fu 38 [.agg [.int .i64 a, .ro e_siiii a_1, .ro e_sib a_2], .agg [.int .i64 b, .ro e_siiii b_1, .ro e_sib b_2]] []
def laws_eqRopeEditS (fu : Nat) (a : List T_iis) (b : List T_iis) : Option (Bool) := evF E ext fu 39 [.ro e_iis a, .ro e_iis b] []
def laws_markRope (fu : Nat) (k : Int) (a : List T_siiii) (a_1 : List T_sib) : Option (Int × (List T_siiii × List T_sib)) := evF E ext fu 40 [.agg [.own 0, .own 1], .int .i64 k] [.row .unk e_siiii a, .row .unk e_sib a_1]
def laws_markRopeEditS (fu : Nat) (k : Int) (a : List T_iis) : Option (Int × List T_iis) := evF E ext fu 41 [.own 0, .int .i64 k] [.row .unk e_iis a]
def laws_FnExactEditRope_J23 (fu : Nat) (aEdits : List T_iis) (aR : List T_siiii) (aR_1 : List T_sib) (w0 : Int) (x : List T_siiii) (x_1 : List T_sib) (g0 : Int) (x_2 : List T_siiii) (x_3 : List T_sib) : Option (Bool) := joinAt E ext 10 0 fu [true, true, true, true, true, true, true, true, true, true, true, true, true, true, true, true, true] [] (tabTm [1, 2, 6, 9] [.ro e_iis aEdits, .box 500 0, .box 501 0, .box 504 0]) (tabOb [(500, some (.box [.ro e_siiii aR, .ro e_sib aR_1])), (501, some (.box [.int .i64 w0, .own 502, .own 503])), (502, some (.row .unk e_siiii x)), (503, some (.row .unk e_sib x_1)), (504, some (.box [.int .i64 g0, .own 505, .own 506])), (505, some (.row .unk e_siiii x_2)), (506, some (.row .unk e_sib x_3))])
def spec_DrawEditRope (fu : Nat) (code : List T_y) : Option ((List T_siiii × List T_sib) × List T_iis) := evF E ext fu 53 [.rc 0 e_y code] []
def laws_FnRopeEdits_L11 (fu fu1 : Nat) (t : ByteArray) (i : Int) (x : List T_siiii) (x_1 : List T_sib) (edits : List T_iis) (want : Int) (x_2 : List T_siiii) (x_3 : List T_sib) (o : Int) (x_4 : List T_siiii) (x_5 : List T_sib) : Option (Bool) := loopAt E ext 13 0 fu [true, true, true, true, true, true, true, true, false, true, false] [] fu1 (tabTm [3, 4, 5, 6, 7, 8, 9] [.box 500 0, .own 503, .box 504 0, .box 507 0, .str t, .box 510 0, .int .i64 i]) (tabOb [(500, some (.box [.own 501, .own 502])), (501, some (.row .unk e_siiii x)), (502, some (.row .unk e_sib x_1)), (503, some (.row .unk e_iis edits)), (504, some (.box [.int .i64 want, .own 505, .own 506])), (505, some (.row .unk e_siiii x_2)), (506, some (.row .unk e_sib x_3)), (507, some (.box [.int .i64 o, .own 508, .own 509])), (508, some (.row .unk e_siiii x_4)), (509, some (.row .unk e_sib x_5)), (510, some (.box [.own 501, .own 502]))])
def laws_szRopeNodeS (fu : Nat) (a : List T_siiii) (left : Int) : Option (Int) := evF E ext fu 67 [.ro e_siiii a, .int .i64 left] []
def laws_szMarkS (fu : Nat) (a : List T_sib) (left : Int) : Option (Int) := evF E ext fu 68 [.ro e_sib a, .int .i64 left] []
def laws_toRopeNodeS (fu : Nat) (a : List T_siiii) : Option (List T_siiii) := evF E ext fu 71 [.ro e_siiii a] []
def laws_toMarkS (fu : Nat) (a : List T_sib) : Option (List T_sib) := evF E ext fu 72 [.ro e_sib a] []
def spec_l20Text (fu : Nat) (l : List T_siiii) : Option (ByteArray) := evF E ext fu 69 [.ro e_siiii l] []
def spec_l20Build (fu : Nat) (t : ByteArray) (l : List T_siiii) : Option (List T_siiii × Unit) := evF E ext fu 60 [.own 0, .str t] [.row (.is false) e_siiii l]
def spec_RopeFault_L8 (fu fu1 : Nat) (t : ByteArray) (i : Int) (r : List T_siiii) (r_1 : List T_sib) (own : List T_siiii) : Option (Int) := loopAt E ext 27 0 fu [true, true, true, true, true, false, true, false] [] fu1 (tabTm [1, 3, 4, 5] [.box 500 0, .str t, .own 501, .int .i64 i]) (tabOb [(500, some (.box [.ro e_siiii r, .ro e_sib r_1])), (501, some (.row .unk e_siiii own))])
def impl_ropeText (fu : Nat) (r : List T_siiii) (r_1 : List T_sib) : Option (ByteArray) := evF E ext fu 61 [.agg [.ro e_siiii r, .ro e_sib r_1]] []
def impl_long (fu : Nat) (s : ByteArray) : Option (Bool) := evF E ext fu 58 [.str s] []
def impl_marksRight (fu : Nat) (l : List T_sib) (n : Int) : Option (Bool) := evF E ext fu 63 [.ro e_sib l, .int .i64 n] []
def impl_ropeOf (fu : Nat) (s : ByteArray) (marks : List T_sib) : Option ((List T_siiii × List T_sib) × Unit) := evF E ext fu 59 [.str s, .own 0] [.row (.is true) e_sib marks]
def slices_Equal_RopeNode_RopeNode (fu : Nat) (s1 : List T_siiii) (s2 : List T_siiii) : Option (Bool) := evF E ext fu 64 [.ro e_siiii s1, .ro e_siiii s2] []
def laws_eqRopeNodeS (fu : Nat) (a : List T_siiii) (b : List T_siiii) : Option (Bool) := evF E ext fu 73 [.ro e_siiii a, .ro e_siiii b] []
def laws_eqMarkS (fu : Nat) (a : List T_sib) (b : List T_sib) : Option (Bool) := evF E ext fu 74 [.ro e_sib a, .ro e_sib b] []
def spec_l20Ends (fu : Nat) (t : ByteArray) : Option (Int) := evF E ext fu 75 [.str t] []
def strings_Count (fu : Nat) (s : ByteArray) (substr : ByteArray) : Option (Int) := evF E ext fu 62 [.str s, .str substr] []
def spec_PlaceOfLine_L7 (fu fu1 : Nat) (line : Int) (t : ByteArray) (i : Int) : Option (Int) := loopAt E ext 33 0 fu [true, true, true, true, false, true, false] [] fu1 (tabTm [1, 5, 6] [.int .i64 line, .str t, .int .i64 i]) (tabOb [])
def impl_PlaceOfLine_L7 (fu fu1 : Nat) (line : Int) (s : ByteArray) (x : Int) (x_1 : Int) : Option (Int) := loopAt E ext 20 0 fu [true, true, true, true, false, true, false] [] fu1 (tabTm [1, 5, 15, 16] [.int .i64 line, .str s, .int .i64 x, .int .i64 x_1]) (tabOb [])
def laws_szRopeEditS_L5 (fu fu1 : Nat) (a : List T_iis) (left : Int) (i : Int) : Option (Int) := loopAt E ext 34 0 fu [true, true, true, false, true, false] [] fu1 (tabTm [0, 1, 5] [.ro e_iis a, .int .i64 left, .int .i64 i]) (tabOb [])
def laws_toRopeEditS_L3 (fu fu1 : Nat) (a : List T_iis) (i : Int) (out : List T_iis) : Option (List T_iis) := loopAt E ext 36 0 fu [true, true, false, true, false] [] fu1 (tabTm [0, 3, 4] [.ro e_iis a, .own 500, .int .i64 i]) (tabOb [(500, some (.row (.is false) e_iis out))])
def spec_l20Edit (fu : Nat) (r : List T_siiii) (r_1 : List T_sib) (edits : List T_iis) : Option (Int × List T_siiii × List T_sib) := evF E ext fu 77 [.agg [.ro e_siiii r, .ro e_sib r_1], .ro e_iis edits] []
def slices_Clone_Mark_Mark (fu : Nat) (s : List T_sib) : Option (List T_sib) := evF E ext fu 79 [.ro e_sib s] []
def impl_EditRope_L7 (fu fu1 : Nat) (s : ByteArray) (x : List T_iis) (x_1 : Int) (x_2 : Int) (x_3 : Int) (marks : List T_sib) : Option (Int × List T_siiii × List T_sib) := loopAt E ext 37 0 fu [true, true, true, true, false, true, false] [] fu1 (tabTm [4, 5, 6, 23, 24, 25] [.box 500 0, .str s, .own 501, .ro e_iis x, .int .i64 x_1, .int .i64 x_2]) (tabOb [(500, some (.box [.int .i64 x_3, .nil, .nil])), (501, some (.row .unk e_sib marks))])
def laws_eqRopeEditS_L4 (fu fu1 : Nat) (a : List T_iis) (b : List T_iis) (i : Int) : Option (Bool) := loopAt E ext 39 0 fu [true, true, false, true, false] [] fu1 (tabTm [0, 1, 5] [.ro e_iis a, .ro e_iis b, .int .i64 i]) (tabOb [])
def laws_markRopeNodeS (fu : Nat) (k : Int) (a : List T_siiii) : Option (Int × List T_siiii) := evF E ext fu 82 [.own 0, .int .i64 k] [.row .unk e_siiii a]
def laws_markMarkS (fu : Nat) (k : Int) (a : List T_sib) : Option (Int × List T_sib) := evF E ext fu 83 [.own 0, .int .i64 k] [.row .unk e_sib a]
def laws_markRopeEditS_L2 (fu fu1 : Nat) (k : Int) (i : Int) (a : List T_iis) : Option (Int × List T_iis) := loopAt E ext 41 1 fu [true, false, true, false] [] fu1 (tabTm [0, 1, 5] [.own 0, .int .i64 k, .int .i64 i]) (tabOb [(0, some (.row .unk e_iis a))])
def laws_markRopeOut (fu : Nat) (a : Int) (k : Int) (a_1 : List T_siiii) (a_2 : List T_sib) : Option (Int × (List T_siiii × List T_sib)) := evF E ext fu 42 [.agg [.int .i64 a, .own 0, .own 1], .int .i64 k] [.row .unk e_siiii a_1, .row .unk e_sib a_2]
def laws_heldRopeOut (fu : Nat) (a : Int) (a_1 : List T_siiii) (a_2 : List T_sib) (k : Int) : Option (Int) := evF E ext fu 43 [.agg [.int .i64 a, .ro e_siiii a_1, .ro e_sib a_2], .int .i64 k] []
def spec_l01Source (fu : Nat) (code : List T_y) : Option (List T_y × Int × Int × Int) := evF E ext fu 56 [.rc 0 e_y code] []
def spec_l01Src_anyRope (fu : Nat) (s : List T_y) (s_1 : Int) (s_2 : Int) (s_3 : Int) : Option ((List T_siiii × List T_sib) × (List T_y × Int × Int × Int)) := evF E ext fu 97 [.box 0 0] [.box [.rc 0 e_y s, .int .i64 s_1, .int .u64 s_2, .int .i64 s_3]]
def spec_l01Src_ropeEdits (fu : Nat) (n : Int) (s : List T_y) (s_1 : Int) (s_2 : Int) (s_3 : Int) : Option (List T_iis × (List T_y × Int × Int × Int)) := evF E ext fu 98 [.box 0 0, .int .i64 n] [.box [.rc 0 e_y s, .int .i64 s_1, .int .u64 s_2, .int .i64 s_3]]
def laws_FnRopeEdits_L11'1 (fu fu1 : Nat) (t : ByteArray) (i : Int) (x : List T_siiii) (x_1 : List T_sib) (edits : List T_iis) (want : Int) (x_2 : List T_siiii) (x_3 : List T_sib) (o : Int) (x_4 : List T_siiii) (x_5 : List T_sib) (x_6 : List T_siiii) (x_7 : List T_sib) : Option (Bool) := loopAt E ext 13 0 fu [true, true, true, true, true, true, true, true, false, true, false] [] fu1 (tabTm [3, 4, 5, 6, 7, 8, 9] [.box 500 0, .own 503, .box 504 0, .box 507 0, .str t, .box 510 0, .int .i64 i]) (tabOb [(500, some (.box [.own 501, .own 502])), (501, some (.row .unk e_siiii x)), (502, some (.row .unk e_sib x_1)), (503, some (.row .unk e_iis edits)), (504, some (.box [.int .i64 want, .own 505, .own 506])), (505, some (.row .unk e_siiii x_2)), (506, some (.row .unk e_sib x_3)), (507, some (.box [.int .i64 o, .own 508, .own 509])), (508, some (.row .unk e_siiii x_4)), (509, some (.row .unk e_sib x_5)), (510, some (.box [.own 511, .own 512])), (511, some (.row .unk e_siiii x_6)), (512, some (.row .unk e_sib x_7))])
def laws_FnRopeEdits_L22 (fu fu1 : Nat) (i : Int) (x : List T_siiii) (x_1 : List T_sib) (want : Int) (x_2 : List T_siiii) (x_3 : List T_sib) (o : Int) (x_4 : List T_siiii) (x_5 : List T_sib) : Option (Bool) := loopAt E ext 13 0 fu [true, true, true, true, true, true, true, true, true, true, false, true, false] [] fu1 (tabTm [3, 5, 6, 8, 12] [.box 500 0, .box 503 0, .box 506 0, .box 509 0, .int .i64 i]) (tabOb [(500, some (.box [.own 501, .own 502])), (501, some (.row .unk e_siiii x)), (502, some (.row .unk e_sib x_1)), (503, some (.box [.int .i64 want, .own 504, .own 505])), (504, some (.row .unk e_siiii x_2)), (505, some (.row .unk e_sib x_3)), (506, some (.box [.int .i64 o, .own 507, .own 508])), (507, some (.row .unk e_siiii x_4)), (508, some (.row .unk e_sib x_5)), (509, some (.box [.own 501, .own 502]))])
def laws_szRopeNodeS_L5 (fu fu1 : Nat) (a : List T_siiii) (left : Int) (i : Int) : Option (Int) := loopAt E ext 67 0 fu [true, true, true, false, true, false] [] fu1 (tabTm [0, 1, 5] [.ro e_siiii a, .int .i64 left, .int .i64 i]) (tabOb [])
def laws_szMarkS_L5 (fu fu1 : Nat) (a : List T_sib) (left : Int) (i : Int) : Option (Int) := loopAt E ext 68 0 fu [true, true, true, false, true, false] [] fu1 (tabTm [0, 1, 5] [.ro e_sib a, .int .i64 left, .int .i64 i]) (tabOb [])
def laws_toRopeNodeS_L3 (fu fu1 : Nat) (a : List T_siiii) (i : Int) (out : List T_siiii) : Option (List T_siiii) := loopAt E ext 71 0 fu [true, true, false, true, false] [] fu1 (tabTm [0, 3, 4] [.ro e_siiii a, .own 500, .int .i64 i]) (tabOb [(500, some (.row (.is false) e_siiii out))])
def laws_toMarkS_L3 (fu fu1 : Nat) (a : List T_sib) (i : Int) (out : List T_sib) : Option (List T_sib) := loopAt E ext 72 0 fu [true, true, false, true, false] [] fu1 (tabTm [0, 3, 4] [.ro e_sib a, .own 500, .int .i64 i]) (tabOb [(500, some (.row (.is false) e_sib out))])
def spec_l20Text_L3 (fu fu1 : Nat) (l : List T_siiii) (i : Int) (out : List T_y) : Option (ByteArray) := loopAt E ext 69 0 fu [true, true, false, true, false] [] fu1 (tabTm [0, 3, 4] [.ro e_siiii l, .own 500, .int .i64 i]) (tabOb [(500, some (.row (.is false) e_y out))])
def spec_l20Cut (fu : Nat) (t : ByteArray) : Option (Int) := evF E ext fu 105 [.str t] []
def spec_l20Build'1 (fu : Nat) (t : ByteArray) (l : List T_siiii) : Option (List T_siiii × Unit) := evF E ext fu 60 [.own 0, .str t] [.row .unk e_siiii l]
def spec_RopeFault_L13 (fu fu1 : Nat) (t : ByteArray) (i : Int) (r : List T_siiii) (r_1 : List T_sib) : Option (Int) := loopAt E ext 27 0 fu [true, true, true, true, true, true, false, true, false] [] fu1 (tabTm [1, 3, 6] [.box 500 0, .str t, .int .i64 i]) (tabOb [(500, some (.box [.ro e_siiii r, .ro e_sib r_1]))])
def impl_ropeText_L3 (fu fu1 : Nat) (x : List T_siiii) (x_1 : Int) (x_2 : Int) (b : ByteArray) : Option (ByteArray) := loopAt E ext 61 0 fu [true, true, false, true, false] [] fu1 (tabTm [3, 7, 8, 9] [.box 500 0, .ro e_siiii x, .int .i64 x_1, .int .i64 x_2]) (tabOb [(500, some (.bld b))])
def impl_marksRight_L2 (fu fu1 : Nat) (l : List T_sib) (n : Int) (x : List T_sib) (x_1 : Int) (x_2 : Int) : Option (Bool) := loopAt E ext 63 0 fu [true, false, true, false] [] fu1 (tabTm [0, 1, 7, 8, 9] [.ro e_sib l, .int .i64 n, .ro e_sib x, .int .i64 x_1, .int .i64 x_2]) (tabOb [])
def impl_ropeTree (fu : Nat) (s : ByteArray) (out : List T_siiii) : Option (List T_siiii × Unit) := evF E ext fu 104 [.own 0, .str s] [.row (.is true) e_siiii out]
def slices_Equal_RopeNode_RopeNode_L4 (fu fu1 : Nat) (s1 : List T_siiii) (s2 : List T_siiii) (x : Int) (x_1 : Int) : Option (Bool) := loopAt E ext 64 0 fu [true, true, false, true, false] [] fu1 (tabTm [0, 1, 12, 13] [.ro e_siiii s1, .ro e_siiii s2, .int .i64 x, .int .i64 x_1]) (tabOb [])
def laws_eqRopeNodeS_L4 (fu fu1 : Nat) (a : List T_siiii) (b : List T_siiii) (i : Int) : Option (Bool) := loopAt E ext 73 0 fu [true, true, false, true, false] [] fu1 (tabTm [0, 1, 5] [.ro e_siiii a, .ro e_siiii b, .int .i64 i]) (tabOb [])
def laws_eqMarkS_L4 (fu fu1 : Nat) (a : List T_sib) (b : List T_sib) (i : Int) : Option (Bool) := loopAt E ext 74 0 fu [true, true, false, true, false] [] fu1 (tabTm [0, 1, 5] [.ro e_sib a, .ro e_sib b, .int .i64 i]) (tabOb [])
def spec_l20Ends_L3 (fu fu1 : Nat) (t : ByteArray) (n : Int) (i : Int) : Option (Int) := loopAt E ext 75 0 fu [true, true, false, true, false] [] fu1 (tabTm [0, 3, 4] [.str t, .int .i64 n, .int .i64 i]) (tabOb [])
def unicode_utf8_RuneCountInString (fu : Nat) (s : ByteArray) : Option (Int) := evF E ext fu 108 [.str s] []
def internal_bytealg_CountString (fu : Nat) (x : ByteArray) (x_1 : Int) : Option (Int) := evF E ext fu 109 [.str x, .int .u8 x_1] []
def strings_Count_L6 (fu fu1 : Nat) (s : ByteArray) (substr : ByteArray) (n : Int) : Option (Int) := loopAt E ext 62 0 fu [true, true, true, true, false] [] fu1 (tabTm [0, 1, 5] [.str s, .str substr, .int .i64 n]) (tabOb [])
def laws_szRopeEdit (fu : Nat) (a : Int) (a_1 : Int) (a_2 : ByteArray) (left : Int) : Option (Int) := evF E ext fu 76 [.agg [.int .i64 a, .int .i64 a_1, .str a_2], .int .i64 left] []
def laws_toRopeEdit (fu : Nat) (a : Int) (a_1 : Int) (a_2 : ByteArray) : Option (Int × Int × ByteArray) := evF E ext fu 78 [.agg [.int .i64 a, .int .i64 a_1, .str a_2]] []
def spec_l20Edit_L4 (fu fu1 : Nat) (edits : List T_iis) (t : ByteArray) (i : Int) (x : Int) (marks : List T_sib) : Option (Int × List T_siiii × List T_sib) := loopAt E ext 77 0 fu [true, true, true, false, true, false] [] fu1 (tabTm [1, 4, 5, 6, 7] [.ro e_iis edits, .box 500 0, .str t, .own 501, .int .i64 i]) (tabOb [(500, some (.box [.int .i64 x, .nil, .nil])), (501, some (.row (.is false) e_sib marks))])
def impl_EditRope_J12 (fu fu1 : Nat) (s : ByteArray) (x : List T_iis) (x_1 : Int) (x_2 : Int) (x_3 : Int) (marks : List T_sib) (e : Int) (e_1 : Int) (e_2 : ByteArray) : Option (Int × List T_siiii × List T_sib) := joinAt E ext 37 0 fu [true, true, true, true, false, true, false, false, true, true, false, false, true, true, true] [fu1] (tabTm [4, 5, 6, 8, 23, 24, 25] [.box 500 0, .str s, .own 501, .box 502 0, .ro e_iis x, .int .i64 x_1, .int .i64 x_2]) (tabOb [(500, some (.box [.int .i64 x_3, .nil, .nil])), (501, some (.row .unk e_sib marks)), (502, some (.box [.int .i64 e, .int .i64 e_1, .str e_2]))])
def impl_ropeOf'1 (fu : Nat) (s : ByteArray) (marks : List T_sib) : Option ((List T_siiii × List T_sib) × Unit) := evF E ext fu 59 [.str s, .own 0] [.row .unk e_sib marks]
def laws_eqRopeEdit (fu : Nat) (a : Int) (a_1 : Int) (a_2 : ByteArray) (b : Int) (b_1 : Int) (b_2 : ByteArray) : Option (Bool) := evF E ext fu 81 [.agg [.int .i64 a, .int .i64 a_1, .str a_2], .agg [.int .i64 b, .int .i64 b_1, .str b_2]] []
def laws_markRopeNodeS_L2 (fu fu1 : Nat) (k : Int) (i : Int) (a : List T_siiii) : Option (Int × List T_siiii) := loopAt E ext 82 1 fu [true, false, true, false] [] fu1 (tabTm [0, 1, 5] [.own 0, .int .i64 k, .int .i64 i]) (tabOb [(0, some (.row .unk e_siiii a))])
def laws_markMarkS_L2 (fu fu1 : Nat) (k : Int) (i : Int) (a : List T_sib) : Option (Int × List T_sib) := loopAt E ext 83 1 fu [true, false, true, false] [] fu1 (tabTm [0, 1, 5] [.own 0, .int .i64 k, .int .i64 i]) (tabOb [(0, some (.row .unk e_sib a))])
def laws_markText (fu : Nat) (k : Int) : Option (ByteArray) := evF E ext fu 84 [.int .i64 k] []
def laws_heldRope (fu : Nat) (a : List T_siiii) (a_1 : List T_sib) (k : Int) : Option (Int) := evF E ext fu 85 [.agg [.ro e_siiii a, .ro e_sib a_1], .int .i64 k] []
def spec_l01Source_L3 (fu fu1 : Nat) (code : List T_y) (i : Int) (s : List T_y) (s_1 : Int) (s_2 : Int) (s_3 : Int) : Option (List T_y × Int × Int × Int) := loopAt E ext 56 0 fu [true, true, false, true, false] [] fu1 (tabTm [0, 3, 4] [.rc 0 e_y code, .box 500 0, .int .i64 i]) (tabOb [(500, some (.box [.rc 0 e_y s, .int .i64 s_1, .int .u64 s_2, .int .i64 s_3]))])
def spec_l01Src_rope (fu : Nat) (s : List T_y) (s_1 : Int) (s_2 : Int) (s_3 : Int) : Option ((List T_siiii × List T_sib) × (List T_y × Int × Int × Int)) := evF E ext fu 134 [.box 0 0] [.box [.rc 0 e_y s, .int .i64 s_1, .int .u64 s_2, .int .i64 s_3]]
def spec_l01Src_one (fu : Nat) (of : Int) (s : List T_y) (s_1 : Int) (s_2 : Int) (s_3 : Int) : Option (Bool × (List T_y × Int × Int × Int)) := evF E ext fu 101 [.box 0 0, .int .i64 of] [.box [.rc 0 e_y s, .int .i64 s_1, .int .u64 s_2, .int .i64 s_3]]
def spec_l01Src_anyRope_J4 (fu : Nat) (x : Bool) (s : List T_y) (s_1 : Int) (s_2 : Int) (s_3 : Int) (x_1 : List T_siiii) (x_2 : List T_sib) : Option ((List T_siiii × List T_sib) × (List T_y × Int × Int × Int)) := joinAt E ext 97 1 fu [true, true, false, true, false, true] [] (tabTm [0, 2, 3, 16] [.box 0 0, .box 500 0, .box 501 0, .bool x]) (tabOb [(0, some (.box [.rc 0 e_y s, .int .i64 s_1, .int .u64 s_2, .int .i64 s_3])), (500, some (.box [.nil, .nil])), (501, some (.box [.own 502, .own 503])), (502, some (.row .unk e_siiii x_1)), (503, some (.row .unk e_sib x_2))])
def spec_l01Src_anyRope_J17 (fu : Nat) (x : List T_y) (x_1 : Int) (x_2 : Int) (x_3 : Int) (x_4 : List T_siiii) (x_5 : List T_sib) : Option ((List T_siiii × List T_sib) × (List T_y × Int × Int × Int)) := joinAt E ext 97 1 fu [true, true, true] [] (tabTm [2, 3] [.box 500 0, .box 501 0]) (tabOb [(0, some (.box [.rc 0 e_y x, .int .i64 x_1, .int .u64 x_2, .int .i64 x_3])), (500, some (.box [.nil, .nil])), (501, some (.box [.own 502, .own 503])), (502, some (.row .unk e_siiii x_4)), (503, some (.row .unk e_sib x_5))])
def spec_l01Src_n (fu : Nat) (most : Int) (s : List T_y) (s_1 : Int) (s_2 : Int) (s_3 : Int) : Option (Int × (List T_y × Int × Int × Int)) := evF E ext fu 100 [.box 0 0, .int .i64 most] [.box [.rc 0 e_y s, .int .i64 s_1, .int .u64 s_2, .int .i64 s_3]]
def spec_l01Src_ropeEdits_L3 (fu fu1 : Nat) (n : Int) (k : Int) (s : List T_y) (s_1 : Int) (s_2 : Int) (s_3 : Int) (out : List T_iis) : Option (List T_iis × (List T_y × Int × Int × Int)) := loopAt E ext 98 1 fu [true, true, false, true, false] [] fu1 (tabTm [0, 1, 5, 6] [.box 0 0, .int .i64 n, .own 500, .int .i64 k]) (tabOb [(0, some (.box [.rc 0 e_y s, .int .i64 s_1, .int .u64 s_2, .int .i64 s_3])), (500, some (.row (.is false) e_iis out))])
def laws_FnRopeEdits_L22'1 (fu fu1 : Nat) (i : Int) (x : List T_siiii) (x_1 : List T_sib) (want : Int) (x_2 : List T_siiii) (x_3 : List T_sib) (o : Int) (x_4 : List T_siiii) (x_5 : List T_sib) (x_6 : List T_siiii) (x_7 : List T_sib) : Option (Bool) := loopAt E ext 13 0 fu [true, true, true, true, true, true, true, true, true, true, false, true, false] [] fu1 (tabTm [3, 5, 6, 8, 12] [.box 500 0, .box 503 0, .box 506 0, .box 509 0, .int .i64 i]) (tabOb [(500, some (.box [.own 501, .own 502])), (501, some (.row .unk e_siiii x)), (502, some (.row .unk e_sib x_1)), (503, some (.box [.int .i64 want, .own 504, .own 505])), (504, some (.row .unk e_siiii x_2)), (505, some (.row .unk e_sib x_3)), (506, some (.box [.int .i64 o, .own 507, .own 508])), (507, some (.row .unk e_siiii x_4)), (508, some (.row .unk e_sib x_5)), (509, some (.box [.own 510, .own 511])), (510, some (.row .unk e_siiii x_6)), (511, some (.row .unk e_sib x_7))])
def laws_szRopeNode (fu : Nat) (a : ByteArray) (a_1 : Int) (a_2 : Int) (a_3 : Int) (a_4 : Int) (left : Int) : Option (Int) := evF E ext fu 119 [.agg [.str a, .int .i64 a_1, .int .i64 a_2, .int .i64 a_3, .int .i64 a_4], .int .i64 left] []
def laws_szMark (fu : Nat) (a : ByteArray) (a_1 : Int) (a_2 : Bool) (left : Int) : Option (Int) := evF E ext fu 49 [.agg [.str a, .int .i64 a_1, .bool a_2], .int .i64 left] []
def laws_toRopeNode (fu : Nat) (a : ByteArray) (a_1 : Int) (a_2 : Int) (a_3 : Int) (a_4 : Int) : Option (ByteArray × Int × Int × Int × Int) := evF E ext fu 121 [.agg [.str a, .int .i64 a_1, .int .i64 a_2, .int .i64 a_3, .int .i64 a_4]] []
def laws_toMark (fu : Nat) (a : ByteArray) (a_1 : Int) (a_2 : Bool) : Option (ByteArray × Int × Bool) := evF E ext fu 51 [.agg [.str a, .int .i64 a_1, .bool a_2]] []
def spec_l20Cut_L4 (fu fu1 : Nat) (t : ByteArray) (most : Int) (at' : Int) (i : Int) : Option (Int) := loopAt E ext 105 0 fu [true, true, true, false, true, false] [] fu1 (tabTm [0, 3, 4, 5] [.str t, .int .i64 most, .int .i64 at', .int .i64 i]) (tabOb [])
def spec_l20Mark (fu : Nat) (m : ByteArray) (m_1 : Int) (m_2 : Bool) (size : Int) : Option (Bool) := evF E ext fu 70 [.agg [.str m, .int .i64 m_1, .bool m_2], .int .i64 size] []
def impl_isName (fu : Nat) (s : ByteArray) : Option (Bool) := evF E ext fu 90 [.str s] []
def impl_ropeTree_L7 (fu fu1 : Nat) (s : ByteArray) (n : Int) (lines : Int) (cut : Int) (i : Int) (out : List T_siiii) : Option (List T_siiii × Unit) := loopAt E ext 104 1 fu [true, true, true, true, true, false, true, false] [] fu1 (tabTm [0, 1, 5, 6, 7, 8] [.own 0, .str s, .int .i64 n, .int .i64 lines, .int .i64 cut, .int .i64 i]) (tabOb [(0, some (.row (.is true) e_siiii out))])
def laws_eqRopeNode (fu : Nat) (a : ByteArray) (a_1 : Int) (a_2 : Int) (a_3 : Int) (a_4 : Int) (b : ByteArray) (b_1 : Int) (b_2 : Int) (b_3 : Int) (b_4 : Int) : Option (Bool) := evF E ext fu 122 [.agg [.str a, .int .i64 a_1, .int .i64 a_2, .int .i64 a_3, .int .i64 a_4], .agg [.str b, .int .i64 b_1, .int .i64 b_2, .int .i64 b_3, .int .i64 b_4]] []
def laws_eqMark (fu : Nat) (a : ByteArray) (a_1 : Int) (a_2 : Bool) (b : ByteArray) (b_1 : Int) (b_2 : Bool) : Option (Bool) := evF E ext fu 123 [.agg [.str a, .int .i64 a_1, .bool a_2], .agg [.str b, .int .i64 b_1, .bool b_2]] []
def strings_Index (fu : Nat) (s : ByteArray) (substr : ByteArray) : Option (Int) := evF E ext fu 110 [.str s, .str substr] []
def spec_l20Within (fu : Nat) (t : ByteArray) (at' : Int) (drop : Int) : Option (Bool) := evF E ext fu 124 [.str t, .int .i64 at', .int .i64 drop] []
def spec_l20Edit_L13 (fu fu1 fu2 : Nat) (edits : List T_iis) (t : ByteArray) (i : Int) (k : Int) (x : Int) (marks : List T_sib) (e : Int) (e_1 : Int) (e_2 : ByteArray) : Option (Int × List T_siiii × List T_sib) := loopAt E ext 77 0 fu [true, true, true, false, true, false, false, true, false, false, true, true, true, true, true, false] [fu1] fu2 (tabTm [1, 4, 5, 6, 7, 8, 9] [.ro e_iis edits, .box 500 0, .str t, .own 501, .int .i64 i, .box 502 0, .int .i64 k]) (tabOb [(500, some (.box [.int .i64 x, .nil, .nil])), (501, some (.row (.is false) e_sib marks)), (502, some (.box [.int .i64 e, .int .i64 e_1, .str e_2]))])
def impl_move (fu : Nat) (at' : Int) (drop : Int) (put : Int) (l : List T_sib) : Option (List T_sib × Unit) := evF E ext fu 80 [.own 0, .int .i64 at', .int .i64 drop, .int .i64 put] [.row .unk e_sib l]
def laws_markText_L4 (fu fu1 : Nat) (k : Int) (out : ByteArray) : Option (ByteArray) := loopAt E ext 84 0 fu [true, true, true, false, false] [] fu1 (tabTm [0, 3] [.int .i64 k, .str out]) (tabOb [])
def laws_heldRopeNodeS (fu : Nat) (a : List T_siiii) (k : Int) : Option (Int) := evF E ext fu 126 [.ro e_siiii a, .int .i64 k] []
def laws_heldMarkS (fu : Nat) (a : List T_sib) (k : Int) : Option (Int) := evF E ext fu 127 [.ro e_sib a, .int .i64 k] []
def spec_l01Src_ropeText (fu : Nat) (s : List T_y) (s_1 : Int) (s_2 : Int) (s_3 : Int) : Option (ByteArray × (List T_y × Int × Int × Int)) := evF E ext fu 57 [.box 0 0] [.box [.rc 0 e_y s, .int .i64 s_1, .int .u64 s_2, .int .i64 s_3]]
def spec_RopeOf (fu : Nat) (text : ByteArray) : Option (List T_siiii × List T_sib) := evF E ext fu 17 [.str text] []
def spec_l01Src_rope_L5 (fu fu1 : Nat) (t : ByteArray) (i : Int) (s : List T_y) (s_1 : Int) (s_2 : Int) (s_3 : Int) (x : List T_siiii) (x_1 : List T_sib) (names : List T_s) : Option ((List T_siiii × List T_sib) × (List T_y × Int × Int × Int)) := loopAt E ext 134 1 fu [true, true, true, true, false, true, false] [] fu1 (tabTm [0, 2, 3, 4, 5, 6] [.box 0 0, .box 500 0, .str t, .box 501 0, .own 504, .int .i64 i]) (tabOb [(0, some (.box [.rc 0 e_y s, .int .i64 s_1, .int .u64 s_2, .int .i64 s_3])), (500, some (.box [.nil, .nil])), (501, some (.box [.own 502, .own 503])), (502, some (.row .unk e_siiii x)), (503, some (.row .unk e_sib x_1)), (504, some (.row (.is false) e_s names))])
def spec_l01Src_pick (fu : Nat) (l : List T_s) (s : List T_y) (s_1 : Int) (s_2 : Int) (s_3 : Int) : Option (ByteArray × (List T_y × Int × Int × Int)) := evF E ext fu 99 [.box 0 0, .ro e_s l] [.box [.rc 0 e_y s, .int .i64 s_1, .int .u64 s_2, .int .i64 s_3]]
def spec_l01Src_anyRope_J17'1 (fu : Nat) (x : List T_y) (x_1 : Int) (x_2 : Int) (x_3 : Int) (rHi : Int) (x_4 : List T_siiii) (x_5 : List T_sib) : Option ((List T_siiii × List T_sib) × (List T_y × Int × Int × Int)) := joinAt E ext 97 1 fu [true, true, true] [] (tabTm [2, 3] [.box 500 0, .box 501 0]) (tabOb [(0, some (.box [.rc 0 e_y x, .int .i64 x_1, .int .u64 x_2, .int .i64 x_3])), (500, some (.box [.nil, .nil])), (501, some (.box [.sub 502 0 rHi, .own 503])), (502, some (.row .unk e_siiii x_4)), (503, some (.row .unk e_sib x_5))])
def spec_l01Src_n_J7 (fu : Nat) (most : Int) (v : Int) (s : List T_y) (s_1 : Int) (s_2 : Int) (s_3 : Int) : Option (Int × (List T_y × Int × Int × Int)) := joinAt E ext 100 1 fu [true, true, true, true] [] (tabTm [0, 1, 5] [.box 0 0, .int .i64 most, .int .u64 v]) (tabOb [(0, some (.box [.rc 0 e_y s, .int .i64 s_1, .int .u64 s_2, .int .i64 s_3]))])
def spec_l01Write (fu : Nat) (p : Int) : Option (ByteArray) := evF E ext fu 102 [.int .i64 p] []
def spec_l01Src_ropeEdits_J8 (fu fu1 : Nat) (n : Int) (k : Int) (s : List T_y) (s_1 : Int) (s_2 : Int) (s_3 : Int) (out : List T_iis) (e : Int) (e_1 : Int) (e_2 : ByteArray) : Option (List T_iis × (List T_y × Int × Int × Int)) := joinAt E ext 98 1 fu [true, true, false, true, false, false, true, false, false, true, true] [fu1] (tabTm [0, 1, 5, 6, 7] [.box 0 0, .int .i64 n, .own 500, .int .i64 k, .box 501 0]) (tabOb [(0, some (.box [.rc 0 e_y s, .int .i64 s_1, .int .u64 s_2, .int .i64 s_3])), (500, some (.row (.is false) e_iis out)), (501, some (.box [.int .i64 e, .int .i64 e_1, .str e_2]))])
def spec_l01Next (fu : Nat) (t : ByteArray) (at' : Int) : Option (Int × Int × Bool) := evF E ext fu 137 [.str t, .int .i64 at'] []
def spec_l17IsName (fu : Nat) (t : ByteArray) : Option (Bool) := evF E ext fu 120 [.str t] []
def impl_isName_L2 (fu fu1 : Nat) (s : ByteArray) (x : Int) (x_1 : Int) : Option (Bool) := loopAt E ext 90 0 fu [true, false, true, false] [] fu1 (tabTm [0, 6, 7] [.str s, .int .i64 x, .int .i64 x_1]) (tabOb [])
def impl_read (fu : Nat) (s : ByteArray) : Option (List T_iiib) := evF E ext fu 136 [.str s] []
def impl_ropeTree'1 (fu : Nat) (s : ByteArray) (out : List T_siiii) : Option (List T_siiii × Unit) := evF E ext fu 104 [.own 0, .str s] [.row .unk e_siiii out]
def internal_stringslite_Index (fu : Nat) (s : ByteArray) (substr : ByteArray) : Option (Int) := evF E ext fu 139 [.str s, .str substr] []
def spec_l20Moved (fu : Nat) (m : ByteArray) (m_1 : Int) (m_2 : Bool) (e : Int) (e_1 : Int) (e_2 : ByteArray) : Option (Int) := evF E ext fu 125 [.agg [.str m, .int .i64 m_1, .bool m_2], .agg [.int .i64 e, .int .i64 e_1, .str e_2]] []
def impl_move_L3 (fu fu1 : Nat) (at' : Int) (drop : Int) (put : Int) (x : Int) (x_1 : Int) (x_2 : List T_sib) (l : List T_sib) : Option (List T_sib × Unit) := loopAt E ext 80 1 fu [true, true, false, true, false] [] fu1 (tabTm [0, 1, 2, 3, 14, 15] [.own 500, .int .i64 at', .int .i64 drop, .int .i64 put, .int .i64 x, .int .i64 x_1]) (tabOb [(0, some (.row .unk e_sib x_2)), (500, some (.row .unk e_sib l))])
def laws_heldRopeNodeS_L2 (fu fu1 : Nat) (a : List T_siiii) (k : Int) (i : Int) : Option (Int) := loopAt E ext 126 0 fu [true, false, true, false] [] fu1 (tabTm [0, 1, 5] [.ro e_siiii a, .int .i64 k, .int .i64 i]) (tabOb [])
def laws_heldMarkS_L2 (fu fu1 : Nat) (a : List T_sib) (k : Int) (i : Int) : Option (Int) := loopAt E ext 127 0 fu [true, false, true, false] [] fu1 (tabTm [0, 1, 5] [.ro e_sib a, .int .i64 k, .int .i64 i]) (tabOb [])
def spec_l01Src_ropeText_L3 (fu fu1 : Nat) (out : ByteArray) (k : Int) (s : List T_y) (s_1 : Int) (s_2 : Int) (s_3 : Int) : Option (ByteArray × (List T_y × Int × Int × Int)) := loopAt E ext 57 1 fu [true, true, false, true, false] [] fu1 (tabTm [0, 3, 4] [.box 0 0, .str out, .int .i64 k]) (tabOb [(0, some (.box [.rc 0 e_y s, .int .i64 s_1, .int .u64 s_2, .int .i64 s_3]))])
def spec_l01Src_rope_L12 (fu fu1 : Nat) (k : Int) (x : List T_y) (x_1 : Int) (x_2 : Int) (x_3 : Int) (x_4 : List T_siiii) (x_5 : List T_sib) : Option ((List T_siiii × List T_sib) × (List T_y × Int × Int × Int)) := loopAt E ext 134 1 fu [true, true, true, true, true, false, true, false, true, true, false] [] fu1 (tabTm [2, 4, 7] [.box 500 0, .box 501 0, .int .i64 k]) (tabOb [(0, some (.box [.rc 0 e_y x, .int .i64 x_1, .int .u64 x_2, .int .i64 x_3])), (500, some (.box [.nil, .nil])), (501, some (.box [.own 502, .own 503])), (502, some (.row .unk e_siiii x_4)), (503, some (.row (.is false) e_sib x_5))])
def spec_l01IsPoint (fu : Nat) (p : Int) : Option (Bool) := evF E ext fu 135 [.int .i64 p] []
def spec_l01Write_J3 (fu : Nat) (p : Int) : Option (ByteArray) := joinAt E ext 102 0 fu [true, true] [] (tabTm [0] [.int .i64 p]) (tabOb [])
def spec_l01Src_ropeEdits_J10 (fu fu1 : Nat) (n : Int) (k : Int) (s : List T_y) (s_1 : Int) (s_2 : Int) (s_3 : Int) (out : List T_iis) (e : Int) (e_1 : Int) (e_2 : ByteArray) : Option (List T_iis × (List T_y × Int × Int × Int)) := joinAt E ext 98 1 fu [true, true, false, true, false, false, true, false, false, true, true, true] [fu1] (tabTm [0, 1, 5, 6, 7] [.box 0 0, .int .i64 n, .own 500, .int .i64 k, .box 501 0]) (tabOb [(0, some (.box [.rc 0 e_y s, .int .i64 s_1, .int .u64 s_2, .int .i64 s_3])), (500, some (.row (.is false) e_iis out)), (501, some (.box [.int .i64 e, .int .i64 e_1, .str e_2]))])
def spec_l01Next_J16 (fu : Nat) (t : ByteArray) (at' : Int) (n : Int) (p : Int) : Option (Int × Int × Bool) := joinAt E ext 137 0 fu [true, true, true, true, true] [] (tabTm [0, 1, 8, 9] [.str t, .int .i64 at', .int .i64 n, .int .i64 p]) (tabOb [])
def spec_l17IsName_L4 (fu fu1 : Nat) (t : ByteArray) (i : Int) : Option (Bool) := loopAt E ext 120 0 fu [true, true, false, true, false] [] fu1 (tabTm [0, 3] [.str t, .int .i64 i]) (tabOb [])
def impl_read_L3 (fu fu1 : Nat) (s : ByteArray) (i : Int) : Option (List T_iiib) := loopAt E ext 136 0 fu [true, true, false, true, false] [] fu1 (tabTm [0, 3, 4] [.str s, .nil, .int .i64 i]) (tabOb [])
def impl_ropeTree_L7'1 (fu fu1 : Nat) (s : ByteArray) (n : Int) (lines : Int) (cut : Int) (i : Int) (out : List T_siiii) : Option (List T_siiii × Unit) := loopAt E ext 104 1 fu [true, true, true, true, true, false, true, false] [] fu1 (tabTm [0, 1, 5, 6, 7, 8] [.own 0, .str s, .int .i64 n, .int .i64 lines, .int .i64 cut, .int .i64 i]) (tabOb [(0, some (.row .unk e_siiii out))])
def internal_stringslite_IndexByte (fu : Nat) (s : ByteArray) (c : Int) : Option (Int) := evF E ext fu 162 [.str s, .int .u8 c] []
def spec_l20Moved_J3 (fu : Nat) (end' : Int) (x : Bool) (m : ByteArray) (m_1 : Int) (m_2 : Bool) (e : Int) (e_1 : Int) (e_2 : ByteArray) : Option (Int) := joinAt E ext 125 0 fu [true, true, false, false, true] [] (tabTm [2, 3, 5, 11] [.box 500 0, .box 501 0, .int .i64 end', .bool x]) (tabOb [(500, some (.box [.str m, .int .i64 m_1, .bool m_2])), (501, some (.box [.int .i64 e, .int .i64 e_1, .str e_2]))])
def impl_move_J13 (fu fu1 : Nat) (at' : Int) (drop : Int) (put : Int) (x : Int) (x_1 : Int) (x_2 : List T_sib) (l : List T_sib) : Option (List T_sib × Unit) := joinAt E ext 80 1 fu [true, true, false, true, false, false, true, true, true] [fu1] (tabTm [0, 1, 2, 3, 14, 15] [.own 500, .int .i64 at', .int .i64 drop, .int .i64 put, .int .i64 x, .int .i64 x_1]) (tabOb [(0, some (.row .unk e_sib x_2)), (500, some (.row .unk e_sib l))])
def spec_l01Src_long (fu : Nat) (c : ByteArray) (n : Int) (s : List T_y) (s_1 : Int) (s_2 : Int) (s_3 : Int) : Option (ByteArray × (List T_y × Int × Int × Int)) := evF E ext fu 103 [.box 0 0, .str c, .int .i64 n] [.box [.rc 0 e_y s, .int .i64 s_1, .int .u64 s_2, .int .i64 s_3]]
def spec_l04Dec (fu : Nat) (n : Int) : Option (ByteArray) := evF E ext fu 159 [.int .i64 n] []
def spec_l01Src_ropeEdits_J12 (fu fu1 : Nat) (n : Int) (k : Int) (s : List T_y) (s_1 : Int) (s_2 : Int) (s_3 : Int) (out : List T_iis) (e : Int) (e_1 : Int) (e_2 : ByteArray) : Option (List T_iis × (List T_y × Int × Int × Int)) := joinAt E ext 98 1 fu [true, true, false, true, false, false, true, false, false, true, true, true, true] [fu1] (tabTm [0, 1, 5, 6, 7] [.box 0 0, .int .i64 n, .own 500, .int .i64 k, .box 501 0]) (tabOb [(0, some (.box [.rc 0 e_y s, .int .i64 s_1, .int .u64 s_2, .int .i64 s_3])), (500, some (.row (.is false) e_iis out)), (501, some (.box [.int .i64 e, .int .i64 e_1, .str e_2]))])
def spec_l01Next_L19 (fu fu1 : Nat) (t : ByteArray) (at' : Int) (n : Int) (p : Int) (i : Int) : Option (Int × Int × Bool) := loopAt E ext 137 0 fu [true, true, true, true, true, true, false, true, false] [] fu1 (tabTm [0, 1, 8, 9, 10] [.str t, .int .i64 at', .int .i64 n, .int .i64 p, .int .i64 i]) (tabOb [])
def unicode_utf8_DecodeRuneInString (fu : Nat) (s : ByteArray) : Option (Int × Int) := evF E ext fu 160 [.str s] []
def impl_read_L3'1 (fu fu1 : Nat) (s : ByteArray) (i : Int) (out : List T_iiib) : Option (List T_iiib) := loopAt E ext 136 0 fu [true, true, false, true, false] [] fu1 (tabTm [0, 3, 4] [.str s, .own 500, .int .i64 i]) (tabOb [(500, some (.row .unk e_iiib out))])
def internal_bytealg_IndexByteString (fu : Nat) (x : ByteArray) (x_1 : Int) : Option (Int) := evF E ext fu 185 [.str x, .int .u8 x_1] []
def spec_l01Src_long_L2 (fu fu1 : Nat) (c : ByteArray) (n : Int) (x : List T_y) (x_1 : Int) (x_2 : Int) (x_3 : Int) (b : List T_y) : Option (ByteArray × (List T_y × Int × Int × Int)) := loopAt E ext 103 1 fu [true, true, false, false] [] fu1 (tabTm [1, 2, 7] [.str c, .int .i64 n, .own 500]) (tabOb [(0, some (.box [.rc 0 e_y x, .int .i64 x_1, .int .u64 x_2, .int .i64 x_3])), (500, some (.row (.is false) e_y b))])
def spec_l04Digits (fu : Nat) (n : Int) : Option (ByteArray) := evF E ext fu 183 [.int .i64 n] []
def spec_l01Src_ropeEdits_J14 (fu fu1 : Nat) (n : Int) (k : Int) (s : List T_y) (s_1 : Int) (s_2 : Int) (s_3 : Int) (out : List T_iis) (e : Int) (e_1 : Int) (e_2 : ByteArray) : Option (List T_iis × (List T_y × Int × Int × Int)) := joinAt E ext 98 1 fu [true, true, false, true, false, false, true, false, false, true, true, true, true, true] [fu1] (tabTm [0, 1, 5, 6, 7] [.box 0 0, .int .i64 n, .own 500, .int .i64 k, .box 501 0]) (tabOb [(0, some (.box [.rc 0 e_y s, .int .i64 s_1, .int .u64 s_2, .int .i64 s_3])), (500, some (.row (.is false) e_iis out)), (501, some (.box [.int .i64 e, .int .i64 e_1, .str e_2]))])
def spec_l04Digits_L4 (fu fu1 : Nat) (n : Int) (out : ByteArray) : Option (ByteArray) := loopAt E ext 183 0 fu [true, true, true, false, false] [] fu1 (tabTm [0, 3] [.int .i64 n, .str out]) (tabOb [])
def spec_l01Src_ropeEdits_J4 (fu fu1 : Nat) (n : Int) (k : Int) (s : List T_y) (s_1 : Int) (s_2 : Int) (s_3 : Int) (out : List T_iis) : Option (List T_iis × (List T_y × Int × Int × Int)) := joinAt E ext 98 1 fu [true, true, false, true, false, false, true, true] [fu1] (tabTm [0, 1, 5, 6] [.box 0 0, .int .i64 n, .own 500, .int .i64 k]) (tabOb [(0, some (.box [.rc 0 e_y s, .int .i64 s_1, .int .u64 s_2, .int .i64 s_3])), (500, some (.row (.is false) e_iis out))])
end
end Go.Proofs.YtkghicadebeceaaDoor.RG
