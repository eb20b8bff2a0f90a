/- The functions that the law reaches, as the evaluator reads them: table and names. -/
import Derived.Test.YtlfkoenopdcjmaaDoorProg
import Derived.Test.YtlfkoenopdcjmaaDoorEG
namespace Go.Proofs.YtlfkoenopdcjmaaDoor.WI
open Go.Eng
set_option linter.unusedVariables false
noncomputable section
instance glb : Glb := Glb.utf8 1 2 128 5
def e_b : CTs := (.one .bool)
abbrev T_b : Type := Bool
noncomputable def z_b : T_b := false
def e_i : CTs := (.one (.int .i64))
abbrev T_i : Type := Int
noncomputable def z_i : T_i := (0 : Int)
def e_s : CTs := (.one .str)
abbrev T_s : Type := ByteArray
noncomputable def z_s : T_s := (⟨#[]⟩ : ByteArray)
def e_y : CTs := (.one (.int .u8))
abbrev T_y : Type := Int
noncomputable def z_y : T_y := (0 : Int)
def e_iiib : CTs := (.cons (.int .i64) (.cons (.int .i64) (.cons (.int .i64) (.one .bool))))
abbrev T_iiib : Type := Int × Int × Int × Bool
noncomputable def z_iiib : T_iiib := ((0 : Int), (0 : Int), (0 : Int), false)
def e_iiii : CTs := (.cons (.int .i64) (.cons (.int .i64) (.cons (.int .i64) (.one (.int .i64)))))
abbrev T_iiii : Type := Int × Int × Int × Int
noncomputable def z_iiii : T_iiii := ((0 : Int), (0 : Int), (0 : Int), (0 : Int))
def sigT : List (Nat × Sig) := [(3, ⟨.bool, []⟩),
  (7, ⟨.int .i64, []⟩),
  (8, ⟨.int .i64, []⟩),
  (21, ⟨.int .i64, []⟩),
  (22, ⟨.bool, []⟩),
  (23, ⟨.int .i64, []⟩),
  (41, ⟨.own e_s, []⟩),
  (42, ⟨.own e_i, []⟩),
  (43, ⟨.int .i64, []⟩),
  (44, ⟨.own e_s, []⟩),
  (45, ⟨.own e_i, []⟩),
  (46, ⟨.int .i64, []⟩),
  (47, ⟨.bool, []⟩),
  (48, ⟨.bool, []⟩),
  (49, ⟨.bool, []⟩),
  (65, ⟨.str, []⟩),
  (66, ⟨.tup (.cons (.int .i64) (.cons (.int .i64) (.one .bool))), []⟩),
  (67, ⟨.agg (.cons (.own e_i) (.one (.own e_i))), []⟩),
  (68, ⟨.bool, []⟩),
  (69, ⟨.int .i64, []⟩),
  (70, ⟨.bool, []⟩),
  (71, ⟨.own e_s, []⟩),
  (72, ⟨.own e_i, []⟩),
  (73, ⟨.own e_iiib, []⟩),
  (74, ⟨.tup (.cons (.int .i64) (.one (.int .i64))), []⟩),
  (85, ⟨.tup (.cons (.int .i32) (.one (.int .i64))), []⟩),
  (87, ⟨.bool, []⟩),
  (88, ⟨.bool, []⟩),
  (89, ⟨.bool, []⟩),
  (90, ⟨.bool, []⟩),
  (91, ⟨.bool, []⟩),
  (92, ⟨.bool, []⟩),
  (93, ⟨.int .i64, []⟩),
  (94, ⟨.tup (.cons (.int .i64) (.one (.int .i64))), []⟩),
  (95, ⟨.own e_i, []⟩),
  (96, ⟨.own e_b, []⟩),
  (97, ⟨.own e_i, []⟩),
  (98, ⟨.tup (.cons (.int .i64) (.one (.int .i64))), []⟩),
  (106, ⟨.int .i64, []⟩),
  (107, ⟨.own e_iiii, []⟩),
  (108, ⟨.own e_iiii, []⟩),
  (109, ⟨.int .i64, []⟩),
  (110, ⟨.bool, [.box (.one (.int .i64)), .box (.one (.int .i64)), .box (.one (.int .i64)), .box (.one (.int .i64)), .box (.one .bool), .box (.one .bool), .box (.one (.int .i64))]⟩),
  (117, ⟨.bool, []⟩),
  (118, ⟨.bool, []⟩)]
def lendT : List (Nat × List Bool) := []
def loopT : List (Nat × List (Nat × Hint)) := [(21, [(4, { live := [3, 4, 5] })]),
  (23, [(3, { live := [3, 9, 10, 11] })]),
  (41, [(3, { live := [0, 1, 5, 6] })]),
  (42, [(4, { live := [0, 3, 4, 5] })]),
  (45, [(3, { live := [3, 7, 8, 9] })]),
  (66, [(19, { live := [0, 1, 8, 9, 10] })]),
  (67, [(3, { live := [0, 2, 3, 4] })]),
  (68, [(13, { live := [0, 7] })]),
  (71, [(3, { live := [0, 1, 5, 6] })]),
  (73, [(3, { live := [0, 3, 4] })]),
  (91, [(1, { live := [0, 1] })]),
  (93, [(2, { live := [0, 1, 5] })]),
  (94, [(4, { live := [0, 4, 5] }), (18, { live := [0, 7, 8] })]),
  (95, [(5, { live := [1, 2, 7, 13, 14, 15] })]),
  (96, [(4, { live := [0, 3, 4, 5, 6, 15, 16, 17] })]),
  (97, [(3, { live := [3, 9, 10, 11] })])]
def joinT : List (Nat × List (Nat × Hint)) := [(23, [(11, { live := [3, 9, 10, 11] })]),
  (43, [(4, { live := [6, 15] })]),
  (65, [(3, { live := [0] })]),
  (66, [(16, { live := [0, 1, 8, 9] })]),
  (68, [(4, { live := [0, 1, 5, 6, 17] }), (6, { live := [0, 1, 5, 6, 24] }), (10, { live := [0, 1, 5, 6, 39] }), (18, { live := [] })]),
  (74, [(14, { live := [0, 44] }), (16, { live := [0, 51] }), (36, { live := [0, 89] }), (40, { live := [0, 103] }), (46, { live := [0, 124] }), (48, { live := [0, 131] }), (61, { live := [] })]),
  (89, [(8, { live := [6, 11, 28] })]),
  (96, [(11, { live := [0, 3, 4, 5, 6, 8, 9, 15, 16, 17] }), (13, { live := [0, 3, 4, 5, 6, 8, 9, 15, 16, 17] }), (17, { live := [0, 3, 4, 5, 6, 15, 16, 17] })]),
  (106, [(11, { live := [] })]),
  (109, [(2, { live := [0, 3] }), (4, { live := [0, 11] })]),
  (110, [(2, { live := [0, 1, 2, 3, 4, 5, 6, 8] }), (4, { live := [0, 1, 2, 3, 4, 5, 6, 15] }), (6, { live := [0, 1, 2, 3, 4, 5, 6, 22] }), (8, { live := [0, 1, 2, 3, 4, 5, 6, 41] }), (10, { live := [0, 1, 2, 3, 4, 5, 6, 56] }), (19, { live := [] })])]
noncomputable def E : Env := { P := Go.Proofs.Tryd.prog, sig := fun f => lookN ⟨.bool, []⟩ f sigT, lend := fun f => lookN [] f lendT, loopHint := fun f k => lookT f k loopT, joinHint := fun f k => lookT f k joinT, over := fun f => memb f [85] }
def bs (l : List Nat) : ByteArray := ⟨⟨l.map UInt8.ofNat⟩⟩
def ext : Cf E := fun f vs os =>
  if h : f = 85 then h ▸ (xDecodeRune vs os : Option (E.sig 85).T) else
  none
def laws_FnExactWideOf (fu : Nat) (aText : ByteArray) : Option (Bool) := evF E ext fu 3 [.str aText] []
def spec_WideOf (fu : Nat) (text : ByteArray) : Option (Int) := evF E ext fu 7 [.str text] []
def impl_WideOf (fu : Nat) (text : ByteArray) : Option (Int) := evF E ext fu 8 [.str text] []
def spec_l22Wide (fu : Nat) (t : ByteArray) : Option (Int) := evF E ext fu 21 [.str t] []
def impl_long (fu : Nat) (s : ByteArray) : Option (Bool) := evF E ext fu 22 [.str s] []
def impl_wideOf (fu : Nat) (text : ByteArray) : Option (Int) := evF E ext fu 23 [.str text] []
def spec_l07Chars (fu : Nat) (t : ByteArray) : Option (List T_i) := evF E ext fu 42 [.str t] []
def spec_l07Pieces (fu : Nat) (t : ByteArray) (cuts : List T_i) : Option (List T_s) := evF E ext fu 41 [.str t, .ro e_i cuts] []
def spec_l22Wide_L4 (fu fu1 : Nat) (n : Int) (i : Int) (l : List T_s) : Option (Int) := loopAt E ext 21 0 fu [true, true, true, false, true, false] [] fu1 (tabTm [3, 4, 5] [.own 500, .int .i64 n, .int .i64 i]) (tabOb [(500, some (.row .unk e_s l))])
def impl_chars (fu : Nat) (text : ByteArray) : Option (List T_s) := evF E ext fu 44 [.str text] []
def impl_wideOf_L3 (fu fu1 : Nat) (n : Int) (x : Int) (x_1 : Int) (x_2 : List T_s) : Option (Int) := loopAt E ext 23 0 fu [true, true, false, true, false] [] fu1 (tabTm [3, 9, 10, 11] [.int .i64 n, .own 500, .int .i64 x, .int .i64 x_1]) (tabOb [(500, some (.row .unk e_s x_2))])
def spec_l07RowOf (fu : Nat) (t : ByteArray) : Option (List T_i × List T_i) := evF E ext fu 67 [.str t] []
def spec_l07Chars_L4 (fu fu1 : Nat) (t : ByteArray) (i : Int) (x : List T_i) (x_1 : List T_i) (out : List T_i) : Option (List T_i) := loopAt E ext 42 0 fu [true, true, true, false, true, false] [] fu1 (tabTm [0, 3, 4, 5] [.str t, .box 500 0, .own 503, .int .i64 i]) (tabOb [(500, some (.box [.own 501, .own 502])), (501, some (.row .unk e_i x)), (502, some (.row .unk e_i x_1)), (503, some (.row (.is false) e_i out))])
def spec_l07Pieces_L3 (fu fu1 : Nat) (t : ByteArray) (cuts : List T_i) (i : Int) (out : List T_s) : Option (List T_s) := loopAt E ext 41 0 fu [true, true, false, true, false] [] fu1 (tabTm [0, 1, 5, 6] [.str t, .ro e_i cuts, .own 500, .int .i64 i]) (tabOb [(500, some (.row (.is false) e_s out))])
def spec_l22Char (fu : Nat) (t : ByteArray) : Option (Int) := evF E ext fu 43 [.str t] []
def impl_charPlaces (fu : Nat) (text : ByteArray) : Option (List T_i) := evF E ext fu 72 [.str text] []
def impl_piecesOf (fu : Nat) (text : ByteArray) (cuts : List T_i) : Option (List T_s) := evF E ext fu 71 [.str text, .ro e_i cuts] []
def impl_points (fu : Nat) (s : ByteArray) : Option (List T_i) := evF E ext fu 45 [.str s] []
def impl_Category (fu : Nat) (p : Int) : Option (Int) := evF E ext fu 46 [.int .i64 p] []
def impl_isSyllable (fu : Nat) (p : Int) : Option (Bool) := evF E ext fu 47 [.int .i64 p] []
def impl_wideOf_J11 (fu fu1 : Nat) (n : Int) (x : Int) (x_1 : Int) (x_2 : List T_s) : Option (Int) := joinAt E ext 23 0 fu [true, true, false, true, false, false, true, true, true] [fu1] (tabTm [3, 9, 10, 11] [.int .i64 n, .own 500, .int .i64 x, .int .i64 x_1]) (tabOb [(500, some (.row .unk e_s x_2))])
def impl_in (fu : Nat) (p : Int) (a : Int) (b : Int) : Option (Bool) := evF E ext fu 48 [.int .i64 p, .int .i64 a, .int .i64 b] []
def impl_isPicture (fu : Nat) (p : Int) : Option (Bool) := evF E ext fu 49 [.int .i64 p] []
def spec_l07RowOf_L3 (fu fu1 : Nat) (t : ByteArray) (i : Int) : Option (List T_i × List T_i) := loopAt E ext 67 0 fu [true, true, false, true, false] [] fu1 (tabTm [0, 2, 3, 4] [.str t, .box 500 0, .box 501 0, .int .i64 i]) (tabOb [(500, some (.box [.nil, .nil])), (501, some (.box [.nil, .nil]))])
def spec_l07Char (fu : Nat) (l : List T_i) (i : Int) : Option (Bool) := evF E ext fu 68 [.ro e_i l, .int .i64 i] []
def spec_l01Next (fu : Nat) (t : ByteArray) (at' : Int) : Option (Int × Int × Bool) := evF E ext fu 66 [.str t, .int .i64 at'] []
def spec_l01Cat (fu : Nat) (p : Int) : Option (Int) := evF E ext fu 69 [.int .i64 p] []
def spec_l22Char_J4 (fu : Nat) (c : Int) (x : Bool) : Option (Int) := joinAt E ext 43 0 fu [true, true, true, false, false, true] [] (tabTm [6, 15] [.int .i64 c, .bool x]) (tabOb [])
def spec_l07Picture (fu : Nat) (p : Int) : Option (Bool) := evF E ext fu 70 [.int .i64 p] []
def impl_read (fu : Nat) (s : ByteArray) : Option (List T_iiib) := evF E ext fu 73 [.str s] []
def impl_onlyPoints (fu : Nat) (l : List T_iiib) : Option (List T_i) := evF E ext fu 97 [.ro e_iiib l] []
def impl_charCuts (fu : Nat) (l : List T_i) : Option (List T_b) := evF E ext fu 96 [.ro e_i l] []
def impl_placesOf (fu : Nat) (l : List T_iiib) (n : Int) (cut : List T_b) : Option (List T_i) := evF E ext fu 95 [.ro e_iiib l, .int .i64 n, .ro e_b cut] []
def impl_piecesOf_L3 (fu fu1 : Nat) (text : ByteArray) (cuts : List T_i) (i : Int) : Option (List T_s) := loopAt E ext 71 0 fu [true, true, false, true, false] [] fu1 (tabTm [0, 1, 5, 6] [.str text, .ro e_i cuts, .nil, .int .i64 i]) (tabOb [])
def impl_points_L3 (fu fu1 : Nat) (x : Int) (x_1 : Int) (x_2 : List T_iiib) : Option (List T_i) := loopAt E ext 45 0 fu [true, true, false, true, false] [] fu1 (tabTm [3, 7, 8, 9] [.nil, .own 500, .int .i64 x, .int .i64 x_1]) (tabOb [(500, some (.row .unk e_iiib x_2))])
def impl_kind (fu : Nat) (p : Int) : Option (Int × Int) := evF E ext fu 74 [.int .i64 p] []
def spec_l07RowOf_L3'1 (fu fu1 : Nat) (t : ByteArray) (i : Int) (x : List T_i) (x_1 : List T_i) : Option (List T_i × List T_i) := loopAt E ext 67 0 fu [true, true, false, true, false] [] fu1 (tabTm [0, 2, 3, 4] [.str t, .box 500 0, .box 501 0, .int .i64 i]) (tabOb [(500, some (.box [.nil, .nil])), (501, some (.box [.own 502, .own 503])), (502, some (.row .unk e_i x)), (503, some (.row .unk e_i x_1))])
def spec_l07Char_J4 (fu : Nat) (l : List T_i) (i : Int) (left : Int) (right : Int) (x : Bool) : Option (Bool) := joinAt E ext 68 0 fu [true, true, true, false, false, true] [] (tabTm [0, 1, 5, 6, 17] [.ro e_i l, .int .i64 i, .int .i64 left, .int .i64 right, .bool x]) (tabOb [])
def spec_l01Next_J16 (fu : Nat) (t : ByteArray) (at' : Int) (n : Int) (p : Int) : Option (Int × Int × Bool) := joinAt E ext 66 0 fu [true, true, true, true, true] [] (tabTm [0, 1, 8, 9] [.str t, .int .i64 at', .int .i64 n, .int .i64 p]) (tabOb [])
def spec_l01Known (fu : Nat) (p : Int) : Option (Int × Int) := evF E ext fu 94 [.int .i64 p] []
def impl_read_L3 (fu fu1 : Nat) (s : ByteArray) (i : Int) : Option (List T_iiib) := loopAt E ext 73 0 fu [true, true, false, true, false] [] fu1 (tabTm [0, 3, 4] [.str s, .nil, .int .i64 i]) (tabOb [])
def impl_onlyPoints_L3 (fu fu1 : Nat) (x : List T_iiib) (x_1 : Int) (x_2 : Int) (out : List T_i) : Option (List T_i) := loopAt E ext 97 0 fu [true, true, false, true, false] [] fu1 (tabTm [3, 9, 10, 11] [.own 500, .ro e_iiib x, .int .i64 x_1, .int .i64 x_2]) (tabOb [(500, some (.row (.is false) e_i out))])
def impl_charCuts_L4 (fu fu1 : Nat) (l : List T_i) (x : List T_i) (x_1 : Int) (x_2 : Int) (out : List T_b) (picture : Bool) (bind : Bool) (flags : Int) : Option (List T_b) := loopAt E ext 96 0 fu [true, true, true, false, true, false] [] fu1 (tabTm [0, 3, 4, 5, 6, 15, 16, 17] [.ro e_i l, .own 500, .box 501 0, .box 502 0, .box 503 0, .ro e_i x, .int .i64 x_1, .int .i64 x_2]) (tabOb [(500, some (.row (.is false) e_b out)), (501, some (.box [.bool picture])), (502, some (.box [.bool bind])), (503, some (.box [.int .i64 flags]))])
def impl_placesOf_L5 (fu fu1 : Nat) (n : Int) (cut : List T_b) (x : List T_iiib) (x_1 : Int) (x_2 : Int) (out : List T_i) : Option (List T_i) := loopAt E ext 95 0 fu [true, true, true, false, true, false] [] fu1 (tabTm [1, 2, 7, 13, 14, 15] [.int .i64 n, .ro e_b cut, .own 500, .ro e_iiib x, .int .i64 x_1, .int .i64 x_2]) (tabOb [(500, some (.row (.is false) e_i out))])
def impl_piecesOf_L3'1 (fu fu1 : Nat) (text : ByteArray) (cuts : List T_i) (i : Int) (out : List T_s) : Option (List T_s) := loopAt E ext 71 0 fu [true, true, false, true, false] [] fu1 (tabTm [0, 1, 5, 6] [.str text, .ro e_i cuts, .own 500, .int .i64 i]) (tabOb [(500, some (.row .unk e_s out))])
def impl_points_L3'1 (fu fu1 : Nat) (x : Int) (x_1 : Int) (out : List T_i) (x_2 : List T_iiib) : Option (List T_i) := loopAt E ext 45 0 fu [true, true, false, true, false] [] fu1 (tabTm [3, 7, 8, 9] [.own 500, .own 501, .int .i64 x, .int .i64 x_1]) (tabOb [(500, some (.row .unk e_i out)), (501, some (.row .unk e_iiib x_2))])
def impl_block (fu : Nat) (p : Int) : Option (Int × Int) := evF E ext fu 98 [.int .i64 p] []
def impl_kind_J14 (fu : Nat) (p : Int) (x : Bool) : Option (Int × Int) := joinAt E ext 74 0 fu [true, true, false, false, true] [] (tabTm [0, 44] [.int .i64 p, .bool x]) (tabOb [])
def spec_l07Control (fu : Nat) (p : Int) : Option (Bool) := evF E ext fu 88 [.int .i64 p] []
def spec_l07Char_J6 (fu : Nat) (l : List T_i) (i : Int) (left : Int) (right : Int) (x : Bool) : Option (Bool) := joinAt E ext 68 0 fu [true, true, true, false, false, true, true, true] [] (tabTm [0, 1, 5, 6, 24] [.ro e_i l, .int .i64 i, .int .i64 left, .int .i64 right, .bool x]) (tabOb [])
def spec_l01Next_L19 (fu fu1 : Nat) (t : ByteArray) (at' : Int) (n : Int) (p : Int) (i : Int) : Option (Int × Int × Bool) := loopAt E ext 66 0 fu [true, true, true, true, true, true, false, true, false] [] fu1 (tabTm [0, 1, 8, 9, 10] [.str t, .int .i64 at', .int .i64 n, .int .i64 p, .int .i64 i]) (tabOb [])
def spec_l01Cased (fu : Nat) : Option (List T_iiii) := evF E ext fu 107 [] []
def spec_l01Known_L4 (fu fu1 : Nat) (p : Int) (i : Int) (rows : List T_iiii) : Option (Int × Int) := loopAt E ext 94 0 fu [true, false, true, false, true, false, true, false] [] fu1 (tabTm [0, 4, 5] [.int .i64 p, .own 500, .int .i64 i]) (tabOb [(500, some (.row .unk e_iiii rows))])
def spec_l01Rows (fu : Nat) : Option (List T_iiii) := evF E ext fu 108 [] []
def spec_l01Known_L18 (fu fu1 : Nat) (p : Int) (i : Int) (rows : List T_iiii) : Option (Int × Int) := loopAt E ext 94 0 fu [true, true, true, true, false, true, false] [] fu1 (tabTm [0, 7, 8] [.int .i64 p, .own 500, .int .i64 i]) (tabOb [(500, some (.row .unk e_iiii rows))])
def unicode_utf8_DecodeRuneInString (fu : Nat) (s : ByteArray) : Option (Int × Int) := evF E ext fu 85 [.str s] []
def impl_read_L3'1 (fu fu1 : Nat) (s : ByteArray) (i : Int) (out : List T_iiib) : Option (List T_iiib) := loopAt E ext 73 0 fu [true, true, false, true, false] [] fu1 (tabTm [0, 3, 4] [.str s, .own 500, .int .i64 i]) (tabOb [(500, some (.row .unk e_iiib out))])
def impl_charClass (fu : Nat) (p : Int) : Option (Int) := evF E ext fu 109 [.int .i64 p] []
def impl_charCuts_1 (fu : Nat) (x : Int) (x_1 : Int) (x_2 : Int) (x_3 : Int) (x_4 : Bool) (x_5 : Bool) (x_6 : Int) : Option (Bool × (Int × Int × Int × Int × Bool × Bool × Int)) := evF E ext fu 110 [.box 0 0, .box 1 0, .box 2 0, .box 3 0, .box 4 0, .box 5 0, .box 6 0] [.box [.int .i64 x], .box [.int .i64 x_1], .box [.int .i64 x_2], .box [.int .i64 x_3], .box [.bool x_4], .box [.bool x_5], .box [.int .i64 x_6]]
def impl_charCuts_J11 (fu fu1 : Nat) (l : List T_i) (x : List T_i) (x_1 : Int) (x_2 : Int) (out : List T_b) (picture : Bool) (bind : Bool) (flags : Int) (p : Int) (c : Int) : Option (List T_b) := joinAt E ext 96 0 fu [true, true, true, false, true, false, false, true, true, false, false, true, true, true] [fu1] (tabTm [0, 3, 4, 5, 6, 8, 9, 15, 16, 17] [.ro e_i l, .own 500, .box 501 0, .box 502 0, .box 503 0, .box 504 0, .box 505 0, .ro e_i x, .int .i64 x_1, .int .i64 x_2]) (tabOb [(500, some (.row (.is false) e_b out)), (501, some (.box [.bool picture])), (502, some (.box [.bool bind])), (503, some (.box [.int .i64 flags])), (504, some (.box [.int .i64 p])), (505, some (.box [.int .i64 c]))])
def impl_kind_J16 (fu : Nat) (p : Int) (x : Bool) : Option (Int × Int) := joinAt E ext 74 0 fu [true, true, false, false, true, true, true] [] (tabTm [0, 51] [.int .i64 p, .bool x]) (tabOb [])
def spec_l07Syllable (fu : Nat) (a : Int) (b : Int) : Option (Bool) := evF E ext fu 89 [.int .i64 a, .int .i64 b] []
def spec_l07Mark (fu : Nat) (p : Int) : Option (Bool) := evF E ext fu 90 [.int .i64 p] []
def spec_l07Bound (fu : Nat) (l : List T_i) (at' : Int) : Option (Bool) := evF E ext fu 91 [.ro e_i l, .int .i64 at'] []
def spec_l07Char_J10 (fu : Nat) (l : List T_i) (i : Int) (left : Int) (right : Int) (x : Bool) : Option (Bool) := joinAt E ext 68 0 fu [true, true, true, false, false, true, true, true, true, true, true, true] [] (tabTm [0, 1, 5, 6, 39] [.ro e_i l, .int .i64 i, .int .i64 left, .int .i64 right, .bool x]) (tabOb [])
def spec_l01IsPoint (fu : Nat) (p : Int) : Option (Bool) := evF E ext fu 87 [.int .i64 p] []
def spec_l01Write (fu : Nat) (p : Int) : Option (ByteArray) := evF E ext fu 65 [.int .i64 p] []
def impl_charClass_J2 (fu : Nat) (p : Int) (x : Bool) : Option (Int) := joinAt E ext 109 0 fu [true, false, false, true] [] (tabTm [0, 3] [.int .i64 p, .bool x]) (tabOb [])
def impl_charCuts_1_J2 (fu : Nat) (x : Bool) (x_1 : Int) (x_2 : Int) (x_3 : Int) (x_4 : Int) (x_5 : Bool) (x_6 : Bool) (x_7 : Int) : Option (Bool × (Int × Int × Int × Int × Bool × Bool × Int)) := joinAt E ext 110 7 fu [true, false, false, true] [] (tabTm [0, 1, 2, 3, 4, 5, 6, 8] [.box 0 0, .box 1 0, .box 2 0, .box 3 0, .box 4 0, .box 5 0, .box 6 0, .bool x]) (tabOb [(0, some (.box [.int .i64 x_1])), (1, some (.box [.int .i64 x_2])), (2, some (.box [.int .i64 x_3])), (3, some (.box [.int .i64 x_4])), (4, some (.box [.bool x_5])), (5, some (.box [.bool x_6])), (6, some (.box [.int .i64 x_7]))])
def impl_charCuts_J13 (fu fu1 : Nat) (l : List T_i) (x : List T_i) (x_1 : Int) (x_2 : Int) (out : List T_b) (picture : Bool) (bind : Bool) (flags : Int) (p : Int) (c : Int) : Option (List T_b) := joinAt E ext 96 0 fu [true, true, true, false, true, false, false, true, true, false, false, true, true, true, true] [fu1] (tabTm [0, 3, 4, 5, 6, 8, 9, 15, 16, 17] [.ro e_i l, .own 500, .box 501 0, .box 502 0, .box 503 0, .box 504 0, .box 505 0, .ro e_i x, .int .i64 x_1, .int .i64 x_2]) (tabOb [(500, some (.row (.is false) e_b out)), (501, some (.box [.bool picture])), (502, some (.box [.bool bind])), (503, some (.box [.int .i64 flags])), (504, some (.box [.int .i64 p])), (505, some (.box [.int .i64 c]))])
def impl_kind_J36 (fu : Nat) (p : Int) (x : Bool) : Option (Int × Int) := joinAt E ext 74 0 fu [true, true, false, false, true, true, true, true, true, true, true, true, true, true, true, true, true, true, true, true, true, true, true, true, true, true, true] [] (tabTm [0, 89] [.int .i64 p, .bool x]) (tabOb [])
def spec_l07Part (fu : Nat) (p : Int) : Option (Int) := evF E ext fu 106 [.int .i64 p] []
def spec_l07Syllable_J8 (fu : Nat) (y : Int) (x : Int) (x_1 : Bool) : Option (Bool) := joinAt E ext 89 0 fu [true, true, true, false, true, false, true, true, true] [] (tabTm [6, 11, 28] [.int .i64 y, .int .i64 x, .bool x_1]) (tabOb [])
def spec_l07Bound_L1 (fu fu1 : Nat) (l : List T_i) (at' : Int) : Option (Bool) := loopAt E ext 91 0 fu [true, false, false] [] fu1 (tabTm [0, 1] [.ro e_i l, .int .i64 at']) (tabOb [])
def spec_l07Char_L13 (fu fu1 : Nat) (l : List T_i) (k : Int) : Option (Bool) := loopAt E ext 68 0 fu [true, true, true, false, false, true, true, true, true, true, true, true, true, true, false, true, false, false] [] fu1 (tabTm [0, 7] [.ro e_i l, .int .i64 k]) (tabOb [])
def spec_l07Flag (fu : Nat) (p : Int) : Option (Bool) := evF E ext fu 92 [.int .i64 p] []
def spec_l07Flags (fu : Nat) (l : List T_i) (at' : Int) : Option (Int) := evF E ext fu 93 [.ro e_i l, .int .i64 at'] []
def spec_l07Char_J18 (fu : Nat) : Option (Bool) := joinAt E ext 68 0 fu [true, true, true, true] [] (tabTm [] []) (tabOb [])
def spec_l01Write_J3 (fu : Nat) (p : Int) : Option (ByteArray) := joinAt E ext 65 0 fu [true, true] [] (tabTm [0] [.int .i64 p]) (tabOb [])
def impl_isMark (fu : Nat) (p : Int) : Option (Bool) := evF E ext fu 117 [.int .i64 p] []
def impl_charClass_J4 (fu : Nat) (p : Int) (x : Bool) : Option (Int) := joinAt E ext 109 0 fu [true, false, false, true, true, true] [] (tabTm [0, 11] [.int .i64 p, .bool x]) (tabOb [])
def impl_charCuts_1_J4 (fu : Nat) (x : Bool) (x_1 : Int) (x_2 : Int) (x_3 : Int) (x_4 : Int) (x_5 : Bool) (x_6 : Bool) (x_7 : Int) : Option (Bool × (Int × Int × Int × Int × Bool × Bool × Int)) := joinAt E ext 110 7 fu [true, false, false, true, true, true] [] (tabTm [0, 1, 2, 3, 4, 5, 6, 15] [.box 0 0, .box 1 0, .box 2 0, .box 3 0, .box 4 0, .box 5 0, .box 6 0, .bool x]) (tabOb [(0, some (.box [.int .i64 x_1])), (1, some (.box [.int .i64 x_2])), (2, some (.box [.int .i64 x_3])), (3, some (.box [.int .i64 x_4])), (4, some (.box [.bool x_5])), (5, some (.box [.bool x_6])), (6, some (.box [.int .i64 x_7]))])
def impl_charCuts_J17 (fu fu1 : Nat) (l : List T_i) (x : List T_i) (x_1 : Int) (x_2 : Int) (out : List T_b) (picture : Bool) (bind : Bool) (flags : Int) : Option (List T_b) := joinAt E ext 96 0 fu [true, true, true, false, true, false, false, true, true, true] [fu1] (tabTm [0, 3, 4, 5, 6, 15, 16, 17] [.ro e_i l, .own 500, .box 501 0, .box 502 0, .box 503 0, .ro e_i x, .int .i64 x_1, .int .i64 x_2]) (tabOb [(500, some (.row (.is false) e_b out)), (501, some (.box [.bool picture])), (502, some (.box [.bool bind])), (503, some (.box [.int .i64 flags]))])
def impl_kind_J40 (fu : Nat) (p : Int) (x : Bool) : Option (Int × Int) := joinAt E ext 74 0 fu [true, true, false, false, true, true, true, true, true, true, true, true, true, true, true, true, true, true, true, true, true, true, true, true, true, true, true, true, true, true, true] [] (tabTm [0, 103] [.int .i64 p, .bool x]) (tabOb [])
def spec_l07Part_J11 (fu : Nat) : Option (Int) := joinAt E ext 106 0 fu [true, true] [] (tabTm [] []) (tabOb [])
def spec_l07Flags_L2 (fu fu1 : Nat) (l : List T_i) (at' : Int) (n : Int) : Option (Int) := loopAt E ext 93 0 fu [true, true, false, false] [] fu1 (tabTm [0, 1, 5] [.ro e_i l, .int .i64 at', .int .i64 n]) (tabOb [])
def impl_isOpen (fu : Nat) (p : Int) : Option (Bool) := evF E ext fu 118 [.int .i64 p] []
def impl_charCuts_1_J6 (fu : Nat) (x : Bool) (x_1 : Int) (x_2 : Int) (x_3 : Int) (x_4 : Int) (x_5 : Bool) (x_6 : Bool) (x_7 : Int) : Option (Bool × (Int × Int × Int × Int × Bool × Bool × Int)) := joinAt E ext 110 7 fu [true, false, false, true, true, true, true, true] [] (tabTm [0, 1, 2, 3, 4, 5, 6, 22] [.box 0 0, .box 1 0, .box 2 0, .box 3 0, .box 4 0, .box 5 0, .box 6 0, .bool x]) (tabOb [(0, some (.box [.int .i64 x_1])), (1, some (.box [.int .i64 x_2])), (2, some (.box [.int .i64 x_3])), (3, some (.box [.int .i64 x_4])), (4, some (.box [.bool x_5])), (5, some (.box [.bool x_6])), (6, some (.box [.int .i64 x_7]))])
def impl_kind_J46 (fu : Nat) (p : Int) (x : Bool) : Option (Int × Int) := joinAt E ext 74 0 fu [true, true, false, false, true, true, true, true, true, true, true, true, true, true, true, true, true, true, true, true, true, true, true, true, true, true, true, true, true, true, true, true, true, true, true, true, true] [] (tabTm [0, 124] [.int .i64 p, .bool x]) (tabOb [])
def impl_charCuts_1_J8 (fu : Nat) (x : Bool) (x_1 : Int) (x_2 : Int) (x_3 : Int) (x_4 : Int) (x_5 : Bool) (x_6 : Bool) (x_7 : Int) : Option (Bool × (Int × Int × Int × Int × Bool × Bool × Int)) := joinAt E ext 110 7 fu [true, false, false, true, true, true, true, true, true, true] [] (tabTm [0, 1, 2, 3, 4, 5, 6, 41] [.box 0 0, .box 1 0, .box 2 0, .box 3 0, .box 4 0, .box 5 0, .box 6 0, .bool x]) (tabOb [(0, some (.box [.int .i64 x_1])), (1, some (.box [.int .i64 x_2])), (2, some (.box [.int .i64 x_3])), (3, some (.box [.int .i64 x_4])), (4, some (.box [.bool x_5])), (5, some (.box [.bool x_6])), (6, some (.box [.int .i64 x_7]))])
def impl_kind_J48 (fu : Nat) (p : Int) (x : Bool) : Option (Int × Int) := joinAt E ext 74 0 fu [true, true, false, false, true, true, true, true, true, true, true, true, true, true, true, true, true, true, true, true, true, true, true, true, true, true, true, true, true, true, true, true, true, true, true, true, true, true, true] [] (tabTm [0, 131] [.int .i64 p, .bool x]) (tabOb [])
def impl_charCuts_1_J10 (fu : Nat) (x : Bool) (x_1 : Int) (x_2 : Int) (x_3 : Int) (x_4 : Int) (x_5 : Bool) (x_6 : Bool) (x_7 : Int) : Option (Bool × (Int × Int × Int × Int × Bool × Bool × Int)) := joinAt E ext 110 7 fu [true, false, false, true, true, true, true, true, true, true, true, true] [] (tabTm [0, 1, 2, 3, 4, 5, 6, 56] [.box 0 0, .box 1 0, .box 2 0, .box 3 0, .box 4 0, .box 5 0, .box 6 0, .bool x]) (tabOb [(0, some (.box [.int .i64 x_1])), (1, some (.box [.int .i64 x_2])), (2, some (.box [.int .i64 x_3])), (3, some (.box [.int .i64 x_4])), (4, some (.box [.bool x_5])), (5, some (.box [.bool x_6])), (6, some (.box [.int .i64 x_7]))])
def impl_kind_J61 (fu : Nat) : Option (Int × Int) := joinAt E ext 74 0 fu [true, true, true] [] (tabTm [] []) (tabOb [])
def impl_charCuts_1_J19 (fu : Nat) (x : Int) (x_1 : Int) (x_2 : Int) (x_3 : Int) (x_4 : Bool) (x_5 : Bool) (x_6 : Int) : Option (Bool × (Int × Int × Int × Int × Bool × Bool × Int)) := joinAt E ext 110 7 fu [true, true] [] (tabTm [] []) (tabOb [(0, some (.box [.int .i64 x])), (1, some (.box [.int .i64 x_1])), (2, some (.box [.int .i64 x_2])), (3, some (.box [.int .i64 x_3])), (4, some (.box [.bool x_4])), (5, some (.box [.bool x_5])), (6, some (.box [.int .i64 x_6]))])
end
end Go.Proofs.YtlfkoenopdcjmaaDoor.WI
