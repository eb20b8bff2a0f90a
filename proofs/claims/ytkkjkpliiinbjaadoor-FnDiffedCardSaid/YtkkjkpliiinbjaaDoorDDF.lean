/- The functions that the law reaches, as the evaluator reads them: table and names. -/
import Derived.Test.YtkkjkpliiinbjaaDoorProg
import Derived.Test.YtkkjkpliiinbjaaDoorEG
import Derived.Test.YtkkjkpliiinbjaaDoorEH
namespace Go.Proofs.YtkkjkpliiinbjaaDoor.DF
open Go.Eng
set_option linter.unusedVariables false
set_option maxRecDepth 100000
noncomputable section
@[reducible] def glbA (v : Value) : Glb := Glb.utf8A 1 2 57 5 v
def e_b : CTs := (.one .bool)
abbrev T_b : Type := Bool
noncomputable def z_b : T_b := false
def e_i : CTs := (.one (.int .i64))
abbrev T_i : Type := Int
noncomputable def z_i : T_i := (0 : Int)
def e_s : CTs := (.one .str)
abbrev T_s : Type := ByteArray
noncomputable def z_s : T_s := (⟨#[]⟩ : ByteArray)
def e_y : CTs := (.one (.int .u8))
abbrev T_y : Type := Int
noncomputable def z_y : T_y := (0 : Int)
def e_ii : CTs := (.cons (.int .i64) (.one (.int .i64)))
abbrev T_ii : Type := Int × Int
noncomputable def z_ii : T_ii := ((0 : Int), (0 : Int))
def e_RiQ : CTs := (.one (.row e_i))
abbrev T_RiQ : Type := List T_i
noncomputable def z_RiQ : T_RiQ := ([] : List T_i)
def e_iiib : CTs := (.cons (.int .i64) (.cons (.int .i64) (.cons (.int .i64) (.one .bool))))
abbrev T_iiib : Type := Int × Int × Int × Bool
noncomputable def z_iiib : T_iiib := ((0 : Int), (0 : Int), (0 : Int), false)
def e_iiii : CTs := (.cons (.int .i64) (.cons (.int .i64) (.cons (.int .i64) (.one (.int .i64)))))
abbrev T_iiii : Type := Int × Int × Int × Int
noncomputable def z_iiii : T_iiii := ((0 : Int), (0 : Int), (0 : Int), (0 : Int))
def e_issi : CTs := (.cons (.int .i64) (.cons .str (.cons .str (.one (.int .i64)))))
abbrev T_issi : Type := Int × ByteArray × ByteArray × Int
noncomputable def z_issi : T_issi := ((0 : Int), (⟨#[]⟩ : ByteArray), (⟨#[]⟩ : ByteArray), (0 : Int))
def sigT : List (Nat × Sig) := [(6, ⟨.bool, []⟩),
  (11, ⟨.own e_issi, []⟩),
  (12, ⟨.own e_issi, []⟩),
  (16, ⟨.tup (.cons .str (.one .str)), []⟩),
  (17, ⟨.own e_s, []⟩),
  (18, ⟨.int .i64, []⟩),
  (19, ⟨.str, []⟩),
  (21, ⟨.own e_i, []⟩),
  (22, ⟨.str, []⟩),
  (24, ⟨.bool, []⟩),
  (26, ⟨.own e_ii, []⟩),
  (28, ⟨.str, []⟩),
  (35, ⟨.ptr (.cons (.rc 0 e_y) (.cons (.int .i64) (.cons (.int .u64) (.one (.int .i64))))), []⟩),
  (37, ⟨.bool, [.box (.cons (.rc 0 e_y) (.cons (.int .i64) (.cons (.int .u64) (.one (.int .i64)))))]⟩),
  (38, ⟨.str, [.box (.cons (.rc 0 e_y) (.cons (.int .i64) (.cons (.int .u64) (.one (.int .i64)))))]⟩),
  (39, ⟨.int .i64, [.box (.cons (.rc 0 e_y) (.cons (.int .i64) (.cons (.int .u64) (.one (.int .i64)))))]⟩),
  (41, ⟨.own e_s, []⟩),
  (42, ⟨.own e_i, []⟩),
  (43, ⟨.own e_s, []⟩),
  (46, ⟨.tup (.cons .str (.one .str)), [.box (.cons (.rc 0 e_y) (.cons (.int .i64) (.cons (.int .u64) (.one (.int .i64)))))]⟩),
  (47, ⟨.own e_i, []⟩),
  (48, ⟨.ownF e_s, []⟩),
  (53, ⟨.str, [.box (.cons (.rc 0 e_y) (.cons (.int .i64) (.cons (.int .u64) (.one (.int .i64)))))]⟩),
  (54, ⟨.agg (.cons (.own e_i) (.one (.own e_i))), []⟩),
  (55, ⟨.bool, []⟩),
  (56, ⟨.own e_s, []⟩),
  (57, ⟨.own e_i, []⟩),
  (58, ⟨.str, [.box (.cons (.rc 0 e_y) (.cons (.int .i64) (.cons (.int .u64) (.one (.int .i64)))))]⟩),
  (59, ⟨.bool, []⟩),
  (60, ⟨.str, []⟩),
  (64, ⟨.tup (.cons (.int .i64) (.cons (.int .i64) (.one .bool))), []⟩),
  (65, ⟨.bool, []⟩),
  (66, ⟨.bool, []⟩),
  (67, ⟨.bool, []⟩),
  (68, ⟨.bool, []⟩),
  (69, ⟨.bool, []⟩),
  (70, ⟨.bool, []⟩),
  (71, ⟨.int .i64, []⟩),
  (72, ⟨.own e_iiib, []⟩),
  (73, ⟨.own e_i, []⟩),
  (74, ⟨.own e_b, []⟩),
  (75, ⟨.own e_i, []⟩),
  (76, ⟨.str, []⟩),
  (77, ⟨.bool, []⟩),
  (82, ⟨.bool, []⟩),
  (83, ⟨.int .i64, []⟩),
  (84, ⟨.int .i64, []⟩),
  (85, ⟨.tup (.cons (.int .i32) (.one (.int .i64))), []⟩),
  (86, ⟨.int .i64, []⟩),
  (87, ⟨.bool, [.box (.one (.int .i64)), .box (.one (.int .i64)), .box (.one (.int .i64)), .box (.one (.int .i64)), .box (.one .bool), .box (.one .bool), .box (.one (.int .i64))]⟩),
  (88, ⟨.bool, []⟩),
  (92, ⟨.tup (.cons (.int .i64) (.one (.int .i64))), []⟩),
  (94, ⟨.int .i64, []⟩),
  (95, ⟨.bool, []⟩),
  (96, ⟨.bool, []⟩),
  (97, ⟨.bool, []⟩),
  (98, ⟨.bool, []⟩),
  (103, ⟨.own e_iiii, []⟩),
  (104, ⟨.own e_iiii, []⟩),
  (105, ⟨.tup (.cons (.int .i64) (.one (.int .i64))), []⟩),
  (108, ⟨.tup (.cons (.int .i64) (.one (.int .i64))), []⟩)]
def lendT : List (Nat × List Bool) := [(37, [true, false]), (38, [true, false, false]), (39, [true, false]), (46, [true]), (53, [true, false]), (58, [true])]
def loopT : List (Nat × List (Nat × Hint)) := [(6, [(11, { live := [3, 4, 5, 6, 7] })]),
  (11, [(13, { live := [5, 6, 7, 8, 9, 10, 11, 12] })]),
  (12, [(9, { live := [5, 6, 7, 8, 9, 10, 42, 43, 44] })]),
  (21, [(3, { live := [0, 1, 5, 6] }), (7, { live := [0, 1, 5, 6, 7] }), (17, { live := [0, 1, 5, 8, 9, 10] })]),
  (22, [(3, { live := [0, 3, 4] })]),
  (26, [(3, { live := [0, 1, 5, 6] }), (7, { live := [0, 1, 5, 6, 7] }), (14, { live := [0, 1, 5, 8, 9, 10] })]),
  (35, [(3, { live := [0, 3, 4] })]),
  (38, [(2, { live := [1, 2, 7] })]),
  (41, [(3, { live := [0, 1, 5, 6] })]),
  (42, [(4, { live := [0, 3, 4, 5] })]),
  (46, [(4, { live := [0, 4, 5, 6] }), (23, { live := [0, 4, 5, 6, 7, 10] })]),
  (48, [(6, { live := [3, 4, 35, 36, 37] })]),
  (54, [(3, { live := [0, 2, 3, 4] })]),
  (55, [(13, { live := [0, 7] })]),
  (56, [(3, { live := [0, 1, 5, 6] })]),
  (58, [(3, { live := [0, 3, 4] })]),
  (64, [(19, { live := [0, 1, 8, 9, 10] })]),
  (68, [(1, { live := [0, 1] })]),
  (71, [(2, { live := [0, 1, 5] })]),
  (72, [(3, { live := [0, 3, 4] })]),
  (73, [(5, { live := [1, 2, 7, 13, 14, 15] })]),
  (74, [(4, { live := [0, 3, 4, 5, 6, 15, 16, 17] })]),
  (75, [(3, { live := [3, 9, 10, 11] })]),
  (92, [(4, { live := [0, 4, 5] }), (18, { live := [0, 7, 8] })])]
def joinT : List (Nat × List (Nat × Hint)) := [(11, [(22, { live := [5, 6, 7, 8, 9, 11, 12] })]),
  (12, [(14, { live := [5, 6, 7, 8, 12, 14, 42, 43, 44] })]),
  (21, [(10, { live := [0, 1, 5, 6, 7] }), (20, { live := [0, 1, 5, 8, 9, 10, 120] })]),
  (26, [(9, { live := [0, 1, 5, 6, 7] }), (16, { live := [0, 1, 5, 8, 9, 10] })]),
  (39, [(7, { live := [0, 1, 5] })]),
  (46, [(21, { live := [0, 4, 6, 7] })]),
  (48, [(10, { live := [3, 4, 6, 35, 36, 37] })]),
  (55, [(4, { live := [0, 1, 5, 6, 17] }), (6, { live := [0, 1, 5, 6, 24] }), (10, { live := [0, 1, 5, 6, 39] }), (18, { live := [] })]),
  (64, [(16, { live := [0, 1, 8, 9] })]),
  (66, [(8, { live := [6, 11, 28] })]),
  (74, [(11, { live := [0, 3, 4, 5, 6, 8, 9, 15, 16, 17] }), (13, { live := [0, 3, 4, 5, 6, 8, 9, 15, 16, 17] }), (17, { live := [0, 3, 4, 5, 6, 15, 16, 17] })]),
  (76, [(3, { live := [0] })]),
  (84, [(11, { live := [] })]),
  (86, [(2, { live := [0, 3] }), (4, { live := [0, 11] })]),
  (87, [(2, { live := [0, 1, 2, 3, 4, 5, 6, 8] }), (4, { live := [0, 1, 2, 3, 4, 5, 6, 15] }), (6, { live := [0, 1, 2, 3, 4, 5, 6, 22] }), (8, { live := [0, 1, 2, 3, 4, 5, 6, 41] }), (10, { live := [0, 1, 2, 3, 4, 5, 6, 56] }), (19, { live := [] })]),
  (105, [(14, { live := [0, 44] }), (16, { live := [0, 51] }), (36, { live := [0, 89] }), (40, { live := [0, 103] }), (46, { live := [0, 124] }), (48, { live := [0, 131] }), (61, { live := [] })])]
noncomputable def E : Env := { P := Go.Proofs.Tryd.prog, sig := fun f => lookN ⟨.bool, []⟩ f sigT, lend := fun f => lookN [] f lendT, loopHint := fun f k => lookT f k loopT, joinHint := fun f k => lookT f k joinT, over := fun f => memb f [28, 85] }
def bs (l : List Nat) : ByteArray := ⟨⟨l.map UInt8.ofNat⟩⟩
def ext : Cf E := fun f vs os =>
  if h : f = 28 then h ▸ (xJoin vs os : Option (E.sig 28).T) else
  if h : f = 85 then h ▸ (xDecodeRune vs os : Option (E.sig 85).T) else
  none
def laws_FnDiffed (fu : Nat) (code : List T_y) : Option (Bool) := evF E ext fu 6 [.rc 0 e_y code] []
def spec_DrawDiffTexts (fu : Nat) (code : List T_y) : Option (ByteArray × ByteArray) := evF E ext fu 16 [.rc 0 e_y code] []
def impl_DiffTexts (fu : Nat) (a : ByteArray) (b : ByteArray) : Option (List T_issi) := evF E ext fu 12 [.str a, .str b] []
def spec_DiffTexts (fu : Nat) (a : ByteArray) (b : ByteArray) : Option (List T_issi) := evF E ext fu 11 [.str a, .str b] []
def spec_Chars (fu : Nat) (text : ByteArray) : Option (List T_s) := evF E ext fu 17 [.str text] []
def laws_FnDiffed_L11 (fu fu1 : Nat) (a : ByteArray) (b : ByteArray) (i : Int) (l : List T_issi) (want : List T_issi) : Option (Bool) := loopAt E ext 6 0 fu [true, true, true, true, true, true, true, false, true, false] [] fu1 (tabTm [3, 4, 5, 6, 7] [.str a, .str b, .own 500, .own 501, .int .i64 i]) (tabOb [(500, some (.row .unk e_issi l)), (501, some (.row .unk e_issi want))])
def spec_l01Source (fu : Nat) (code : List T_y) : Option (List T_y × Int × Int × Int) := evF E ext fu 35 [.rc 0 e_y code] []
def spec_l01Src_twoNear (fu : Nat) (s : List T_y) (s_1 : Int) (s_2 : Int) (s_3 : Int) : Option ((ByteArray × ByteArray) × (List T_y × Int × Int × Int)) := evF E ext fu 46 [.box 0 0] [.box [.rc 0 e_y s, .int .i64 s_1, .int .u64 s_2, .int .i64 s_3]]
def spec_l01Src_one (fu : Nat) (of : Int) (s : List T_y) (s_1 : Int) (s_2 : Int) (s_3 : Int) : Option (Bool × (List T_y × Int × Int × Int)) := evF E ext fu 37 [.box 0 0, .int .i64 of] [.box [.rc 0 e_y s, .int .i64 s_1, .int .u64 s_2, .int .i64 s_3]]
def spec_l01Src_n (fu : Nat) (most : Int) (s : List T_y) (s_1 : Int) (s_2 : Int) (s_3 : Int) : Option (Int × (List T_y × Int × Int × Int)) := evF E ext fu 39 [.box 0 0, .int .i64 most] [.box [.rc 0 e_y s, .int .i64 s_1, .int .u64 s_2, .int .i64 s_3]]
def spec_l01Src_long (fu : Nat) (c : ByteArray) (n : Int) (s : List T_y) (s_1 : Int) (s_2 : Int) (s_3 : Int) : Option (ByteArray × (List T_y × Int × Int × Int)) := evF E ext fu 38 [.box 0 0, .str c, .int .i64 n] [.box [.rc 0 e_y s, .int .i64 s_1, .int .u64 s_2, .int .i64 s_3]]
def impl_long (fu : Nat) (s : ByteArray) : Option (Bool) := evF E ext fu 24 [.str s] []
def impl_chars (fu : Nat) (text : ByteArray) : Option (List T_s) := evF E ext fu 43 [.str text] []
def impl_kept (fu : Nat) (a : List T_s) (b : List T_s) : Option (List T_ii) := evF E ext fu 26 [.ro e_s a, .ro e_s b] []
def impl_DiffTexts_L9 (fu fu1 : Nat) (at' : Int) (i : Int) (j : Int) (x : Int) (x_1 : Int) (x_2 : List T_s) (y : List T_s) (x_3 : List T_ii) : Option (List T_issi) := loopAt E ext 12 0 fu [true, true, true, true, true, true, false, true, false] [] fu1 (tabTm [5, 6, 7, 8, 9, 10, 42, 43, 44] [.own 500, .own 501, .nil, .int .i64 at', .int .i64 i, .int .i64 j, .own 502, .int .i64 x, .int .i64 x_1]) (tabOb [(500, some (.row .unk e_s x_2)), (501, some (.row .unk e_s y)), (502, some (.row .unk e_ii x_3))])
def spec_l07Chars (fu : Nat) (t : ByteArray) : Option (List T_i) := evF E ext fu 42 [.str t] []
def spec_l07Pieces (fu : Nat) (t : ByteArray) (cuts : List T_i) : Option (List T_s) := evF E ext fu 41 [.str t, .ro e_i cuts] []
def spec_l21Kept (fu : Nat) (a : List T_s) (b : List T_s) : Option (List T_i) := evF E ext fu 21 [.ro e_s a, .ro e_s b] []
def spec_DiffTexts_L13 (fu fu1 : Nat) (at' : Int) (k : Int) (gone : ByteArray) (i : Int) (out : List T_issi) (x : List T_s) (y : List T_s) (kept : List T_i) : Option (List T_issi) := loopAt E ext 11 0 fu [true, true, true, true, true, true, true, true, true, true, false, true, false] [] fu1 (tabTm [5, 6, 7, 8, 9, 10, 11, 12] [.own 500, .own 501, .own 502, .own 503, .int .i64 at', .int .i64 k, .str gone, .int .i64 i]) (tabOb [(500, some (.row (.is false) e_issi out)), (501, some (.row .unk e_s x)), (502, some (.row .unk e_s y)), (503, some (.row .unk e_i kept))])
def spec_CharCuts (fu : Nat) (text : ByteArray) : Option (List T_i) := evF E ext fu 47 [.str text] []
def impl_HistoryFault (fu : Nat) (h : ByteArray) (h_1 : List T_issi) (h_2 : Int) : Option (Int) := evF E ext fu 18 [.agg [.str h, .ro e_issi h_1, .int .i64 h_2]] []
def impl_TextAt (fu : Nat) (h : ByteArray) (h_1 : List T_issi) (h_2 : Int) (done : Int) : Option (ByteArray) := evF E ext fu 19 [.agg [.str h, .ro e_issi h_1, .int .i64 h_2], .int .i64 done] []
def spec_l01Source_L3 (fu fu1 : Nat) (code : List T_y) (i : Int) (s : List T_y) (s_1 : Int) (s_2 : Int) (s_3 : Int) : Option (List T_y × Int × Int × Int) := loopAt E ext 35 0 fu [true, true, false, true, false] [] fu1 (tabTm [0, 3, 4] [.rc 0 e_y code, .box 500 0, .int .i64 i]) (tabOb [(500, some (.box [.rc 0 e_y s, .int .i64 s_1, .int .u64 s_2, .int .i64 s_3]))])
def spec_l01Src_nearText (fu : Nat) (s : List T_y) (s_1 : Int) (s_2 : Int) (s_3 : Int) : Option (ByteArray × (List T_y × Int × Int × Int)) := evF E ext fu 58 [.box 0 0] [.box [.rc 0 e_y s, .int .i64 s_1, .int .u64 s_2, .int .i64 s_3]]
def spec_l01Src_twoNear_L4 (fu fu1 : Nat) (a : ByteArray) (b : ByteArray) (k : Int) (s : List T_y) (s_1 : Int) (s_2 : Int) (s_3 : Int) : Option ((ByteArray × ByteArray) × (List T_y × Int × Int × Int)) := loopAt E ext 46 1 fu [true, true, true, false, true, false] [] fu1 (tabTm [0, 4, 5, 6] [.box 0 0, .str a, .str b, .int .i64 k]) (tabOb [(0, some (.box [.rc 0 e_y s, .int .i64 s_1, .int .u64 s_2, .int .i64 s_3]))])
def spec_l01Src_n_J7 (fu : Nat) (most : Int) (v : Int) (s : List T_y) (s_1 : Int) (s_2 : Int) (s_3 : Int) : Option (Int × (List T_y × Int × Int × Int)) := joinAt E ext 39 1 fu [true, true, true, true] [] (tabTm [0, 1, 5] [.box 0 0, .int .i64 most, .int .u64 v]) (tabOb [(0, some (.box [.rc 0 e_y s, .int .i64 s_1, .int .u64 s_2, .int .i64 s_3]))])
def spec_l01Src_long_L2 (fu fu1 : Nat) (c : ByteArray) (n : Int) (x : List T_y) (x_1 : Int) (x_2 : Int) (x_3 : Int) (b : List T_y) : Option (ByteArray × (List T_y × Int × Int × Int)) := loopAt E ext 38 1 fu [true, true, false, false] [] fu1 (tabTm [1, 2, 7] [.str c, .int .i64 n, .own 500]) (tabOb [(0, some (.box [.rc 0 e_y x, .int .i64 x_1, .int .u64 x_2, .int .i64 x_3])), (500, some (.row (.is false) e_y b))])
def impl_charPlaces (fu : Nat) (text : ByteArray) : Option (List T_i) := evF E ext fu 57 [.str text] []
def impl_piecesOf (fu : Nat) (text : ByteArray) (cuts : List T_i) : Option (List T_s) := evF E ext fu 56 [.str text, .ro e_i cuts] []
def impl_kept_L3 (fu fu1 : Nat) (a : List T_s) (b : List T_s) (i : Int) (m : List (List T_i)) : Option (List T_ii) := loopAt E ext 26 0 fu [true, true, false, true, false] [] fu1 (tabTm [0, 1, 5, 6] [.ro e_s a, .ro e_s b, .mt 500 .all, .int .i64 i]) (tabOb [(500, some (.mat (.int .i64) m)), (501, none)])
def strings_Join (fu : Nat) (elems : List T_s) (sep : ByteArray) : Option (ByteArray) := evF E ext fu 28 [.ro e_s elems, .str sep] []
def impl_DiffTexts_J14 (fu fu1 : Nat) (at' : Int) (came : ByteArray) (x : Int) (x_1 : Int) (x_2 : List T_s) (y : List T_s) (out : List T_issi) (k : Int) (k_1 : Int) (x_3 : List T_ii) : Option (List T_issi) := joinAt E ext 12 0 fu [true, true, true, true, true, true, false, true, false, false, true, true, false, false, true, true, true] [fu1] (tabTm [5, 6, 7, 8, 12, 14, 42, 43, 44] [.own 500, .own 501, .own 502, .int .i64 at', .box 503 0, .str came, .own 504, .int .i64 x, .int .i64 x_1]) (tabOb [(500, some (.row .unk e_s x_2)), (501, some (.row .unk e_s y)), (502, some (.row .unk e_issi out)), (503, some (.box [.int .i64 k, .int .i64 k_1])), (504, some (.row .unk e_ii x_3))])
def impl_DiffTexts_J14'1 (fu fu1 : Nat) (at' : Int) (came : ByteArray) (x : Int) (x_1 : Int) (x_2 : List T_s) (y : List T_s) (k : Int) (k_1 : Int) (x_3 : List T_ii) : Option (List T_issi) := joinAt E ext 12 0 fu [true, true, true, true, true, true, false, true, false, false, true, true, false, false, true, true, true] [fu1] (tabTm [5, 6, 7, 8, 12, 14, 42, 43, 44] [.own 500, .own 501, .nil, .int .i64 at', .box 502 0, .str came, .own 503, .int .i64 x, .int .i64 x_1]) (tabOb [(500, some (.row .unk e_s x_2)), (501, some (.row .unk e_s y)), (502, some (.box [.int .i64 k, .int .i64 k_1])), (503, some (.row .unk e_ii x_3))])
def spec_l07RowOf (fu : Nat) (t : ByteArray) : Option (List T_i × List T_i) := evF E ext fu 54 [.str t] []
def spec_l07Chars_L4 (fu fu1 : Nat) (t : ByteArray) (i : Int) (x : List T_i) (x_1 : List T_i) (out : List T_i) : Option (List T_i) := loopAt E ext 42 0 fu [true, true, true, false, true, false] [] fu1 (tabTm [0, 3, 4, 5] [.str t, .box 500 0, .own 503, .int .i64 i]) (tabOb [(500, some (.box [.own 501, .own 502])), (501, some (.row .unk e_i x)), (502, some (.row .unk e_i x_1)), (503, some (.row (.is false) e_i out))])
def spec_l07Pieces_L3 (fu fu1 : Nat) (t : ByteArray) (cuts : List T_i) (i : Int) (out : List T_s) : Option (List T_s) := loopAt E ext 41 0 fu [true, true, false, true, false] [] fu1 (tabTm [0, 1, 5, 6] [.str t, .ro e_i cuts, .own 500, .int .i64 i]) (tabOb [(500, some (.row (.is false) e_s out))])
def spec_l21Kept_L3 (fu fu1 : Nat) (a : List T_s) (b : List T_s) (i : Int) (l : List (List T_i)) : Option (List T_i) := loopAt E ext 21 0 fu [true, true, false, true, false] [] fu1 (tabTm [0, 1, 5, 6] [.ro e_s a, .ro e_s b, .mt 500 .all, .int .i64 i]) (tabOb [(500, some (.mat (.int .i64) l)), (501, none)])
def spec_l21Joined (fu : Nat) (l : List T_s) : Option (ByteArray) := evF E ext fu 22 [.ro e_s l] []
def spec_DiffTexts_J22 (fu fu1 : Nat) (at' : Int) (gone : ByteArray) (i : Int) (out : List T_issi) (x : List T_s) (y : List T_s) (kept : List T_i) : Option (List T_issi) := joinAt E ext 11 0 fu [true, true, true, true, true, true, true, true, true, true, false, true, false, false, true, false, false, true, true, true] [fu1] (tabTm [5, 6, 7, 8, 9, 11, 12] [.own 500, .own 501, .own 502, .own 503, .int .i64 at', .str gone, .int .i64 i]) (tabOb [(500, some (.row (.is false) e_issi out)), (501, some (.row .unk e_s x)), (502, some (.row .unk e_s y)), (503, some (.row .unk e_i kept))])
def impl_texts (fu : Nat) (h : ByteArray) (h_1 : List T_issi) (h_2 : Int) : Option (List T_s × Bool) := evF E ext fu 48 [.agg [.str h, .ro e_issi h_1, .int .i64 h_2]] []
def spec_l01Src_nearText_L3 (fu fu1 : Nat) (out : ByteArray) (k : Int) (s : List T_y) (s_1 : Int) (s_2 : Int) (s_3 : Int) : Option (ByteArray × (List T_y × Int × Int × Int)) := loopAt E ext 58 1 fu [true, true, false, true, false] [] fu1 (tabTm [0, 3, 4] [.box 0 0, .str out, .int .i64 k]) (tabOb [(0, some (.box [.rc 0 e_y s, .int .i64 s_1, .int .u64 s_2, .int .i64 s_3]))])
def spec_l01Src_twoNear_J21 (fu fu1 : Nat) (a : ByteArray) (k : Int) (s : List T_y) (s_1 : Int) (s_2 : Int) (s_3 : Int) (l : List T_s) : Option ((ByteArray × ByteArray) × (List T_y × Int × Int × Int)) := joinAt E ext 46 1 fu [true, true, true, false, true, false, false, true, false, false, true, true, true, true] [fu1] (tabTm [0, 4, 6, 7] [.box 0 0, .str a, .int .i64 k, .own 500]) (tabOb [(0, some (.box [.rc 0 e_y s, .int .i64 s_1, .int .u64 s_2, .int .i64 s_3])), (500, some (.row .unk e_s l))])
def spec_l01Src_pick (fu : Nat) (l : List T_s) (s : List T_y) (s_1 : Int) (s_2 : Int) (s_3 : Int) : Option (ByteArray × (List T_y × Int × Int × Int)) := evF E ext fu 53 [.box 0 0, .ro e_s l] [.box [.rc 0 e_y s, .int .i64 s_1, .int .u64 s_2, .int .i64 s_3]]
def impl_read (fu : Nat) (s : ByteArray) : Option (List T_iiib) := evF E ext fu 72 [.str s] []
def impl_onlyPoints (fu : Nat) (l : List T_iiib) : Option (List T_i) := evF E ext fu 75 [.ro e_iiib l] []
def impl_charCuts (fu : Nat) (l : List T_i) : Option (List T_b) := evF E ext fu 74 [.ro e_i l] []
def impl_placesOf (fu : Nat) (l : List T_iiib) (n : Int) (cut : List T_b) : Option (List T_i) := evF E ext fu 73 [.ro e_iiib l, .int .i64 n, .ro e_b cut] []
def impl_piecesOf_L3 (fu fu1 : Nat) (text : ByteArray) (cuts : List T_i) (i : Int) : Option (List T_s) := loopAt E ext 56 0 fu [true, true, false, true, false] [] fu1 (tabTm [0, 1, 5, 6] [.str text, .ro e_i cuts, .nil, .int .i64 i]) (tabOb [])
def impl_kept_L7 (fu fu1 fu2 : Nat) (a : List T_s) (b : List T_s) (i : Int) (j : Int) (m : List (List T_i)) : Option (List T_ii) := loopAt E ext 26 0 fu [true, true, false, true, false, false, true, false, false, true, true, false] [fu1] fu2 (tabTm [0, 1, 5, 6, 7] [.ro e_s a, .ro e_s b, .mt 500 .all, .int .i64 i, .int .i64 j]) (tabOb [(500, some (.mat (.int .i64) m)), (501, none)])
def impl_kept_L14 (fu fu1 : Nat) (a : List T_s) (b : List T_s) (i : Int) (j : Int) (m : List (List T_i)) : Option (List T_ii) := loopAt E ext 26 0 fu [true, true, true, true, false, true, false] [] fu1 (tabTm [0, 1, 5, 8, 9, 10] [.ro e_s a, .ro e_s b, .mt 500 .all, .nil, .int .i64 i, .int .i64 j]) (tabOb [(500, some (.mat (.int .i64) m)), (501, none)])
def impl_DiffTexts_L9'1 (fu fu1 : Nat) (at' : Int) (i : Int) (j : Int) (x : Int) (x_1 : Int) (x_2 : List T_s) (y : List T_s) (out : List T_issi) (x_3 : List T_ii) : Option (List T_issi) := loopAt E ext 12 0 fu [true, true, true, true, true, true, false, true, false] [] fu1 (tabTm [5, 6, 7, 8, 9, 10, 42, 43, 44] [.own 500, .own 501, .own 502, .int .i64 at', .int .i64 i, .int .i64 j, .own 503, .int .i64 x, .int .i64 x_1]) (tabOb [(500, some (.row .unk e_s x_2)), (501, some (.row .unk e_s y)), (502, some (.row .unk e_issi out)), (503, some (.row .unk e_ii x_3))])
def spec_l07RowOf_L3 (fu fu1 : Nat) (t : ByteArray) (i : Int) : Option (List T_i × List T_i) := loopAt E ext 54 0 fu [true, true, false, true, false] [] fu1 (tabTm [0, 2, 3, 4] [.str t, .box 500 0, .box 501 0, .int .i64 i]) (tabOb [(500, some (.box [.nil, .nil])), (501, some (.box [.nil, .nil]))])
def spec_l07Char (fu : Nat) (l : List T_i) (i : Int) : Option (Bool) := evF E ext fu 55 [.ro e_i l, .int .i64 i] []
def spec_l21Kept_L7 (fu fu1 fu2 : Nat) (a : List T_s) (b : List T_s) (i : Int) (k : Int) (l : List (List T_i)) : Option (List T_i) := loopAt E ext 21 0 fu [true, true, false, true, false, false, true, false, false, true, true, false] [fu1] fu2 (tabTm [0, 1, 5, 6, 7] [.ro e_s a, .ro e_s b, .mt 500 .all, .int .i64 i, .int .i64 k]) (tabOb [(500, some (.mat (.int .i64) l)), (501, none)])
def spec_l21Kept_L17 (fu fu1 : Nat) (a : List T_s) (b : List T_s) (k : Int) (i : Int) (l : List (List T_i)) (out : List T_i) : Option (List T_i) := loopAt E ext 21 0 fu [true, true, true, true, true, false, true, false] [] fu1 (tabTm [0, 1, 5, 8, 9, 10] [.ro e_s a, .ro e_s b, .mt 500 .all, .own 502, .int .i64 k, .int .i64 i]) (tabOb [(500, some (.mat (.int .i64) l)), (501, none), (502, some (.row (.is false) e_i out))])
def spec_l21Joined_L3 (fu fu1 : Nat) (l : List T_s) (i : Int) (out : List T_y) : Option (ByteArray) := loopAt E ext 22 0 fu [true, true, false, true, false] [] fu1 (tabTm [0, 3, 4] [.ro e_s l, .own 500, .int .i64 i]) (tabOb [(500, some (.row (.is false) e_y out))])
def impl_texts_L6 (fu fu1 : Nat) (s : ByteArray) (x : List T_issi) (x_1 : Int) (x_2 : Int) (out : List T_s) : Option (List T_s × Bool) := loopAt E ext 48 0 fu [true, true, true, true, false, true, false] [] fu1 (tabTm [3, 4, 35, 36, 37] [.own 500, .str s, .ro e_issi x, .int .i64 x_1, .int .i64 x_2]) (tabOb [(500, some (.row (.is false) e_s out))])
def spec_l01Write (fu : Nat) (p : Int) : Option (ByteArray) := evF E ext fu 76 [.int .i64 p] []
def spec_l01Src_twoNear_L23 (fu fu1 fu2 : Nat) (a : ByteArray) (b : ByteArray) (k : Int) (x : Int) (s : List T_y) (s_1 : Int) (s_2 : Int) (s_3 : Int) (l : List T_s) : Option ((ByteArray × ByteArray) × (List T_y × Int × Int × Int)) := loopAt E ext 46 1 fu [true, true, true, false, true, false, false, true, false, false, true, true, true, true, true, true, false] [fu1] fu2 (tabTm [0, 4, 5, 6, 7, 10] [.box 0 0, .str a, .str b, .int .i64 k, .own 500, .int .i64 x]) (tabOb [(0, some (.box [.rc 0 e_y s, .int .i64 s_1, .int .u64 s_2, .int .i64 s_3])), (500, some (.row .unk e_s l))])
def impl_read_L3 (fu fu1 : Nat) (s : ByteArray) (i : Int) : Option (List T_iiib) := loopAt E ext 72 0 fu [true, true, false, true, false] [] fu1 (tabTm [0, 3, 4] [.str s, .nil, .int .i64 i]) (tabOb [])
def impl_onlyPoints_L3 (fu fu1 : Nat) (x : List T_iiib) (x_1 : Int) (x_2 : Int) (out : List T_i) : Option (List T_i) := loopAt E ext 75 0 fu [true, true, false, true, false] [] fu1 (tabTm [3, 9, 10, 11] [.own 500, .ro e_iiib x, .int .i64 x_1, .int .i64 x_2]) (tabOb [(500, some (.row (.is false) e_i out))])
def impl_charCuts_L4 (fu fu1 : Nat) (l : List T_i) (x : List T_i) (x_1 : Int) (x_2 : Int) (out : List T_b) (picture : Bool) (bind : Bool) (flags : Int) : Option (List T_b) := loopAt E ext 74 0 fu [true, true, true, false, true, false] [] fu1 (tabTm [0, 3, 4, 5, 6, 15, 16, 17] [.ro e_i l, .own 500, .box 501 0, .box 502 0, .box 503 0, .ro e_i x, .int .i64 x_1, .int .i64 x_2]) (tabOb [(500, some (.row (.is false) e_b out)), (501, some (.box [.bool picture])), (502, some (.box [.bool bind])), (503, some (.box [.int .i64 flags]))])
def impl_placesOf_L5 (fu fu1 : Nat) (n : Int) (cut : List T_b) (x : List T_iiib) (x_1 : Int) (x_2 : Int) (out : List T_i) : Option (List T_i) := loopAt E ext 73 0 fu [true, true, true, false, true, false] [] fu1 (tabTm [1, 2, 7, 13, 14, 15] [.int .i64 n, .ro e_b cut, .own 500, .ro e_iiib x, .int .i64 x_1, .int .i64 x_2]) (tabOb [(500, some (.row (.is false) e_i out))])
def impl_piecesOf_L3'1 (fu fu1 : Nat) (text : ByteArray) (cuts : List T_i) (i : Int) (out : List T_s) : Option (List T_s) := loopAt E ext 56 0 fu [true, true, false, true, false] [] fu1 (tabTm [0, 1, 5, 6] [.str text, .ro e_i cuts, .own 500, .int .i64 i]) (tabOb [(500, some (.row .unk e_s out))])
def impl_kept_J9 (fu fu1 fu2 : Nat) (a : List T_s) (b : List T_s) (i : Int) (j : Int) (m : List (List T_i)) : Option (List T_ii) := joinAt E ext 26 0 fu [true, true, false, true, false, false, true, false, false, true, true, false, false, true] [fu1, fu2] (tabTm [0, 1, 5, 6, 7] [.ro e_s a, .ro e_s b, .mt 500 .all, .int .i64 i, .int .i64 j]) (tabOb [(500, some (.mat (.int .i64) m)), (501, none)])
def impl_kept_J16 (fu fu1 : Nat) (a : List T_s) (b : List T_s) (i : Int) (j : Int) (m : List (List T_i)) : Option (List T_ii) := joinAt E ext 26 0 fu [true, true, true, true, false, true, false, false, true] [fu1] (tabTm [0, 1, 5, 8, 9, 10] [.ro e_s a, .ro e_s b, .mt 500 .all, .nil, .int .i64 i, .int .i64 j]) (tabOb [(500, some (.mat (.int .i64) m)), (501, none)])
def spec_l01Next (fu : Nat) (t : ByteArray) (at' : Int) : Option (Int × Int × Bool) := evF E ext fu 64 [.str t, .int .i64 at'] []
def spec_l07RowOf_L3'1 (fu fu1 : Nat) (t : ByteArray) (i : Int) (x : List T_i) (x_1 : List T_i) : Option (List T_i × List T_i) := loopAt E ext 54 0 fu [true, true, false, true, false] [] fu1 (tabTm [0, 2, 3, 4] [.str t, .box 500 0, .box 501 0, .int .i64 i]) (tabOb [(500, some (.box [.nil, .nil])), (501, some (.box [.own 502, .own 503])), (502, some (.row .unk e_i x)), (503, some (.row .unk e_i x_1))])
def spec_l07Char_J4 (fu : Nat) (l : List T_i) (i : Int) (left : Int) (right : Int) (x : Bool) : Option (Bool) := joinAt E ext 55 0 fu [true, true, true, false, false, true] [] (tabTm [0, 1, 5, 6, 17] [.ro e_i l, .int .i64 i, .int .i64 left, .int .i64 right, .bool x]) (tabOb [])
def spec_l21Kept_J10 (fu fu1 fu2 : Nat) (a : List T_s) (b : List T_s) (i : Int) (k : Int) (l : List (List T_i)) : Option (List T_i) := joinAt E ext 21 0 fu [true, true, false, true, false, false, true, false, false, true, true, false, false, true] [fu1, fu2] (tabTm [0, 1, 5, 6, 7] [.ro e_s a, .ro e_s b, .mt 500 .all, .int .i64 i, .int .i64 k]) (tabOb [(500, some (.mat (.int .i64) l)), (501, none)])
def spec_l21Kept_J20 (fu fu1 : Nat) (a : List T_s) (b : List T_s) (k : Int) (i : Int) (x : Bool) (l : List (List T_i)) (out : List T_i) : Option (List T_i) := joinAt E ext 21 0 fu [true, true, true, true, true, false, true, false, false, true, false, false, true] [fu1] (tabTm [0, 1, 5, 8, 9, 10, 120] [.ro e_s a, .ro e_s b, .mt 500 .all, .own 502, .int .i64 k, .int .i64 i, .bool x]) (tabOb [(500, some (.mat (.int .i64) l)), (501, none), (502, some (.row (.is false) e_i out))])
def strings_HasPrefix (fu : Nat) (s : ByteArray) (prefix' : ByteArray) : Option (Bool) := evF E ext fu 59 [.str s, .str prefix'] []
def impl_texts_J10 (fu fu1 : Nat) (s : ByteArray) (x : List T_issi) (x_1 : Int) (x_2 : Int) (out : List T_s) (x_3 : Int) (x_4 : ByteArray) (x_5 : ByteArray) (x_6 : Int) : Option (List T_s × Bool) := joinAt E ext 48 0 fu [true, true, true, true, false, true, false, false, true, true, false, false, true, true] [fu1] (tabTm [3, 4, 6, 35, 36, 37] [.own 500, .str s, .box 501 0, .ro e_issi x, .int .i64 x_1, .int .i64 x_2]) (tabOb [(500, some (.row (.is false) e_s out)), (501, some (.box [.int .i64 x_3, .str x_4, .str x_5, .int .i64 x_6]))])
def spec_l01IsPoint (fu : Nat) (p : Int) : Option (Bool) := evF E ext fu 82 [.int .i64 p] []
def spec_l01Write_J3 (fu : Nat) (p : Int) : Option (ByteArray) := joinAt E ext 76 0 fu [true, true] [] (tabTm [0] [.int .i64 p]) (tabOb [])
def unicode_utf8_DecodeRuneInString (fu : Nat) (s : ByteArray) : Option (Int × Int) := evF E ext fu 85 [.str s] []
def impl_read_L3'1 (fu fu1 : Nat) (s : ByteArray) (i : Int) (out : List T_iiib) : Option (List T_iiib) := loopAt E ext 72 0 fu [true, true, false, true, false] [] fu1 (tabTm [0, 3, 4] [.str s, .own 500, .int .i64 i]) (tabOb [(500, some (.row .unk e_iiib out))])
def impl_charClass (fu : Nat) (p : Int) : Option (Int) := evF E ext fu 86 [.int .i64 p] []
def impl_charCuts_1 (fu : Nat) (x : Int) (x_1 : Int) (x_2 : Int) (x_3 : Int) (x_4 : Bool) (x_5 : Bool) (x_6 : Int) : Option (Bool × (Int × Int × Int × Int × Bool × Bool × Int)) := evF E ext fu 87 [.box 0 0, .box 1 0, .box 2 0, .box 3 0, .box 4 0, .box 5 0, .box 6 0] [.box [.int .i64 x], .box [.int .i64 x_1], .box [.int .i64 x_2], .box [.int .i64 x_3], .box [.bool x_4], .box [.bool x_5], .box [.int .i64 x_6]]
def impl_charCuts_J11 (fu fu1 : Nat) (l : List T_i) (x : List T_i) (x_1 : Int) (x_2 : Int) (out : List T_b) (picture : Bool) (bind : Bool) (flags : Int) (p : Int) (c : Int) : Option (List T_b) := joinAt E ext 74 0 fu [true, true, true, false, true, false, false, true, true, false, false, true, true, true] [fu1] (tabTm [0, 3, 4, 5, 6, 8, 9, 15, 16, 17] [.ro e_i l, .own 500, .box 501 0, .box 502 0, .box 503 0, .box 504 0, .box 505 0, .ro e_i x, .int .i64 x_1, .int .i64 x_2]) (tabOb [(500, some (.row (.is false) e_b out)), (501, some (.box [.bool picture])), (502, some (.box [.bool bind])), (503, some (.box [.int .i64 flags])), (504, some (.box [.int .i64 p])), (505, some (.box [.int .i64 c]))])
def impl_kept_L14'1 (fu fu1 : Nat) (a : List T_s) (b : List T_s) (i : Int) (j : Int) (m : List (List T_i)) (out : List T_ii) : Option (List T_ii) := loopAt E ext 26 0 fu [true, true, true, true, false, true, false] [] fu1 (tabTm [0, 1, 5, 8, 9, 10] [.ro e_s a, .ro e_s b, .mt 500 .all, .own 502, .int .i64 i, .int .i64 j]) (tabOb [(500, some (.mat (.int .i64) m)), (501, none), (502, some (.row .unk e_ii out))])
def spec_l01Next_J16 (fu : Nat) (t : ByteArray) (at' : Int) (n : Int) (p : Int) : Option (Int × Int × Bool) := joinAt E ext 64 0 fu [true, true, true, true, true] [] (tabTm [0, 1, 8, 9] [.str t, .int .i64 at', .int .i64 n, .int .i64 p]) (tabOb [])
def spec_l07Control (fu : Nat) (p : Int) : Option (Bool) := evF E ext fu 65 [.int .i64 p] []
def spec_l07Char_J6 (fu : Nat) (l : List T_i) (i : Int) (left : Int) (right : Int) (x : Bool) : Option (Bool) := joinAt E ext 55 0 fu [true, true, true, false, false, true, true, true] [] (tabTm [0, 1, 5, 6, 24] [.ro e_i l, .int .i64 i, .int .i64 left, .int .i64 right, .bool x]) (tabOb [])
def internal_stringslite_HasPrefix (fu : Nat) (s : ByteArray) (prefix' : ByteArray) : Option (Bool) := evF E ext fu 77 [.str s, .str prefix'] []
def impl_do (fu : Nat) (s : ByteArray) (x : Int) (x_1 : ByteArray) (x_2 : ByteArray) (x_3 : Int) : Option (ByteArray) := evF E ext fu 60 [.str s, .agg [.int .i64 x, .str x_1, .str x_2, .int .i64 x_3]] []
def impl_Category (fu : Nat) (p : Int) : Option (Int) := evF E ext fu 94 [.int .i64 p] []
def impl_charClass_J2 (fu : Nat) (p : Int) (x : Bool) : Option (Int) := joinAt E ext 86 0 fu [true, false, false, true] [] (tabTm [0, 3] [.int .i64 p, .bool x]) (tabOb [])
def impl_charCuts_1_J2 (fu : Nat) (x : Bool) (x_1 : Int) (x_2 : Int) (x_3 : Int) (x_4 : Int) (x_5 : Bool) (x_6 : Bool) (x_7 : Int) : Option (Bool × (Int × Int × Int × Int × Bool × Bool × Int)) := joinAt E ext 87 7 fu [true, false, false, true] [] (tabTm [0, 1, 2, 3, 4, 5, 6, 8] [.box 0 0, .box 1 0, .box 2 0, .box 3 0, .box 4 0, .box 5 0, .box 6 0, .bool x]) (tabOb [(0, some (.box [.int .i64 x_1])), (1, some (.box [.int .i64 x_2])), (2, some (.box [.int .i64 x_3])), (3, some (.box [.int .i64 x_4])), (4, some (.box [.bool x_5])), (5, some (.box [.bool x_6])), (6, some (.box [.int .i64 x_7]))])
def impl_charCuts_J13 (fu fu1 : Nat) (l : List T_i) (x : List T_i) (x_1 : Int) (x_2 : Int) (out : List T_b) (picture : Bool) (bind : Bool) (flags : Int) (p : Int) (c : Int) : Option (List T_b) := joinAt E ext 74 0 fu [true, true, true, false, true, false, false, true, true, false, false, true, true, true, true] [fu1] (tabTm [0, 3, 4, 5, 6, 8, 9, 15, 16, 17] [.ro e_i l, .own 500, .box 501 0, .box 502 0, .box 503 0, .box 504 0, .box 505 0, .ro e_i x, .int .i64 x_1, .int .i64 x_2]) (tabOb [(500, some (.row (.is false) e_b out)), (501, some (.box [.bool picture])), (502, some (.box [.bool bind])), (503, some (.box [.int .i64 flags])), (504, some (.box [.int .i64 p])), (505, some (.box [.int .i64 c]))])
def impl_kept_J16'1 (fu fu1 : Nat) (a : List T_s) (b : List T_s) (i : Int) (j : Int) (m : List (List T_i)) (out : List T_ii) : Option (List T_ii) := joinAt E ext 26 0 fu [true, true, true, true, false, true, false, false, true] [fu1] (tabTm [0, 1, 5, 8, 9, 10] [.ro e_s a, .ro e_s b, .mt 500 .all, .own 502, .int .i64 i, .int .i64 j]) (tabOb [(500, some (.mat (.int .i64) m)), (501, none), (502, some (.row .unk e_ii out))])
def spec_l01Next_L19 (fu fu1 : Nat) (t : ByteArray) (at' : Int) (n : Int) (p : Int) (i : Int) : Option (Int × Int × Bool) := loopAt E ext 64 0 fu [true, true, true, true, true, true, false, true, false] [] fu1 (tabTm [0, 1, 8, 9, 10] [.str t, .int .i64 at', .int .i64 n, .int .i64 p, .int .i64 i]) (tabOb [])
def spec_l01Cat (fu : Nat) (p : Int) : Option (Int) := evF E ext fu 83 [.int .i64 p] []
def spec_l07Syllable (fu : Nat) (a : Int) (b : Int) : Option (Bool) := evF E ext fu 66 [.int .i64 a, .int .i64 b] []
def spec_l07Mark (fu : Nat) (p : Int) : Option (Bool) := evF E ext fu 67 [.int .i64 p] []
def spec_l07Bound (fu : Nat) (l : List T_i) (at' : Int) : Option (Bool) := evF E ext fu 68 [.ro e_i l, .int .i64 at'] []
def spec_l07Char_J10 (fu : Nat) (l : List T_i) (i : Int) (left : Int) (right : Int) (x : Bool) : Option (Bool) := joinAt E ext 55 0 fu [true, true, true, false, false, true, true, true, true, true, true, true] [] (tabTm [0, 1, 5, 6, 39] [.ro e_i l, .int .i64 i, .int .i64 left, .int .i64 right, .bool x]) (tabOb [])
def impl_kind (fu : Nat) (p : Int) : Option (Int × Int) := evF E ext fu 105 [.int .i64 p] []
def impl_isMark (fu : Nat) (p : Int) : Option (Bool) := evF E ext fu 95 [.int .i64 p] []
def impl_charClass_J4 (fu : Nat) (p : Int) (x : Bool) : Option (Int) := joinAt E ext 86 0 fu [true, false, false, true, true, true] [] (tabTm [0, 11] [.int .i64 p, .bool x]) (tabOb [])
def impl_in (fu : Nat) (p : Int) (a : Int) (b : Int) : Option (Bool) := evF E ext fu 88 [.int .i64 p, .int .i64 a, .int .i64 b] []
def impl_charCuts_1_J4 (fu : Nat) (x : Bool) (x_1 : Int) (x_2 : Int) (x_3 : Int) (x_4 : Int) (x_5 : Bool) (x_6 : Bool) (x_7 : Int) : Option (Bool × (Int × Int × Int × Int × Bool × Bool × Int)) := joinAt E ext 87 7 fu [true, false, false, true, true, true] [] (tabTm [0, 1, 2, 3, 4, 5, 6, 15] [.box 0 0, .box 1 0, .box 2 0, .box 3 0, .box 4 0, .box 5 0, .box 6 0, .bool x]) (tabOb [(0, some (.box [.int .i64 x_1])), (1, some (.box [.int .i64 x_2])), (2, some (.box [.int .i64 x_3])), (3, some (.box [.int .i64 x_4])), (4, some (.box [.bool x_5])), (5, some (.box [.bool x_6])), (6, some (.box [.int .i64 x_7]))])
def impl_charCuts_J17 (fu fu1 : Nat) (l : List T_i) (x : List T_i) (x_1 : Int) (x_2 : Int) (out : List T_b) (picture : Bool) (bind : Bool) (flags : Int) : Option (List T_b) := joinAt E ext 74 0 fu [true, true, true, false, true, false, false, true, true, true] [fu1] (tabTm [0, 3, 4, 5, 6, 15, 16, 17] [.ro e_i l, .own 500, .box 501 0, .box 502 0, .box 503 0, .ro e_i x, .int .i64 x_1, .int .i64 x_2]) (tabOb [(500, some (.row (.is false) e_b out)), (501, some (.box [.bool picture])), (502, some (.box [.bool bind])), (503, some (.box [.int .i64 flags]))])
def spec_l01Known (fu : Nat) (p : Int) : Option (Int × Int) := evF E ext fu 92 [.int .i64 p] []
def spec_l07Part (fu : Nat) (p : Int) : Option (Int) := evF E ext fu 84 [.int .i64 p] []
def spec_l07Syllable_J8 (fu : Nat) (y : Int) (x : Int) (x_1 : Bool) : Option (Bool) := joinAt E ext 66 0 fu [true, true, true, false, true, false, true, true, true] [] (tabTm [6, 11, 28] [.int .i64 y, .int .i64 x, .bool x_1]) (tabOb [])
def spec_l07Bound_L1 (fu fu1 : Nat) (l : List T_i) (at' : Int) : Option (Bool) := loopAt E ext 68 0 fu [true, false, false] [] fu1 (tabTm [0, 1] [.ro e_i l, .int .i64 at']) (tabOb [])
def spec_l07Picture (fu : Nat) (p : Int) : Option (Bool) := evF E ext fu 69 [.int .i64 p] []
def spec_l07Char_L13 (fu fu1 : Nat) (l : List T_i) (k : Int) : Option (Bool) := loopAt E ext 55 0 fu [true, true, true, false, false, true, true, true, true, true, true, true, true, true, false, true, false, false] [] fu1 (tabTm [0, 7] [.ro e_i l, .int .i64 k]) (tabOb [])
def spec_l07Flag (fu : Nat) (p : Int) : Option (Bool) := evF E ext fu 70 [.int .i64 p] []
def spec_l07Flags (fu : Nat) (l : List T_i) (at' : Int) : Option (Int) := evF E ext fu 71 [.ro e_i l, .int .i64 at'] []
def spec_l07Char_J18 (fu : Nat) : Option (Bool) := joinAt E ext 55 0 fu [true, true, true, true] [] (tabTm [] []) (tabOb [])
def impl_block (fu : Nat) (p : Int) : Option (Int × Int) := evF E ext fu 108 [.int .i64 p] []
def impl_kind_J14 (fu : Nat) (p : Int) (x : Bool) : Option (Int × Int) := joinAt E ext 105 0 fu [true, true, false, false, true] [] (tabTm [0, 44] [.int .i64 p, .bool x]) (tabOb [])
def impl_isOpen (fu : Nat) (p : Int) : Option (Bool) := evF E ext fu 96 [.int .i64 p] []
def impl_isSyllable (fu : Nat) (p : Int) : Option (Bool) := evF E ext fu 97 [.int .i64 p] []
def impl_isPicture (fu : Nat) (p : Int) : Option (Bool) := evF E ext fu 98 [.int .i64 p] []
def impl_charCuts_1_J6 (fu : Nat) (x : Bool) (x_1 : Int) (x_2 : Int) (x_3 : Int) (x_4 : Int) (x_5 : Bool) (x_6 : Bool) (x_7 : Int) : Option (Bool × (Int × Int × Int × Int × Bool × Bool × Int)) := joinAt E ext 87 7 fu [true, false, false, true, true, true, true, true] [] (tabTm [0, 1, 2, 3, 4, 5, 6, 22] [.box 0 0, .box 1 0, .box 2 0, .box 3 0, .box 4 0, .box 5 0, .box 6 0, .bool x]) (tabOb [(0, some (.box [.int .i64 x_1])), (1, some (.box [.int .i64 x_2])), (2, some (.box [.int .i64 x_3])), (3, some (.box [.int .i64 x_4])), (4, some (.box [.bool x_5])), (5, some (.box [.bool x_6])), (6, some (.box [.int .i64 x_7]))])
def spec_l01Cased (fu : Nat) : Option (List T_iiii) := evF E ext fu 103 [] []
def spec_l01Known_L4 (fu fu1 : Nat) (p : Int) (i : Int) (rows : List T_iiii) : Option (Int × Int) := loopAt E ext 92 0 fu [true, false, true, false, true, false, true, false] [] fu1 (tabTm [0, 4, 5] [.int .i64 p, .own 500, .int .i64 i]) (tabOb [(500, some (.row .unk e_iiii rows))])
def spec_l01Rows (fu : Nat) : Option (List T_iiii) := evF E ext fu 104 [] []
def spec_l01Known_L18 (fu fu1 : Nat) (p : Int) (i : Int) (rows : List T_iiii) : Option (Int × Int) := loopAt E ext 92 0 fu [true, true, true, true, false, true, false] [] fu1 (tabTm [0, 7, 8] [.int .i64 p, .own 500, .int .i64 i]) (tabOb [(500, some (.row .unk e_iiii rows))])
def spec_l07Part_J11 (fu : Nat) : Option (Int) := joinAt E ext 84 0 fu [true, true] [] (tabTm [] []) (tabOb [])
def spec_l07Flags_L2 (fu fu1 : Nat) (l : List T_i) (at' : Int) (n : Int) : Option (Int) := loopAt E ext 71 0 fu [true, true, false, false] [] fu1 (tabTm [0, 1, 5] [.ro e_i l, .int .i64 at', .int .i64 n]) (tabOb [])
def impl_kind_J16 (fu : Nat) (p : Int) (x : Bool) : Option (Int × Int) := joinAt E ext 105 0 fu [true, true, false, false, true, true, true] [] (tabTm [0, 51] [.int .i64 p, .bool x]) (tabOb [])
def impl_charCuts_1_J8 (fu : Nat) (x : Bool) (x_1 : Int) (x_2 : Int) (x_3 : Int) (x_4 : Int) (x_5 : Bool) (x_6 : Bool) (x_7 : Int) : Option (Bool × (Int × Int × Int × Int × Bool × Bool × Int)) := joinAt E ext 87 7 fu [true, false, false, true, true, true, true, true, true, true] [] (tabTm [0, 1, 2, 3, 4, 5, 6, 41] [.box 0 0, .box 1 0, .box 2 0, .box 3 0, .box 4 0, .box 5 0, .box 6 0, .bool x]) (tabOb [(0, some (.box [.int .i64 x_1])), (1, some (.box [.int .i64 x_2])), (2, some (.box [.int .i64 x_3])), (3, some (.box [.int .i64 x_4])), (4, some (.box [.bool x_5])), (5, some (.box [.bool x_6])), (6, some (.box [.int .i64 x_7]))])
def impl_kind_J36 (fu : Nat) (p : Int) (x : Bool) : Option (Int × Int) := joinAt E ext 105 0 fu [true, true, false, false, true, true, true, true, true, true, true, true, true, true, true, true, true, true, true, true, true, true, true, true, true, true, true] [] (tabTm [0, 89] [.int .i64 p, .bool x]) (tabOb [])
def impl_charCuts_1_J10 (fu : Nat) (x : Bool) (x_1 : Int) (x_2 : Int) (x_3 : Int) (x_4 : Int) (x_5 : Bool) (x_6 : Bool) (x_7 : Int) : Option (Bool × (Int × Int × Int × Int × Bool × Bool × Int)) := joinAt E ext 87 7 fu [true, false, false, true, true, true, true, true, true, true, true, true] [] (tabTm [0, 1, 2, 3, 4, 5, 6, 56] [.box 0 0, .box 1 0, .box 2 0, .box 3 0, .box 4 0, .box 5 0, .box 6 0, .bool x]) (tabOb [(0, some (.box [.int .i64 x_1])), (1, some (.box [.int .i64 x_2])), (2, some (.box [.int .i64 x_3])), (3, some (.box [.int .i64 x_4])), (4, some (.box [.bool x_5])), (5, some (.box [.bool x_6])), (6, some (.box [.int .i64 x_7]))])
def impl_kind_J40 (fu : Nat) (p : Int) (x : Bool) : Option (Int × Int) := joinAt E ext 105 0 fu [true, true, false, false, true, true, true, true, true, true, true, true, true, true, true, true, true, true, true, true, true, true, true, true, true, true, true, true, true, true, true] [] (tabTm [0, 103] [.int .i64 p, .bool x]) (tabOb [])
def impl_charCuts_1_J19 (fu : Nat) (x : Int) (x_1 : Int) (x_2 : Int) (x_3 : Int) (x_4 : Bool) (x_5 : Bool) (x_6 : Int) : Option (Bool × (Int × Int × Int × Int × Bool × Bool × Int)) := joinAt E ext 87 7 fu [true, true] [] (tabTm [] []) (tabOb [(0, some (.box [.int .i64 x])), (1, some (.box [.int .i64 x_1])), (2, some (.box [.int .i64 x_2])), (3, some (.box [.int .i64 x_3])), (4, some (.box [.bool x_4])), (5, some (.box [.bool x_5])), (6, some (.box [.int .i64 x_6]))])
def impl_kind_J46 (fu : Nat) (p : Int) (x : Bool) : Option (Int × Int) := joinAt E ext 105 0 fu [true, true, false, false, true, true, true, true, true, true, true, true, true, true, true, true, true, true, true, true, true, true, true, true, true, true, true, true, true, true, true, true, true, true, true, true, true] [] (tabTm [0, 124] [.int .i64 p, .bool x]) (tabOb [])
def impl_kind_J48 (fu : Nat) (p : Int) (x : Bool) : Option (Int × Int) := joinAt E ext 105 0 fu [true, true, false, false, true, true, true, true, true, true, true, true, true, true, true, true, true, true, true, true, true, true, true, true, true, true, true, true, true, true, true, true, true, true, true, true, true, true, true] [] (tabTm [0, 131] [.int .i64 p, .bool x]) (tabOb [])
def impl_kind_J61 (fu : Nat) : Option (Int × Int) := joinAt E ext 105 0 fu [true, true, true] [] (tabTm [] []) (tabOb [])
end
end Go.Proofs.YtkkjkpliiinbjaaDoor.DF
