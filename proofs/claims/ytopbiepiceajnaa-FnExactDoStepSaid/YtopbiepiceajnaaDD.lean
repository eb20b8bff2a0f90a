/- The functions that the law reaches, as the evaluator reads them: table and names. -/
import Derived.Test.YtopbiepiceajnaaProg
import Derived.Test.YtopbiepiceajnaaE30
namespace Go.Proofs.Ytopbiepiceajnaa.D
open Go.Eng
set_option linter.unusedVariables false
noncomputable section
instance glb : Glb := Glb.none
def e_s : CTs := (.one .str)
abbrev T_s : Type := ByteArray
noncomputable def z_s : T_s := (⟨#[]⟩ : ByteArray)
def e_y : CTs := (.one (.int .u8))
abbrev T_y : Type := Int
noncomputable def z_y : T_y := (0 : Int)
def e_issi : CTs := (.cons (.int .i64) (.cons .str (.cons .str (.one (.int .i64)))))
abbrev T_issi : Type := Int × ByteArray × ByteArray × Int
noncomputable def z_issi : T_issi := ((0 : Int), (⟨#[]⟩ : ByteArray), (⟨#[]⟩ : ByteArray), (0 : Int))
def sigT : List (Nat × Sig) := [(9, ⟨.bool, []⟩),
  (12, ⟨.int .i64, []⟩),
  (13, ⟨.int .i64, []⟩),
  (14, ⟨.agg (.cons .str (.cons (.own e_issi) (.one (.int .i64)))), []⟩),
  (16, ⟨.bool, []⟩),
  (31, ⟨.bool, []⟩),
  (32, ⟨.int .i64, [.row e_issi]⟩),
  (33, ⟨.int .i64, [.row e_issi]⟩),
  (34, ⟨.int .i64, []⟩),
  (37, ⟨.agg (.cons (.int .i64) (.cons .str (.cons (.own e_issi) (.cons (.int .i64) (.one .str))))), []⟩),
  (38, ⟨.agg (.cons (.int .i64) (.cons .str (.cons (.own e_issi) (.cons (.int .i64) (.one .str))))), []⟩),
  (46, ⟨.int .i64, []⟩),
  (47, ⟨.tup (.cons .str (.one .bool)), []⟩),
  (48, ⟨.own e_issi, []⟩),
  (49, ⟨.ownF e_s, []⟩),
  (50, ⟨.bool, []⟩),
  (54, ⟨.own e_issi, []⟩),
  (55, ⟨.int .i64, [.row e_issi]⟩),
  (56, ⟨.int .i64, []⟩),
  (57, ⟨.agg (.cons (.int .i64) (.cons .str (.cons (.own e_issi) (.cons (.int .i64) (.one .str))))), []⟩),
  (58, ⟨.bool, []⟩),
  (59, ⟨.str, []⟩),
  (64, ⟨.str, []⟩),
  (71, ⟨.int .i64, []⟩),
  (72, ⟨.tup (.cons .str (.one .bool)), []⟩),
  (73, ⟨.agg (.cons (.int .i64) (.cons .str (.cons .str (.one (.int .i64))))), []⟩),
  (74, ⟨.bool, []⟩),
  (75, ⟨.bool, []⟩),
  (78, ⟨.agg (.cons (.int .i64) (.cons .str (.cons (.own e_issi) (.cons (.int .i64) (.one .str))))), [.dead]⟩),
  (79, ⟨.int .i64, []⟩),
  (80, ⟨.bool, []⟩),
  (82, ⟨.bool, []⟩)]
def lendT : List (Nat × List Bool) := [(32, [true, false]), (33, [true, false]), (55, [true, false]), (78, [true])]
def loopT : List (Nat × List (Nat × Hint)) := [(13, [(4, { live := [1, 3] })]),
  (46, [(5, { live := [0, 1, 5] })]),
  (47, [(4, { live := [1, 2, 6, 7, 8] })]),
  (48, [(3, { live := [0, 3, 4] })]),
  (49, [(6, { live := [3, 4, 35, 36, 37] })]),
  (50, [(4, { live := [0, 1, 5] })]),
  (55, [(2, { live := [0, 1, 5] })]),
  (64, [(4, { live := [0, 3] })]),
  (79, [(2, { live := [0, 1, 5] })])]
def joinT : List (Nat × List (Nat × Hint)) := [(9, [(18, { live := [1, 2, 3, 4, 5, 12, 14] })]),
  (38, [(6, { live := [1, 2, 3, 4, 5, 10, 11] }), (10, { live := [1, 2, 3, 4, 5, 10, 12] }), (17, { live := [3, 5, 10, 14, 15, 16, 17, 129] }), (19, { live := [5, 10, 15, 16] })]),
  (49, [(10, { live := [3, 4, 6, 35, 36, 37] })]),
  (57, [(10, { live := [2, 3, 5, 10, 11, 13, 14, 15, 101] }), (12, { live := [2, 3, 5, 10, 11, 14] })])]
noncomputable def E : Env := { P := Go.Proofs.Try.prog, sig := fun f => lookN ⟨.bool, []⟩ f sigT, lend := fun f => lookN [] f lendT, loopHint := fun f k => lookT f k loopT, joinHint := fun f k => lookT f k joinT, over := fun f => memb f [54] }
def bs (l : List Nat) : ByteArray := ⟨⟨l.map UInt8.ofNat⟩⟩
def ext : Cf E := fun f vs os =>
  if h : f = 54 then h ▸ (xClone e_issi 48 vs os : Option (E.sig 54).T) else
  none
def laws_FnExactDoStep (fu : Nat) (aH : ByteArray) (aH_1 : List T_issi) (aH_2 : Int) (aAt : Int) (aDrop : Int) (aPut : ByteArray) (aGroup : Int) : Option (Bool) := evF E ext fu 9 [.agg [.str aH, .ro e_issi aH_1, .int .i64 aH_2], .int .i64 aAt, .int .i64 aDrop, .str aPut, .int .i64 aGroup] []
def laws_szHistory (fu : Nat) (a : ByteArray) (a_1 : List T_issi) (a_2 : Int) (left : Int) : Option (Int) := evF E ext fu 12 [.agg [.str a, .ro e_issi a_1, .int .i64 a_2], .int .i64 left] []
def laws_toHistory (fu : Nat) (a : ByteArray) (a_1 : List T_issi) (a_2 : Int) : Option (ByteArray × List T_issi × Int) := evF E ext fu 14 [.agg [.str a, .ro e_issi a_1, .int .i64 a_2]] []
def spec_DoStep (fu : Nat) (h : ByteArray) (h_1 : List T_issi) (h_2 : Int) (at' : Int) (drop : Int) (put : ByteArray) (group : Int) : Option (Int × ByteArray × List T_issi × Int × ByteArray) := evF E ext fu 37 [.agg [.str h, .ro e_issi h_1, .int .i64 h_2], .int .i64 at', .int .i64 drop, .str put, .int .i64 group] []
def impl_DoStep (fu : Nat) (h : ByteArray) (h_1 : List T_issi) (h_2 : Int) (at' : Int) (drop : Int) (put : ByteArray) (group : Int) : Option (Int × ByteArray × List T_issi × Int × ByteArray) := evF E ext fu 38 [.agg [.str h, .ro e_issi h_1, .int .i64 h_2], .int .i64 at', .int .i64 drop, .str put, .int .i64 group] []
def laws_eqHistoryOut (fu : Nat) (a : Int) (a_1 : ByteArray) (a_2 : List T_issi) (a_3 : Int) (a_4 : ByteArray) (b : Int) (b_1 : ByteArray) (b_2 : List T_issi) (b_3 : Int) (b_4 : ByteArray) : Option (Bool) := evF E ext fu 31 [.agg [.int .i64 a, .str a_1, .ro e_issi a_2, .int .i64 a_3, .str a_4], .agg [.int .i64 b, .str b_1, .ro e_issi b_2, .int .i64 b_3, .str b_4]] []
def laws_eqHistory (fu : Nat) (a : ByteArray) (a_1 : List T_issi) (a_2 : Int) (b : ByteArray) (b_1 : List T_issi) (b_2 : Int) : Option (Bool) := evF E ext fu 16 [.agg [.str a, .ro e_issi a_1, .int .i64 a_2], .agg [.str b, .ro e_issi b_1, .int .i64 b_2]] []
def laws_markHistory (fu : Nat) (a : ByteArray) (a_1 : Int) (k : Int) (a_2 : List T_issi) : Option (Int × List T_issi) := evF E ext fu 32 [.agg [.str a, .own 0, .int .i64 a_1], .int .i64 k] [.row .unk e_issi a_2]
def laws_FnExactDoStep_J18 (fu : Nat) (aAt : Int) (aDrop : Int) (aPut : ByteArray) (aGroup : Int) (aH : ByteArray) (aH_1 : List T_issi) (aH_2 : Int) (w0 : Int) (w0_1 : ByteArray) (w0_2 : Int) (w0_3 : ByteArray) (x : List T_issi) (g0 : Int) (g0_1 : ByteArray) (g0_2 : Int) (g0_3 : ByteArray) (x_1 : List T_issi) : Option (Bool) := joinAt E ext 9 0 fu [true, true, true, true, true, true, true, true, true, true, true, true, true] [] (tabTm [1, 2, 3, 4, 5, 12, 14] [.int .i64 aAt, .int .i64 aDrop, .str aPut, .int .i64 aGroup, .box 500 0, .box 501 0, .box 503 0]) (tabOb [(500, some (.box [.str aH, .ro e_issi aH_1, .int .i64 aH_2])), (501, some (.box [.int .i64 w0, .str w0_1, .own 502, .int .i64 w0_2, .str w0_3])), (502, some (.row .unk e_issi x)), (503, some (.box [.int .i64 g0, .str g0_1, .own 504, .int .i64 g0_2, .str g0_3])), (504, some (.row .unk e_issi x_1))])
def laws_szStepS (fu : Nat) (a : List T_issi) (left : Int) : Option (Int) := evF E ext fu 46 [.ro e_issi a, .int .i64 left] []
def laws_toStepS (fu : Nat) (a : List T_issi) : Option (List T_issi) := evF E ext fu 48 [.ro e_issi a] []
def spec_HistoryFault (fu : Nat) (h : ByteArray) (h_1 : List T_issi) (h_2 : Int) : Option (Int) := evF E ext fu 13 [.agg [.str h, .ro e_issi h_1, .int .i64 h_2]] []
def spec_l21Do (fu : Nat) (h : ByteArray) (h_1 : List T_issi) (h_2 : Int) (at' : Int) (drop : Int) (put : ByteArray) (group : Int) : Option (Int × ByteArray × List T_issi × Int × ByteArray) := evF E ext fu 57 [.agg [.str h, .ro e_issi h_1, .int .i64 h_2], .int .i64 at', .int .i64 drop, .str put, .int .i64 group] []
def impl_long (fu : Nat) (s : ByteArray) : Option (Bool) := evF E ext fu 58 [.str s] []
def impl_texts (fu : Nat) (h : ByteArray) (h_1 : List T_issi) (h_2 : Int) : Option (List T_s × Bool) := evF E ext fu 49 [.agg [.str h, .ro e_issi h_1, .int .i64 h_2]] []
def impl_DoStep_J6 (fu : Nat) (at' : Int) (drop : Int) (put : ByteArray) (group : Int) (h : ByteArray) (h_1 : List T_issi) (h_2 : Int) (x : Int) (x_1 : ByteArray) (x_2 : Int) (x_3 : ByteArray) (lNil : Bool) (l : List T_s) : Option (Int × ByteArray × List T_issi × Int × ByteArray) := joinAt E ext 38 0 fu [true, true, true, true] [] (tabTm [1, 2, 3, 4, 5, 10, 11] [.int .i64 at', .int .i64 drop, .str put, .int .i64 group, .box 500 0, .box 501 0, .own 502]) (tabOb [(500, some (.box [.str h, .ro e_issi h_1, .int .i64 h_2])), (501, some (.box [.int .i64 x, .str x_1, .nil, .int .i64 x_2, .str x_3])), (502, some (.row (.is lNil) e_s l))])
def laws_eqStepS (fu : Nat) (a : List T_issi) (b : List T_issi) : Option (Bool) := evF E ext fu 50 [.ro e_issi a, .ro e_issi b] []
def laws_markStepS (fu : Nat) (k : Int) (a : List T_issi) : Option (Int × List T_issi) := evF E ext fu 55 [.own 0, .int .i64 k] [.row .unk e_issi a]
def laws_markHistoryOut (fu : Nat) (a : Int) (a_1 : ByteArray) (a_2 : Int) (a_3 : ByteArray) (k : Int) (a_4 : List T_issi) : Option (Int × List T_issi) := evF E ext fu 33 [.agg [.int .i64 a, .str a_1, .own 0, .int .i64 a_2, .str a_3], .int .i64 k] [.row .unk e_issi a_4]
def laws_heldHistoryOut (fu : Nat) (a : Int) (a_1 : ByteArray) (a_2 : List T_issi) (a_3 : Int) (a_4 : ByteArray) (k : Int) : Option (Int) := evF E ext fu 34 [.agg [.int .i64 a, .str a_1, .ro e_issi a_2, .int .i64 a_3, .str a_4], .int .i64 k] []
def laws_szStepS_L5 (fu fu1 : Nat) (a : List T_issi) (left : Int) (i : Int) : Option (Int) := loopAt E ext 46 0 fu [true, true, true, false, true, false] [] fu1 (tabTm [0, 1, 5] [.ro e_issi a, .int .i64 left, .int .i64 i]) (tabOb [])
def laws_toStepS_L3 (fu fu1 : Nat) (a : List T_issi) (i : Int) (out : List T_issi) : Option (List T_issi) := loopAt E ext 48 0 fu [true, true, false, true, false] [] fu1 (tabTm [0, 3, 4] [.ro e_issi a, .own 500, .int .i64 i]) (tabOb [(500, some (.row (.is false) e_issi out))])
def spec_HistoryFault_L4 (fu fu1 : Nat) (i : Int) (h : ByteArray) (h_1 : List T_issi) (h_2 : Int) : Option (Int) := loopAt E ext 13 0 fu [true, true, false, true, false] [] fu1 (tabTm [1, 3] [.box 500 0, .int .i64 i]) (tabOb [(500, some (.box [.str h, .ro e_issi h_1, .int .i64 h_2]))])
def spec_l21Text (fu : Nat) (h : ByteArray) (h_1 : List T_issi) (h_2 : Int) (done : Int) : Option (ByteArray × Bool) := evF E ext fu 47 [.agg [.str h, .ro e_issi h_1, .int .i64 h_2], .int .i64 done] []
def spec_l20Within (fu : Nat) (t : ByteArray) (at' : Int) (drop : Int) : Option (Bool) := evF E ext fu 80 [.str t, .int .i64 at', .int .i64 drop] []
def spec_l21Do_J10 (fu : Nat) (drop : Int) (put : ByteArray) (t : ByteArray) (n : Int) (x : Bool) (h : ByteArray) (h_1 : List T_issi) (h_2 : Int) (x_1 : Int) (x_2 : ByteArray) (x_3 : Int) (x_4 : ByteArray) (s : Int) (s_1 : ByteArray) (s_2 : ByteArray) (s_3 : Int) (steps : List T_issi) : Option (Int × ByteArray × List T_issi × Int × ByteArray) := joinAt E ext 57 0 fu [true, true, true, true, true, true, true, false, true] [] (tabTm [2, 3, 5, 10, 11, 13, 14, 15, 101] [.int .i64 drop, .str put, .box 500 0, .box 501 0, .str t, .box 502 0, .own 503, .int .i64 n, .bool x]) (tabOb [(500, some (.box [.str h, .ro e_issi h_1, .int .i64 h_2])), (501, some (.box [.int .i64 x_1, .str x_2, .nil, .int .i64 x_3, .str x_4])), (502, some (.box [.int .i64 s, .str s_1, .str s_2, .int .i64 s_3])), (503, some (.row (.is false) e_issi steps))])
def impl_texts_L6 (fu fu1 : Nat) (s : ByteArray) (x : List T_issi) (x_1 : Int) (x_2 : Int) (out : List T_s) : Option (List T_s × Bool) := loopAt E ext 49 0 fu [true, true, true, true, false, true, false] [] fu1 (tabTm [3, 4, 35, 36, 37] [.own 500, .str s, .ro e_issi x, .int .i64 x_1, .int .i64 x_2]) (tabOb [(500, some (.row (.is false) e_s out))])
def impl_DoStep_J10 (fu : Nat) (at' : Int) (drop : Int) (put : ByteArray) (group : Int) (s : ByteArray) (h : ByteArray) (h_1 : List T_issi) (h_2 : Int) (x : Int) (x_1 : ByteArray) (x_2 : Int) (x_3 : ByteArray) : Option (Int × ByteArray × List T_issi × Int × ByteArray) := joinAt E ext 38 0 fu [true, true, true, true, true, true, true] [] (tabTm [1, 2, 3, 4, 5, 10, 12] [.int .i64 at', .int .i64 drop, .str put, .int .i64 group, .box 500 0, .box 501 0, .str s]) (tabOb [(500, some (.box [.str h, .ro e_issi h_1, .int .i64 h_2])), (501, some (.box [.int .i64 x, .str x_1, .nil, .int .i64 x_2, .str x_3]))])
def laws_eqStepS_L4 (fu fu1 : Nat) (a : List T_issi) (b : List T_issi) (i : Int) : Option (Bool) := loopAt E ext 50 0 fu [true, true, false, true, false] [] fu1 (tabTm [0, 1, 5] [.ro e_issi a, .ro e_issi b, .int .i64 i]) (tabOb [])
def laws_markStepS_L2 (fu fu1 : Nat) (k : Int) (i : Int) (a : List T_issi) : Option (Int × List T_issi) := loopAt E ext 55 1 fu [true, false, true, false] [] fu1 (tabTm [0, 1, 5] [.own 0, .int .i64 k, .int .i64 i]) (tabOb [(0, some (.row .unk e_issi a))])
def laws_heldHistory (fu : Nat) (a : ByteArray) (a_1 : List T_issi) (a_2 : Int) (k : Int) : Option (Int) := evF E ext fu 56 [.agg [.str a, .ro e_issi a_1, .int .i64 a_2], .int .i64 k] []
def laws_szStep (fu : Nat) (a : Int) (a_1 : ByteArray) (a_2 : ByteArray) (a_3 : Int) (left : Int) : Option (Int) := evF E ext fu 71 [.agg [.int .i64 a, .str a_1, .str a_2, .int .i64 a_3], .int .i64 left] []
def laws_toStep (fu : Nat) (a : Int) (a_1 : ByteArray) (a_2 : ByteArray) (a_3 : Int) : Option (Int × ByteArray × ByteArray × Int) := evF E ext fu 73 [.agg [.int .i64 a, .str a_1, .str a_2, .int .i64 a_3]] []
def spec_l21Text_L4 (fu fu1 : Nat) (done : Int) (t : ByteArray) (ok : Bool) (i : Int) (h : ByteArray) (h_1 : List T_issi) (h_2 : Int) : Option (ByteArray × Bool) := loopAt E ext 47 0 fu [true, true, true, false, true, false] [] fu1 (tabTm [1, 2, 6, 7, 8] [.int .i64 done, .box 500 0, .str t, .bool ok, .int .i64 i]) (tabOb [(500, some (.box [.str h, .ro e_issi h_1, .int .i64 h_2]))])
def spec_l21Do_J12 (fu : Nat) (drop : Int) (put : ByteArray) (t : ByteArray) (h : ByteArray) (h_1 : List T_issi) (h_2 : Int) (x : Int) (x_1 : ByteArray) (x_2 : Int) (x_3 : ByteArray) (steps : List T_issi) : Option (Int × ByteArray × List T_issi × Int × ByteArray) := joinAt E ext 57 0 fu [true, true, true, true, true, true, true, true] [] (tabTm [2, 3, 5, 10, 11, 14] [.int .i64 drop, .str put, .box 500 0, .box 501 0, .str t, .own 502]) (tabOb [(500, some (.box [.str h, .ro e_issi h_1, .int .i64 h_2])), (501, some (.box [.int .i64 x, .str x_1, .nil, .int .i64 x_2, .str x_3])), (502, some (.row (.is false) e_issi steps))])
def strings_HasPrefix (fu : Nat) (s : ByteArray) (prefix' : ByteArray) : Option (Bool) := evF E ext fu 74 [.str s, .str prefix'] []
def impl_texts_J10 (fu fu1 : Nat) (s : ByteArray) (x : List T_issi) (x_1 : Int) (x_2 : Int) (out : List T_s) (x_3 : Int) (x_4 : ByteArray) (x_5 : ByteArray) (x_6 : Int) : Option (List T_s × Bool) := joinAt E ext 49 0 fu [true, true, true, true, false, true, false, false, true, true, false, false, true, true] [fu1] (tabTm [3, 4, 6, 35, 36, 37] [.own 500, .str s, .box 501 0, .ro e_issi x, .int .i64 x_1, .int .i64 x_2]) (tabOb [(500, some (.row (.is false) e_s out)), (501, some (.box [.int .i64 x_3, .str x_4, .str x_5, .int .i64 x_6]))])
def slices_Clone_Step_Step (fu : Nat) (s : List T_issi) : Option (List T_issi) := evF E ext fu 54 [.ro e_issi s] []
def impl_do (fu : Nat) (s : ByteArray) (x : Int) (x_1 : ByteArray) (x_2 : ByteArray) (x_3 : Int) : Option (ByteArray) := evF E ext fu 59 [.str s, .agg [.int .i64 x, .str x_1, .str x_2, .int .i64 x_3]] []
def impl_DoStep_J17 (fu : Nat) (put : ByteArray) (text : ByteArray) (k : Int) (x : Bool) (h : ByteArray) (h_1 : List T_issi) (h_2 : Int) (x_1 : Int) (x_2 : ByteArray) (x_3 : Int) (x_4 : ByteArray) (x_5 : Int) (x_6 : ByteArray) (x_7 : ByteArray) (x_8 : Int) (steps : List T_issi) : Option (Int × ByteArray × List T_issi × Int × ByteArray) := joinAt E ext 38 0 fu [true, true, true, true, true, true, true, true, true, true, true, true, false, true] [] (tabTm [3, 5, 10, 14, 15, 16, 17, 129] [.str put, .box 500 0, .box 501 0, .box 502 0, .own 503, .str text, .int .i64 k, .bool x]) (tabOb [(500, some (.box [.str h, .ro e_issi h_1, .int .i64 h_2])), (501, some (.box [.int .i64 x_1, .str x_2, .nil, .int .i64 x_3, .str x_4])), (502, some (.box [.int .i64 x_5, .str x_6, .str x_7, .int .i64 x_8])), (503, some (.row .unk e_issi steps))])
def laws_eqStep (fu : Nat) (a : Int) (a_1 : ByteArray) (a_2 : ByteArray) (a_3 : Int) (b : Int) (b_1 : ByteArray) (b_2 : ByteArray) (b_3 : Int) : Option (Bool) := evF E ext fu 75 [.agg [.int .i64 a, .str a_1, .str a_2, .int .i64 a_3], .agg [.int .i64 b, .str b_1, .str b_2, .int .i64 b_3]] []
def laws_markText (fu : Nat) (k : Int) : Option (ByteArray) := evF E ext fu 64 [.int .i64 k] []
def laws_heldStepS (fu : Nat) (a : List T_issi) (k : Int) : Option (Int) := evF E ext fu 79 [.ro e_issi a, .int .i64 k] []
def spec_l21Put (fu : Nat) (t : ByteArray) (s : Int) (s_1 : ByteArray) (s_2 : ByteArray) (s_3 : Int) : Option (ByteArray × Bool) := evF E ext fu 72 [.str t, .agg [.int .i64 s, .str s_1, .str s_2, .int .i64 s_3]] []
def spec_l21Out (fu : Nat) (h : ByteArray) (h_1 : Int) (h_2 : List T_issi) : Option ((Int × ByteArray × List T_issi × Int × ByteArray) × Unit) := evF E ext fu 78 [.agg [.str h, .own 0, .int .i64 h_1]] [.row (.is false) e_issi h_2]
def internal_stringslite_HasPrefix (fu : Nat) (s : ByteArray) (prefix' : ByteArray) : Option (Bool) := evF E ext fu 82 [.str s, .str prefix'] []
def impl_DoStep_J19 (fu : Nat) (text : ByteArray) (h : ByteArray) (h_1 : List T_issi) (h_2 : Int) (x : Int) (x_1 : ByteArray) (x_2 : Int) (x_3 : ByteArray) (steps : List T_issi) : Option (Int × ByteArray × List T_issi × Int × ByteArray) := joinAt E ext 38 0 fu [true, true, true, true, true, true, true, true, true, true, true, true, true] [] (tabTm [5, 10, 15, 16] [.box 500 0, .box 501 0, .own 502, .str text]) (tabOb [(500, some (.box [.str h, .ro e_issi h_1, .int .i64 h_2])), (501, some (.box [.int .i64 x, .str x_1, .nil, .int .i64 x_2, .str x_3])), (502, some (.row .unk e_issi steps))])
def laws_markText_L4 (fu fu1 : Nat) (k : Int) (out : ByteArray) : Option (ByteArray) := loopAt E ext 64 0 fu [true, true, true, false, false] [] fu1 (tabTm [0, 3] [.int .i64 k, .str out]) (tabOb [])
def laws_heldStepS_L2 (fu fu1 : Nat) (a : List T_issi) (k : Int) (i : Int) : Option (Int) := loopAt E ext 79 0 fu [true, false, true, false] [] fu1 (tabTm [0, 1, 5] [.ro e_issi a, .int .i64 k, .int .i64 i]) (tabOb [])
end
end Go.Proofs.Ytopbiepiceajnaa.D
