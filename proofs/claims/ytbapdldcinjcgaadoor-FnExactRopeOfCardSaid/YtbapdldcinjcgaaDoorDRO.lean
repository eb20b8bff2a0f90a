/- The functions that the law reaches, as the evaluator reads them: table and names. -/
import Derived.Test.YtbapdldcinjcgaaDoorProg
import Derived.Test.YtbapdldcinjcgaaDoorE31
namespace Go.Proofs.YtbapdldcinjcgaaDoor.RO
open Go.Eng
set_option linter.unusedVariables false
noncomputable section
instance glb : Glb := Glb.utf8 1 2
def e_y : CTs := (.one (.int .u8))
abbrev T_y : Type := Int
noncomputable def z_y : T_y := (0 : Int)
def e_sib : CTs := (.cons .str (.cons (.int .i64) (.one .bool)))
abbrev T_sib : Type := ByteArray × Int × Bool
noncomputable def z_sib : T_sib := ((⟨#[]⟩ : ByteArray), (0 : Int), false)
def e_iiib : CTs := (.cons (.int .i64) (.cons (.int .i64) (.cons (.int .i64) (.one .bool))))
abbrev T_iiib : Type := Int × Int × Int × Bool
noncomputable def z_iiib : T_iiib := ((0 : Int), (0 : Int), (0 : Int), false)
def e_siiii : CTs := (.cons .str (.cons (.int .i64) (.cons (.int .i64) (.cons (.int .i64) (.one (.int .i64))))))
abbrev T_siiii : Type := ByteArray × Int × Int × Int × Int
noncomputable def z_siiii : T_siiii := ((⟨#[]⟩ : ByteArray), (0 : Int), (0 : Int), (0 : Int), (0 : Int))
def sigT : List (Nat × Sig) := [(3, ⟨.bool, []⟩),
  (13, ⟨.agg (.cons (.own e_siiii) (.one (.own e_sib))), []⟩),
  (14, ⟨.agg (.cons (.own e_siiii) (.one (.own e_sib))), []⟩),
  (15, ⟨.bool, []⟩),
  (16, ⟨.int .i64, [.row e_siiii, .row e_sib]⟩),
  (17, ⟨.int .i64, []⟩),
  (50, ⟨.own e_siiii, [.dead]⟩),
  (51, ⟨.bool, []⟩),
  (52, ⟨.agg (.cons (.own e_siiii) (.one (.own e_sib))), [.dead]⟩),
  (53, ⟨.bool, []⟩),
  (54, ⟨.bool, []⟩),
  (55, ⟨.int .i64, [.row e_siiii]⟩),
  (56, ⟨.int .i64, [.row e_sib]⟩),
  (57, ⟨.int .i64, []⟩),
  (58, ⟨.int .i64, []⟩),
  (70, ⟨.int .i64, []⟩),
  (71, ⟨.int .i64, []⟩),
  (78, ⟨.str, []⟩),
  (90, ⟨.int .i64, []⟩),
  (91, ⟨.own e_siiii, [.dead]⟩),
  (92, ⟨.bool, []⟩),
  (93, ⟨.bool, []⟩),
  (107, ⟨.int .i64, []⟩),
  (108, ⟨.int .i64, []⟩),
  (109, ⟨.int .i64, []⟩),
  (118, ⟨.tup (.cons (.int .i64) (.cons (.int .i64) (.one .bool))), []⟩),
  (119, ⟨.own e_iiib, []⟩),
  (128, ⟨.int .i64, []⟩),
  (141, ⟨.bool, []⟩),
  (142, ⟨.str, []⟩),
  (143, ⟨.tup (.cons (.int .i32) (.one (.int .i64))), []⟩),
  (156, ⟨.int .i64, []⟩),
  (157, ⟨.int .i64, []⟩),
  (158, ⟨.int .i64, []⟩),
  (159, ⟨.int .i64, []⟩),
  (172, ⟨.int .i64, []⟩),
  (173, ⟨.tup (.cons (.int .u32) (.one (.int .u32))), []⟩)]
def lendT : List (Nat × List Bool) := [(16, [true, false]), (50, [true, false]), (52, [false, true]), (55, [true, false]), (56, [true, false]), (91, [true, false])]
def loopT : List (Nat × List (Nat × Hint)) := [(53, [(4, { live := [0, 1, 5] })]),
  (54, [(4, { live := [0, 1, 5] })]),
  (55, [(2, { live := [0, 1, 5] })]),
  (56, [(2, { live := [0, 1, 5] })]),
  (57, [(2, { live := [0, 1, 5] })]),
  (58, [(2, { live := [0, 1, 5] })]),
  (70, [(3, { live := [0, 3, 4] })]),
  (71, [(6, { live := [0, 1, 5] })]),
  (78, [(4, { live := [0, 3] })]),
  (90, [(4, { live := [0, 3, 4, 5] })]),
  (91, [(7, { live := [0, 1, 5, 6, 7, 8] })]),
  (107, [(2, { live := [2, 4] })]),
  (118, [(19, { live := [0, 1, 8, 9, 10] })]),
  (119, [(3, { live := [0, 3, 4] })]),
  (128, [(15, { live := [0, 1, 5, 6, 7, 8, 9, 10] })]),
  (159, [(5, { live := [0, 1, 5, 6, 7, 8, 9] }), (11, { live := [0, 1, 5, 6, 7, 8, 10] })]),
  (173, [(3, { live := [0, 4, 5] }), (8, { live := [4, 6, 7, 8] })])]
def joinT : List (Nat × List (Nat × Hint)) := [(118, [(16, { live := [0, 1, 8, 9] })]),
  (128, [(10, { live := [0, 1, 5] }), (21, { live := [0, 1, 5, 6, 7, 8, 9, 10] }), (23, { live := [0, 1, 5, 6, 7, 8, 9, 10] }), (26, { live := [0, 1, 5, 6, 7, 8, 9, 10, 107] })]),
  (142, [(3, { live := [0] })])]
noncomputable def E : Env := { P := Go.Proofs.Tryd.prog, sig := fun f => lookN ⟨.bool, []⟩ f sigT, lend := fun f => lookN [] f lendT, loopHint := fun f k => lookT f k loopT, joinHint := fun f k => lookT f k joinT, over := fun f => memb f [143] }
def bs (l : List Nat) : ByteArray := ⟨⟨l.map UInt8.ofNat⟩⟩
def ext : Cf E := fun f vs os =>
  if h : f = 108 then h ▸ (xCountString vs os : Option (E.sig 108).T) else
  if h : f = 143 then h ▸ (xDecodeRune vs os : Option (E.sig 143).T) else
  if h : f = 172 then h ▸ (xIndexByteString vs os : Option (E.sig 172).T) else
  none
def laws_FnExactRopeOf (fu : Nat) (aText : ByteArray) : Option (Bool) := evF E ext fu 3 [.str aText] []
def spec_RopeOf (fu : Nat) (text : ByteArray) : Option (List T_siiii × List T_sib) := evF E ext fu 13 [.str text] []
def impl_RopeOf (fu : Nat) (text : ByteArray) : Option (List T_siiii × List T_sib) := evF E ext fu 14 [.str text] []
def laws_eqRope (fu : Nat) (a : List T_siiii) (a_1 : List T_sib) (b : List T_siiii) (b_1 : List T_sib) : Option (Bool) := evF E ext fu 15 [.agg [.ro e_siiii a, .ro e_sib a_1], .agg [.ro e_siiii b, .ro e_sib b_1]] []
def laws_markRope (fu : Nat) (k : Int) (a : List T_siiii) (a_1 : List T_sib) : Option (Int × (List T_siiii × List T_sib)) := evF E ext fu 16 [.agg [.own 0, .own 1], .int .i64 k] [.row .unk e_siiii a, .row .unk e_sib a_1]
def laws_heldRope (fu : Nat) (a : List T_siiii) (a_1 : List T_sib) (k : Int) : Option (Int) := evF E ext fu 17 [.agg [.ro e_siiii a, .ro e_sib a_1], .int .i64 k] []
def spec_l20Build (fu : Nat) (t : ByteArray) (l : List T_siiii) : Option (List T_siiii × Unit) := evF E ext fu 50 [.own 0, .str t] [.row (.is false) e_siiii l]
def impl_long (fu : Nat) (s : ByteArray) : Option (Bool) := evF E ext fu 51 [.str s] []
def impl_ropeOf (fu : Nat) (s : ByteArray) (marks : List T_sib) : Option ((List T_siiii × List T_sib) × Unit) := evF E ext fu 52 [.str s, .own 0] [.row (.is true) e_sib marks]
def laws_eqRopeNodeS (fu : Nat) (a : List T_siiii) (b : List T_siiii) : Option (Bool) := evF E ext fu 53 [.ro e_siiii a, .ro e_siiii b] []
def laws_eqMarkS (fu : Nat) (a : List T_sib) (b : List T_sib) : Option (Bool) := evF E ext fu 54 [.ro e_sib a, .ro e_sib b] []
def laws_markRopeNodeS (fu : Nat) (k : Int) (a : List T_siiii) : Option (Int × List T_siiii) := evF E ext fu 55 [.own 0, .int .i64 k] [.row .unk e_siiii a]
def laws_markMarkS (fu : Nat) (k : Int) (a : List T_sib) : Option (Int × List T_sib) := evF E ext fu 56 [.own 0, .int .i64 k] [.row .unk e_sib a]
def laws_heldRopeNodeS (fu : Nat) (a : List T_siiii) (k : Int) : Option (Int) := evF E ext fu 57 [.ro e_siiii a, .int .i64 k] []
def laws_heldMarkS (fu : Nat) (a : List T_sib) (k : Int) : Option (Int) := evF E ext fu 58 [.ro e_sib a, .int .i64 k] []
def spec_l20Ends (fu : Nat) (t : ByteArray) : Option (Int) := evF E ext fu 70 [.str t] []
def spec_l20Cut (fu : Nat) (t : ByteArray) : Option (Int) := evF E ext fu 90 [.str t] []
def spec_l20Build'1 (fu : Nat) (t : ByteArray) (l : List T_siiii) : Option (List T_siiii × Unit) := evF E ext fu 50 [.own 0, .str t] [.row .unk e_siiii l]
def impl_ropeTree (fu : Nat) (s : ByteArray) (out : List T_siiii) : Option (List T_siiii × Unit) := evF E ext fu 91 [.own 0, .str s] [.row (.is true) e_siiii out]
def laws_eqRopeNodeS_L4 (fu fu1 : Nat) (a : List T_siiii) (b : List T_siiii) (i : Int) : Option (Bool) := loopAt E ext 53 0 fu [true, true, false, true, false] [] fu1 (tabTm [0, 1, 5] [.ro e_siiii a, .ro e_siiii b, .int .i64 i]) (tabOb [])
def laws_eqMarkS_L4 (fu fu1 : Nat) (a : List T_sib) (b : List T_sib) (i : Int) : Option (Bool) := loopAt E ext 54 0 fu [true, true, false, true, false] [] fu1 (tabTm [0, 1, 5] [.ro e_sib a, .ro e_sib b, .int .i64 i]) (tabOb [])
def laws_markRopeNodeS_L2 (fu fu1 : Nat) (k : Int) (i : Int) (a : List T_siiii) : Option (Int × List T_siiii) := loopAt E ext 55 1 fu [true, false, true, false] [] fu1 (tabTm [0, 1, 5] [.own 0, .int .i64 k, .int .i64 i]) (tabOb [(0, some (.row .unk e_siiii a))])
def laws_markMarkS_L2 (fu fu1 : Nat) (k : Int) (i : Int) (a : List T_sib) : Option (Int × List T_sib) := loopAt E ext 56 1 fu [true, false, true, false] [] fu1 (tabTm [0, 1, 5] [.own 0, .int .i64 k, .int .i64 i]) (tabOb [(0, some (.row .unk e_sib a))])
def laws_heldRopeNodeS_L2 (fu fu1 : Nat) (a : List T_siiii) (k : Int) (i : Int) : Option (Int) := loopAt E ext 57 0 fu [true, false, true, false] [] fu1 (tabTm [0, 1, 5] [.ro e_siiii a, .int .i64 k, .int .i64 i]) (tabOb [])
def laws_heldMarkS_L2 (fu fu1 : Nat) (a : List T_sib) (k : Int) (i : Int) : Option (Int) := loopAt E ext 58 0 fu [true, false, true, false] [] fu1 (tabTm [0, 1, 5] [.ro e_sib a, .int .i64 k, .int .i64 i]) (tabOb [])
def spec_l20Ends_L3 (fu fu1 : Nat) (t : ByteArray) (n : Int) (i : Int) : Option (Int) := loopAt E ext 70 0 fu [true, true, false, true, false] [] fu1 (tabTm [0, 3, 4] [.str t, .int .i64 n, .int .i64 i]) (tabOb [])
def spec_l20Cut_L4 (fu fu1 : Nat) (t : ByteArray) (most : Int) (at' : Int) (i : Int) : Option (Int) := loopAt E ext 90 0 fu [true, true, true, false, true, false] [] fu1 (tabTm [0, 3, 4, 5] [.str t, .int .i64 most, .int .i64 at', .int .i64 i]) (tabOb [])
def strings_Count (fu : Nat) (s : ByteArray) (substr : ByteArray) : Option (Int) := evF E ext fu 71 [.str s, .str substr] []
def impl_ropeTree_L7 (fu fu1 : Nat) (s : ByteArray) (n : Int) (lines : Int) (cut : Int) (i : Int) (out : List T_siiii) : Option (List T_siiii × Unit) := loopAt E ext 91 1 fu [true, true, true, true, true, false, true, false] [] fu1 (tabTm [0, 1, 5, 6, 7, 8] [.own 0, .str s, .int .i64 n, .int .i64 lines, .int .i64 cut, .int .i64 i]) (tabOb [(0, some (.row (.is true) e_siiii out))])
def laws_eqRopeNode (fu : Nat) (a : ByteArray) (a_1 : Int) (a_2 : Int) (a_3 : Int) (a_4 : Int) (b : ByteArray) (b_1 : Int) (b_2 : Int) (b_3 : Int) (b_4 : Int) : Option (Bool) := evF E ext fu 92 [.agg [.str a, .int .i64 a_1, .int .i64 a_2, .int .i64 a_3, .int .i64 a_4], .agg [.str b, .int .i64 b_1, .int .i64 b_2, .int .i64 b_3, .int .i64 b_4]] []
def laws_eqMark (fu : Nat) (a : ByteArray) (a_1 : Int) (a_2 : Bool) (b : ByteArray) (b_1 : Int) (b_2 : Bool) : Option (Bool) := evF E ext fu 93 [.agg [.str a, .int .i64 a_1, .bool a_2], .agg [.str b, .int .i64 b_1, .bool b_2]] []
def laws_markText (fu : Nat) (k : Int) : Option (ByteArray) := evF E ext fu 78 [.int .i64 k] []
def spec_l01Next (fu : Nat) (t : ByteArray) (at' : Int) : Option (Int × Int × Bool) := evF E ext fu 118 [.str t, .int .i64 at'] []
def unicode_utf8_RuneCountInString (fu : Nat) (s : ByteArray) : Option (Int) := evF E ext fu 107 [.str s] []
def internal_bytealg_CountString (fu : Nat) (x : ByteArray) (x_1 : Int) : Option (Int) := evF E ext fu 108 [.str x, .int .u8 x_1] []
def strings_Count_L6 (fu fu1 : Nat) (s : ByteArray) (substr : ByteArray) (n : Int) : Option (Int) := loopAt E ext 71 0 fu [true, true, true, true, false] [] fu1 (tabTm [0, 1, 5] [.str s, .str substr, .int .i64 n]) (tabOb [])
def impl_read (fu : Nat) (s : ByteArray) : Option (List T_iiib) := evF E ext fu 119 [.str s] []
def impl_ropeTree'1 (fu : Nat) (s : ByteArray) (out : List T_siiii) : Option (List T_siiii × Unit) := evF E ext fu 91 [.own 0, .str s] [.row .unk e_siiii out]
def laws_markText_L4 (fu fu1 : Nat) (k : Int) (out : ByteArray) : Option (ByteArray) := loopAt E ext 78 0 fu [true, true, true, false, false] [] fu1 (tabTm [0, 3] [.int .i64 k, .str out]) (tabOb [])
def spec_l01Next_J16 (fu : Nat) (t : ByteArray) (at' : Int) (n : Int) (p : Int) : Option (Int × Int × Bool) := joinAt E ext 118 0 fu [true, true, true, true, true] [] (tabTm [0, 1, 8, 9] [.str t, .int .i64 at', .int .i64 n, .int .i64 p]) (tabOb [])
def strings_Index (fu : Nat) (s : ByteArray) (substr : ByteArray) : Option (Int) := evF E ext fu 109 [.str s, .str substr] []
def impl_read_L3 (fu fu1 : Nat) (s : ByteArray) (i : Int) : Option (List T_iiib) := loopAt E ext 119 0 fu [true, true, false, true, false] [] fu1 (tabTm [0, 3, 4] [.str s, .nil, .int .i64 i]) (tabOb [])
def impl_ropeTree_L7'1 (fu fu1 : Nat) (s : ByteArray) (n : Int) (lines : Int) (cut : Int) (i : Int) (out : List T_siiii) : Option (List T_siiii × Unit) := loopAt E ext 91 1 fu [true, true, true, true, true, false, true, false] [] fu1 (tabTm [0, 1, 5, 6, 7, 8] [.own 0, .str s, .int .i64 n, .int .i64 lines, .int .i64 cut, .int .i64 i]) (tabOb [(0, some (.row .unk e_siiii out))])
def spec_l01Next_L19 (fu fu1 : Nat) (t : ByteArray) (at' : Int) (n : Int) (p : Int) (i : Int) : Option (Int × Int × Bool) := loopAt E ext 118 0 fu [true, true, true, true, true, true, false, true, false] [] fu1 (tabTm [0, 1, 8, 9, 10] [.str t, .int .i64 at', .int .i64 n, .int .i64 p, .int .i64 i]) (tabOb [])
def internal_stringslite_Index (fu : Nat) (s : ByteArray) (substr : ByteArray) : Option (Int) := evF E ext fu 128 [.str s, .str substr] []
def unicode_utf8_DecodeRuneInString (fu : Nat) (s : ByteArray) : Option (Int × Int) := evF E ext fu 143 [.str s] []
def impl_read_L3'1 (fu fu1 : Nat) (s : ByteArray) (i : Int) (out : List T_iiib) : Option (List T_iiib) := loopAt E ext 119 0 fu [true, true, false, true, false] [] fu1 (tabTm [0, 3, 4] [.str s, .own 500, .int .i64 i]) (tabOb [(500, some (.row .unk e_iiib out))])
def spec_l01IsPoint (fu : Nat) (p : Int) : Option (Bool) := evF E ext fu 141 [.int .i64 p] []
def spec_l01Write (fu : Nat) (p : Int) : Option (ByteArray) := evF E ext fu 142 [.int .i64 p] []
def internal_stringslite_IndexByte (fu : Nat) (s : ByteArray) (c : Int) : Option (Int) := evF E ext fu 156 [.str s, .int .u8 c] []
def spec_l01Write_J3 (fu : Nat) (p : Int) : Option (ByteArray) := joinAt E ext 142 0 fu [true, true] [] (tabTm [0] [.int .i64 p]) (tabOb [])
def internal_bytealg_IndexByteString (fu : Nat) (x : ByteArray) (x_1 : Int) : Option (Int) := evF E ext fu 172 [.str x, .int .u8 x_1] []
end
end Go.Proofs.YtbapdldcinjcgaaDoor.RO
