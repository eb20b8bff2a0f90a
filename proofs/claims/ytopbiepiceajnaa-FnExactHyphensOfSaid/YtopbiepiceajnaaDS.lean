/- The functions that the law reaches, as the evaluator reads them: table and names. -/
import Derived.Test.YtopbiepiceajnaaProg
import Derived.Test.YtopbiepiceajnaaE30
namespace Go.Proofs.Ytopbiepiceajnaa.S
open Go.Eng
set_option linter.unusedVariables false
noncomputable section
def e_i : CTs := (.one (.int .i64))
abbrev T_i : Type := Int
noncomputable def z_i : T_i := (0 : Int)
def e_s : CTs := (.one .str)
abbrev T_s : Type := ByteArray
noncomputable def z_s : T_s := (⟨#[]⟩ : ByteArray)
def e_y : CTs := (.one (.int .u8))
abbrev T_y : Type := Int
noncomputable def z_y : T_y := (0 : Int)
def sigT : List (Nat × Sig) := [(6, ⟨.bool, []⟩),
  (10, ⟨.bool, []⟩),
  (19, ⟨.int .i64, []⟩),
  (20, ⟨.int .i64, []⟩),
  (21, ⟨.own e_s, []⟩),
  (22, ⟨.int .i64, []⟩),
  (23, ⟨.bool, []⟩),
  (24, ⟨.int .i64, []⟩),
  (25, ⟨.int .i64, []⟩),
  (26, ⟨.agg (.cons (.int .i64) (.cons (.int .i64) (.cons (.int .i64) (.one (.own e_s))))), []⟩),
  (27, ⟨.int .i64, []⟩),
  (28, ⟨.bool, []⟩),
  (39, ⟨.own e_i, []⟩),
  (40, ⟨.own e_i, []⟩),
  (41, ⟨.bool, []⟩),
  (42, ⟨.int .i64, [.row e_s]⟩),
  (43, ⟨.int .i64, [.row e_i]⟩),
  (44, ⟨.int .i64, []⟩),
  (51, ⟨.tup (.cons .str (.cons (.own e_i) (.one .bool))), []⟩),
  (52, ⟨.tup (.cons (.agg (.cons .str (.one (.own e_i)))) (.one .bool)), []⟩),
  (58, ⟨.bool, []⟩),
  (60, ⟨.bool, []⟩),
  (61, ⟨.own e_i, []⟩),
  (62, ⟨.bool, []⟩),
  (63, ⟨.own e_i, []⟩),
  (64, ⟨.str, []⟩),
  (76, ⟨.bool, []⟩),
  (83, ⟨.int .i64, []⟩),
  (87, ⟨.int .i64, []⟩),
  (89, ⟨.int .i64, []⟩),
  (90, ⟨.int .i64, []⟩),
  (91, ⟨.int .i64, []⟩),
  (92, ⟨.int .i64, []⟩),
  (93, ⟨.int .i64, []⟩),
  (94, ⟨.tup (.cons (.int .u32) (.one (.int .u32))), []⟩)]
def lendT : List (Nat × List Bool) := [(42, [true, false]), (43, [true, false])]
def loopT : List (Nat × List (Nat × Hint)) := [(19, [(5, { live := [0, 1, 5] })]),
  (20, [(4, { live := [0, 3] })]),
  (21, [(3, { live := [0, 3, 4] })]),
  (22, [(4, { live := [0, 10, 11, 12] })]),
  (23, [(4, { live := [0, 1, 5] })]),
  (39, [(4, { live := [0, 1, 5] })]),
  (40, [(4, { live := [0, 1, 14, 15] })]),
  (41, [(4, { live := [0, 1, 5] })]),
  (42, [(2, { live := [0, 1, 5] })]),
  (43, [(2, { live := [0, 1, 5] })]),
  (44, [(2, { live := [0, 1, 5] })]),
  (51, [(5, { live := [0, 5, 6, 7, 8] }), (17, { live := [5, 6, 7, 11] })]),
  (52, [(4, { live := [0, 2, 4, 5, 12, 13] })]),
  (61, [(4, { live := [0, 1, 5, 6, 7] }), (8, { live := [0, 1, 5, 6, 7, 8, 9, 11] }), (12, { live := [0, 1, 5, 6, 7, 8, 9, 11, 12] }), (18, { live := [1, 6, 13, 14] })]),
  (63, [(4, { live := [1, 5, 6, 23, 24, 25] }), (8, { live := [1, 5, 6, 9, 11, 23, 24, 25] }), (12, { live := [1, 5, 6, 9, 11, 23, 24, 25, 56, 57, 58] }), (19, { live := [1, 6, 14, 15] })]),
  (64, [(4, { live := [0, 3] })]),
  (87, [(15, { live := [0, 1, 5, 6, 7, 8, 9, 10] })]),
  (92, [(5, { live := [0, 1, 5, 6, 7, 8, 9] }), (11, { live := [0, 1, 5, 6, 7, 8, 10] })]),
  (94, [(3, { live := [0, 4, 5] }), (8, { live := [4, 6, 7, 8] })])]
def joinT : List (Nat × List (Nat × Hint)) := [(10, [(18, { live := [0, 1, 6, 8] })]),
  (51, [(11, { live := [0, 5, 6, 7, 8, 9, 10, 26] })]),
  (52, [(9, { live := [0, 2, 4, 5, 7, 12, 13, 20] })]),
  (87, [(10, { live := [0, 1, 5] }), (21, { live := [0, 1, 5, 6, 7, 8, 9, 10] }), (23, { live := [0, 1, 5, 6, 7, 8, 9, 10] }), (26, { live := [0, 1, 5, 6, 7, 8, 9, 10, 107] })])]
noncomputable def E : Env := { P := Go.Proofs.Try.prog, sig := fun f => lookN ⟨.bool, []⟩ f sigT, lend := fun f => lookN [] f lendT, loopHint := fun f k => lookT f k loopT, joinHint := fun f k => lookT f k joinT, over := fun f => memb f [] }
def bs (l : List Nat) : ByteArray := ⟨⟨l.map UInt8.ofNat⟩⟩
def ext : Cf E := fun f vs os =>
  if h : f = 93 then h ▸ (xIndexByteString vs os : Option (E.sig 93).T) else
  none
def laws_FnExactStyleFault (fu : Nat) (aS : Int) (aS_1 : Int) (aS_2 : Int) (aS_3 : List T_s) : Option (Bool) := evF E ext fu 6 [.agg [.int .i64 aS, .int .i64 aS_1, .int .i64 aS_2, .ro e_s aS_3]] []
def laws_FnExactHyphensOf (fu : Nat) (aPatterns : List T_s) (aWord : ByteArray) : Option (Bool) := evF E ext fu 10 [.ro e_s aPatterns, .str aWord] []
def laws_szStyle (fu : Nat) (a : Int) (a_1 : Int) (a_2 : Int) (a_3 : List T_s) (left : Int) : Option (Int) := evF E ext fu 24 [.agg [.int .i64 a, .int .i64 a_1, .int .i64 a_2, .ro e_s a_3], .int .i64 left] []
def laws_toStyle (fu : Nat) (a : Int) (a_1 : Int) (a_2 : Int) (a_3 : List T_s) : Option (Int × Int × Int × List T_s) := evF E ext fu 26 [.agg [.int .i64 a, .int .i64 a_1, .int .i64 a_2, .ro e_s a_3]] []
def spec_StyleFault (fu : Nat) (s : Int) (s_1 : Int) (s_2 : Int) (s_3 : List T_s) : Option (Int) := evF E ext fu 25 [.agg [.int .i64 s, .int .i64 s_1, .int .i64 s_2, .ro e_s s_3]] []
def impl_StyleFault (fu : Nat) (s : Int) (s_1 : Int) (s_2 : Int) (s_3 : List T_s) : Option (Int) := evF E ext fu 27 [.agg [.int .i64 s, .int .i64 s_1, .int .i64 s_2, .ro e_s s_3]] []
def laws_eqStyle (fu : Nat) (a : Int) (a_1 : Int) (a_2 : Int) (a_3 : List T_s) (b : Int) (b_1 : Int) (b_2 : Int) (b_3 : List T_s) : Option (Bool) := evF E ext fu 28 [.agg [.int .i64 a, .int .i64 a_1, .int .i64 a_2, .ro e_s a_3], .agg [.int .i64 b, .int .i64 b_1, .int .i64 b_2, .ro e_s b_3]] []
def laws_szStringS (fu : Nat) (a : List T_s) (left : Int) : Option (Int) := evF E ext fu 19 [.ro e_s a, .int .i64 left] []
def laws_toStringS (fu : Nat) (a : List T_s) : Option (List T_s) := evF E ext fu 21 [.ro e_s a] []
def spec_HyphensOf (fu : Nat) (patterns : List T_s) (word : ByteArray) : Option (List T_i) := evF E ext fu 39 [.ro e_s patterns, .str word] []
def impl_HyphensOf (fu : Nat) (patterns : List T_s) (word : ByteArray) : Option (List T_i) := evF E ext fu 40 [.ro e_s patterns, .str word] []
def laws_eqInt64S (fu : Nat) (a : List T_i) (b : List T_i) : Option (Bool) := evF E ext fu 41 [.ro e_i a, .ro e_i b] []
def laws_eqStringS (fu : Nat) (a : List T_s) (b : List T_s) : Option (Bool) := evF E ext fu 23 [.ro e_s a, .ro e_s b] []
def laws_markStringS (fu : Nat) (k : Int) (a : List T_s) : Option (Int × List T_s) := evF E ext fu 42 [.own 0, .int .i64 k] [.row .unk e_s a]
def laws_FnExactHyphensOf_J18 (fu : Nat) (aPatterns : List T_s) (aWord : ByteArray) (w0 : List T_i) (g0 : List T_i) : Option (Bool) := joinAt E ext 10 0 fu [true, true, true, true, true, true, true, true, true, true, true, true, true] [] (tabTm [0, 1, 6, 8] [.ro e_s aPatterns, .str aWord, .own 500, .own 501]) (tabOb [(500, some (.row .unk e_i w0)), (501, some (.row .unk e_i g0))])
def spec_PatternsFault (fu : Nat) (patterns : List T_s) : Option (Int) := evF E ext fu 20 [.ro e_s patterns] []
def impl_PatternsFault (fu : Nat) (patterns : List T_s) : Option (Int) := evF E ext fu 22 [.ro e_s patterns] []
def laws_szStringS_L5 (fu fu1 : Nat) (a : List T_s) (left : Int) (i : Int) : Option (Int) := loopAt E ext 19 0 fu [true, true, true, false, true, false] [] fu1 (tabTm [0, 1, 5] [.ro e_s a, .int .i64 left, .int .i64 i]) (tabOb [])
def laws_toStringS_L3 (fu fu1 : Nat) (a : List T_s) (i : Int) (out : List T_s) : Option (List T_s) := loopAt E ext 21 0 fu [true, true, false, true, false] [] fu1 (tabTm [0, 3, 4] [.ro e_s a, .own 500, .int .i64 i]) (tabOb [(500, some (.row (.is false) e_s out))])
def spec_HyphensOf_L4 (fu fu1 : Nat) (patterns : List T_s) (word : ByteArray) (i : Int) : Option (List T_i) := loopAt E ext 39 0 fu [true, true, false, true, false] [] fu1 (tabTm [0, 1, 5] [.ro e_s patterns, .str word, .int .i64 i]) (tabOb [])
def impl_long (fu : Nat) (s : ByteArray) : Option (Bool) := evF E ext fu 58 [.str s] []
def impl_HyphensOf_L4 (fu fu1 : Nat) (patterns : List T_s) (word : ByteArray) (x : Int) (x_1 : Int) : Option (List T_i) := loopAt E ext 40 0 fu [true, true, false, true, false] [] fu1 (tabTm [0, 1, 14, 15] [.ro e_s patterns, .str word, .int .i64 x, .int .i64 x_1]) (tabOb [])
def laws_eqInt64S_L4 (fu fu1 : Nat) (a : List T_i) (b : List T_i) (i : Int) : Option (Bool) := loopAt E ext 41 0 fu [true, true, false, true, false] [] fu1 (tabTm [0, 1, 5] [.ro e_i a, .ro e_i b, .int .i64 i]) (tabOb [])
def laws_eqStringS_L4 (fu fu1 : Nat) (a : List T_s) (b : List T_s) (i : Int) : Option (Bool) := loopAt E ext 23 0 fu [true, true, false, true, false] [] fu1 (tabTm [0, 1, 5] [.ro e_s a, .ro e_s b, .int .i64 i]) (tabOb [])
def laws_markStringS_L2 (fu fu1 : Nat) (k : Int) (i : Int) (a : List T_s) : Option (Int × List T_s) := loopAt E ext 42 1 fu [true, false, true, false] [] fu1 (tabTm [0, 1, 5] [.own 0, .int .i64 k, .int .i64 i]) (tabOb [(0, some (.row .unk e_s a))])
def laws_markInt64S (fu : Nat) (k : Int) (a : List T_i) : Option (Int × List T_i) := evF E ext fu 43 [.own 0, .int .i64 k] [.row .unk e_i a]
def laws_heldInt64S (fu : Nat) (a : List T_i) (k : Int) : Option (Int) := evF E ext fu 44 [.ro e_i a, .int .i64 k] []
def spec_PatternsFault_L4 (fu fu1 : Nat) (patterns : List T_s) (i : Int) : Option (Int) := loopAt E ext 20 0 fu [true, true, false, true, false] [] fu1 (tabTm [0, 3] [.ro e_s patterns, .int .i64 i]) (tabOb [])
def impl_PatternsFault_L4 (fu fu1 : Nat) (patterns : List T_s) (x : List T_s) (x_1 : Int) (x_2 : Int) : Option (Int) := loopAt E ext 22 0 fu [true, true, false, true, false] [] fu1 (tabTm [0, 10, 11, 12] [.ro e_s patterns, .ro e_s x, .int .i64 x_1, .int .i64 x_2]) (tabOb [])
def spec_l22Small (fu : Nat) (c : Int) : Option (Bool) := evF E ext fu 60 [.int .u8 c] []
def spec_l22Hyphens (fu : Nat) (patterns : List T_s) (word : ByteArray) : Option (List T_i) := evF E ext fu 61 [.ro e_s patterns, .str word] []
def impl_letterAZ (fu : Nat) (c : Int) : Option (Bool) := evF E ext fu 62 [.int .u8 c] []
def impl_hyphens (fu : Nat) (patterns : List T_s) (word : ByteArray) : Option (List T_i) := evF E ext fu 63 [.ro e_s patterns, .str word] []
def laws_markText (fu : Nat) (k : Int) : Option (ByteArray) := evF E ext fu 64 [.int .i64 k] []
def laws_markInt64S_L2 (fu fu1 : Nat) (k : Int) (i : Int) (a : List T_i) : Option (Int × List T_i) := loopAt E ext 43 1 fu [true, false, true, false] [] fu1 (tabTm [0, 1, 5] [.own 0, .int .i64 k, .int .i64 i]) (tabOb [(0, some (.row .unk e_i a))])
def laws_heldInt64S_L2 (fu fu1 : Nat) (a : List T_i) (k : Int) (i : Int) : Option (Int) := loopAt E ext 44 0 fu [true, false, true, false] [] fu1 (tabTm [0, 1, 5] [.ro e_i a, .int .i64 k, .int .i64 i]) (tabOb [])
def spec_l22Pattern (fu : Nat) (t : ByteArray) : Option (ByteArray × List T_i × Bool) := evF E ext fu 51 [.str t] []
def impl_readHyphens (fu : Nat) (s : ByteArray) : Option ((ByteArray × List T_i) × Bool) := evF E ext fu 52 [.str s] []
def spec_l22Hyphens_L4 (fu fu1 : Nat) (patterns : List T_s) (word : ByteArray) (t : ByteArray) (i : Int) (best : List T_i) : Option (List T_i) := loopAt E ext 61 0 fu [true, true, true, false, true, false] [] fu1 (tabTm [0, 1, 5, 6, 7] [.ro e_s patterns, .str word, .str t, .own 500, .int .i64 i]) (tabOb [(500, some (.row (.is false) e_i best))])
def impl_hyphens_L4 (fu fu1 : Nat) (word : ByteArray) (s : ByteArray) (x : List T_s) (x_1 : Int) (x_2 : Int) (best : List T_i) : Option (List T_i) := loopAt E ext 63 0 fu [true, true, true, false, true, false] [] fu1 (tabTm [1, 5, 6, 23, 24, 25] [.str word, .str s, .own 500, .ro e_s x, .int .i64 x_1, .int .i64 x_2]) (tabOb [(500, some (.row (.is false) e_i best))])
def laws_markText_L4 (fu fu1 : Nat) (k : Int) (out : ByteArray) : Option (ByteArray) := loopAt E ext 64 0 fu [true, true, true, false, false] [] fu1 (tabTm [0, 3] [.int .i64 k, .str out]) (tabOb [])
def spec_l22Pattern_L5 (fu fu1 : Nat) (t : ByteArray) (has : Bool) (i : Int) (letters : List T_y) (digits : List T_i) : Option (ByteArray × List T_i × Bool) := loopAt E ext 51 0 fu [true, true, true, true, false, true, false] [] fu1 (tabTm [0, 5, 6, 7, 8] [.str t, .own 500, .own 501, .bool has, .int .i64 i]) (tabOb [(500, some (.row (.is false) e_y letters)), (501, some (.row (.is false) e_i digits))])
def impl_readHyphens_L4 (fu fu1 : Nat) (s : ByteArray) (some' : Bool) (x : Int) (x_1 : Int) (x_2 : ByteArray) (p : ByteArray) (x_3 : List T_i) : Option ((ByteArray × List T_i) × Bool) := loopAt E ext 52 0 fu [true, true, true, false, true, false] [] fu1 (tabTm [0, 2, 4, 5, 12, 13] [.str s, .box 500 0, .box 501 0, .bool some', .int .i64 x, .int .i64 x_1]) (tabOb [(500, some (.box [.str x_2, .nil])), (501, some (.box [.str p, .own 502])), (502, some (.row (.is false) e_i x_3))])
def spec_l22Hyphens_L8 (fu fu1 fu2 : Nat) (patterns : List T_s) (word : ByteArray) (t : ByteArray) (i : Int) (letters : ByteArray) (at' : Int) (best : List T_i) (digits : List T_i) : Option (List T_i) := loopAt E ext 61 0 fu [true, true, true, false, true, false, false, true, false, false, true, true, false] [fu1] fu2 (tabTm [0, 1, 5, 6, 7, 8, 9, 11] [.ro e_s patterns, .str word, .str t, .own 500, .int .i64 i, .str letters, .own 501, .int .i64 at']) (tabOb [(500, some (.row (.is false) e_i best)), (501, some (.row .unk e_i digits))])
def spec_l22Hyphens_L18 (fu fu1 : Nat) (word : ByteArray) (k : Int) (best : List T_i) (out : List T_i) : Option (List T_i) := loopAt E ext 61 0 fu [true, true, true, true, true, false, true, false] [] fu1 (tabTm [1, 6, 13, 14] [.str word, .own 500, .own 501, .int .i64 k]) (tabOb [(500, some (.row (.is false) e_i best)), (501, some (.row (.is false) e_i out))])
def impl_hyphens_L8 (fu fu1 fu2 : Nat) (word : ByteArray) (s : ByteArray) (i : Int) (x : List T_s) (x_1 : Int) (x_2 : Int) (best : List T_i) (p : ByteArray) (x_3 : List T_i) : Option (List T_i) := loopAt E ext 63 0 fu [true, true, true, false, true, false, false, true, true, false, false, true, true, true, false] [fu1] fu2 (tabTm [1, 5, 6, 9, 11, 23, 24, 25] [.str word, .str s, .own 500, .box 501 0, .int .i64 i, .ro e_s x, .int .i64 x_1, .int .i64 x_2]) (tabOb [(500, some (.row (.is false) e_i best)), (501, some (.box [.str p, .own 502])), (502, some (.row .unk e_i x_3))])
def impl_hyphens_L19 (fu fu1 : Nat) (word : ByteArray) (i : Int) (best : List T_i) : Option (List T_i) := loopAt E ext 63 0 fu [true, true, true, true, true, false, true, false] [] fu1 (tabTm [1, 6, 14, 15] [.str word, .own 500, .nil, .int .i64 i]) (tabOb [(500, some (.row (.is false) e_i best))])
def spec_l22Pattern_J11 (fu fu1 : Nat) (t : ByteArray) (has : Bool) (i : Int) (c : Int) (last : Int) (x : Bool) (letters : List T_y) (digits : List T_i) : Option (ByteArray × List T_i × Bool) := joinAt E ext 51 0 fu [true, true, true, true, false, true, false, false, true, false, false, true, true, false, true] [fu1] (tabTm [0, 5, 6, 7, 8, 9, 10, 26] [.str t, .own 500, .own 501, .bool has, .int .i64 i, .int .u8 c, .int .i64 last, .bool x]) (tabOb [(500, some (.row (.is false) e_y letters)), (501, some (.row (.is false) e_i digits))])
def spec_l22Pattern_L17 (fu fu1 : Nat) (has : Bool) (i : Int) (letters : List T_y) (digits : List T_i) : Option (ByteArray × List T_i × Bool) := loopAt E ext 51 0 fu [true, true, true, true, true, false, true, false] [] fu1 (tabTm [5, 6, 7, 11] [.own 500, .own 501, .bool has, .int .i64 i]) (tabOb [(500, some (.row (.is false) e_y letters)), (501, some (.row (.is false) e_i digits))])
def impl_readHyphens_J9 (fu fu1 : Nat) (s : ByteArray) (some' : Bool) (c : Int) (x : Int) (x_1 : Int) (x_2 : Bool) (x_3 : ByteArray) (p : ByteArray) (x_4 : List T_i) : Option ((ByteArray × List T_i) × Bool) := joinAt E ext 52 0 fu [true, true, true, false, true, false, false, true, true, false, false, true, true, false, true] [fu1] (tabTm [0, 2, 4, 5, 7, 12, 13, 20] [.str s, .box 500 0, .box 501 0, .bool some', .int .u8 c, .int .i64 x, .int .i64 x_1, .bool x_2]) (tabOb [(500, some (.box [.str x_3, .nil])), (501, some (.box [.str p, .own 502])), (502, some (.row (.is false) e_i x_4))])
def strings_Contains (fu : Nat) (s : ByteArray) (substr : ByteArray) : Option (Bool) := evF E ext fu 76 [.str s, .str substr] []
def spec_l22Hyphens_L12 (fu fu1 fu2 fu3 : Nat) (patterns : List T_s) (word : ByteArray) (t : ByteArray) (i : Int) (letters : ByteArray) (at' : Int) (k : Int) (best : List T_i) (digits : List T_i) : Option (List T_i) := loopAt E ext 61 0 fu [true, true, true, false, true, false, false, true, false, false, true, true, false, false, true, false, false, true, true, false] [fu1, fu2] fu3 (tabTm [0, 1, 5, 6, 7, 8, 9, 11, 12] [.ro e_s patterns, .str word, .str t, .own 500, .int .i64 i, .str letters, .own 501, .int .i64 at', .int .i64 k]) (tabOb [(500, some (.row (.is false) e_i best)), (501, some (.row .unk e_i digits))])
def impl_hyphens_L12 (fu fu1 fu2 fu3 : Nat) (word : ByteArray) (s : ByteArray) (i : Int) (x : List T_s) (x_1 : Int) (x_2 : Int) (x_3 : Int) (x_4 : Int) (best : List T_i) (p : ByteArray) (x_5 : List T_i) : Option (List T_i) := loopAt E ext 63 0 fu [true, true, true, false, true, false, false, true, true, false, false, true, true, true, false, false, true, false, false, true, true, false] [fu1, fu2] fu3 (tabTm [1, 5, 6, 9, 11, 23, 24, 25, 56, 57, 58] [.str word, .str s, .own 500, .box 501 0, .int .i64 i, .ro e_s x, .int .i64 x_1, .int .i64 x_2, .own 502, .int .i64 x_3, .int .i64 x_4]) (tabOb [(500, some (.row (.is false) e_i best)), (501, some (.box [.str p, .own 502])), (502, some (.row .unk e_i x_5))])
def impl_hyphens_L19'1 (fu fu1 : Nat) (word : ByteArray) (i : Int) (best : List T_i) (out : List T_i) : Option (List T_i) := loopAt E ext 63 0 fu [true, true, true, true, true, false, true, false] [] fu1 (tabTm [1, 6, 14, 15] [.str word, .own 500, .own 501, .int .i64 i]) (tabOb [(500, some (.row (.is false) e_i best)), (501, some (.row .unk e_i out))])
def strings_Index (fu : Nat) (s : ByteArray) (substr : ByteArray) : Option (Int) := evF E ext fu 83 [.str s, .str substr] []
def internal_stringslite_Index (fu : Nat) (s : ByteArray) (substr : ByteArray) : Option (Int) := evF E ext fu 87 [.str s, .str substr] []
def internal_stringslite_IndexByte (fu : Nat) (s : ByteArray) (c : Int) : Option (Int) := evF E ext fu 89 [.str s, .int .u8 c] []
def internal_bytealg_IndexByteString (fu : Nat) (x : ByteArray) (x_1 : Int) : Option (Int) := evF E ext fu 93 [.str x, .int .u8 x_1] []
end
end Go.Proofs.Ytopbiepiceajnaa.S
