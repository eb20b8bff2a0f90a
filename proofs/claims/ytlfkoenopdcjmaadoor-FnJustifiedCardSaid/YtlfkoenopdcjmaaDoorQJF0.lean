/- What the functions compute: their equations, checked by the kernel. -/
import Derived.ProofKit
import Derived.Test.YtlfkoenopdcjmaaDoorDJF
namespace Go.Proofs.YtlfkoenopdcjmaaDoor.JF
open Go.Eng
set_option maxRecDepth 100000
set_option maxHeartbeats 4000000
theorem laws_FnJustified.eq (code : List T_y) (fu : Nat) : laws_FnJustified (fu + 1) code =
  (brB (ltI 1048576 (ln code))
   (some true)
   (optB (spec_DrawJustified fu code) fun r0 =>
   optB (impl_Justified fu r0.1 r0.2) fun r1 =>
   optB (spec_Justified fu r0.1 r0.2) fun r2 =>
   brB (notB (bytesEq r1 r2))
    (some false)
    (brB (ltI r0.2 0)
     (some (bytesEq r1 (bs [])))
     (brB (ltI 1000 r0.2)
      (some (bytesEq r1 (bs [])))
      (optB (spec_PointsOf fu r0.1) fun r3 =>
      brB (ltI 1000 (ln r3))
       (some (bytesEq r1 (bs [])))
       (brB (bytesEq r2 r0.1)
        (some true)
        (optB (impl_WideOf fu r1) fun r4 =>
        brB (eqI r4 r0.2)
         (optB (laws_lwNoBlanks fu r1) fun r5 =>
         optB (laws_lwNoBlanks fu r0.1) fun r6 =>
         some (bytesEq r5 r6))
         (some false)))))))) := by kernel_rfl
theorem spec_DrawJustified.eq (code : List T_y) (fu : Nat) : spec_DrawJustified (fu + 1) code =
  (optB (spec_l01Source fu code) fun r0 =>
  optB (spec_l01Src_paraText fu r0.1 r0.2.1 r0.2.2.1 r0.2.2.2) fun r1 =>
  optB (spec_l22Wide fu r1.1) fun r2 =>
  optB (spec_l01Src_n fu 9 r1.2.1 r1.2.2.1 r1.2.2.2.1 r1.2.2.2.2) fun r3 =>
  optB (spec_l01Src_n fu 3 r3.2.1 r3.2.2.1 r3.2.2.2.1 r3.2.2.2.2) fun r4 =>
  optB (spec_l01Src_n fu 30 r4.2.1 r4.2.2.1 r4.2.2.2.1 r4.2.2.2.2) fun r5 =>
  optB (spec_l01Src_n fu 6 r5.2.1 r5.2.2.1 r5.2.2.2.1 r5.2.2.2.2) fun r6 =>
  chk (leI 0 r6.1) <|
  chk (ltI r6.1 (ln ((addI .i64 r2 r3.1) :: ((subI .i64 r2 r4.1) :: (r5.1 :: (1000 :: (1001 :: ((-1) :: ([] : List Int))))))))) <|
  some (r1.1, (rd ((addI .i64 r2 r3.1) :: ((subI .i64 r2 r4.1) :: (r5.1 :: (1000 :: (1001 :: ((-1) :: ([] : List Int))))))) r6.1 0))) := by kernel_rfl
theorem impl_Justified.eq (line : ByteArray) (width : Int) (fu : Nat) : impl_Justified (fu + 1) line width =
  (optB (impl_tooMany fu line) fun r0 =>
  brB r0
   (some (bs []))
   (brB (ltI width 0)
    (some (bs []))
    (brB (ltI 1000 width)
     (some (bs []))
     (optB (impl_wideOf fu line) fun r1 =>
     brB (ltI width r1)
      (some line)
      (optB (strings_TrimRight fu line (bs [32])) fun r2 =>
      impl_Justified_L9 fu fu line width r1 (sz r2) 1))))) := by kernel_rfl
theorem spec_Justified.eq (line : ByteArray) (width : Int) (fu : Nat) : spec_Justified (fu + 1) line width =
  (optB (spec_l09Few fu line) fun r0 =>
  brB (notB r0.2)
   (some (bs []))
   (brB (ltI width 0)
    (some (bs []))
    (brB (ltI 1000 width)
     (some (bs []))
     (spec_Justified_J4 fu line width)))) := by kernel_rfl
theorem spec_PointsOf.eq (text : ByteArray) (fu : Nat) : spec_PointsOf (fu + 1) text =
  (brB (ltI 65536 (sz text))
   (some ([] : List Int))
   (optB (spec_l01Points fu text) fun r0 =>
   some r0)) := by kernel_rfl
theorem impl_WideOf.eq (text : ByteArray) (fu : Nat) : impl_WideOf (fu + 1) text =
  (optB (impl_long fu text) fun r0 =>
  brB r0
   (some 0)
   (optB (impl_wideOf fu text) fun r1 =>
   some r1)) := by kernel_rfl
theorem laws_lwNoBlanks.eq (t : ByteArray) (fu : Nat) : laws_lwNoBlanks (fu + 1) t =
  (laws_lwNoBlanks_L3 fu fu t 0 ([] : List Int)) := by kernel_rfl
theorem spec_l01Source.eq (code : List T_y) (fu : Nat) : spec_l01Source (fu + 1) code =
  (spec_l01Source_L3 fu fu code 0 code 0 88172645463325252 0) := by kernel_rfl
theorem spec_l01Src_paraText.eq (s : List T_y) (s_1 : Int) (s_2 : Int) (s_3 : Int) (fu : Nat) : spec_l01Src_paraText (fu + 1) s s_1 s_2 s_3 =
  (optB (spec_l01Src_n fu (addI .i64 9 s_3) s s_1 s_2 s_3) fun r0 =>
  spec_l01Src_paraText_L3 fu fu (bs []) r0.1 r0.2.1 r0.2.2.1 r0.2.2.2.1 r0.2.2.2.2) := by kernel_rfl
theorem spec_l22Wide.eq (t : ByteArray) (fu : Nat) : spec_l22Wide (fu + 1) t =
  (optB (spec_l07Chars fu t) fun r0 =>
  optB (spec_l07Pieces fu t r0) fun r1 =>
  spec_l22Wide_L4 fu fu 0 0 r1) := by kernel_rfl
theorem spec_l01Src_n.eq (most : Int) (s : List T_y) (s_1 : Int) (s_2 : Int) (s_3 : Int) (fu : Nat) : spec_l01Src_n (fu + 1) most s s_1 s_2 s_3 =
  (brB (leI most 1)
   (some (0, (s, (s_1, (s_2, s_3)))))
   (brB (ltI s_1 (ln s))
    (chk (leI 0 s_1) <|
    chk (ltI s_1 (ln s)) <|
    spec_l01Src_n_J7 fu most (wrI .u64 (rd s s_1 0)) s (addI .i64 s_1 1) s_2 s_3)
    (spec_l01Src_n_J7 fu most 0 s s_1 s_2 s_3))) := by kernel_rfl
theorem impl_tooMany.eq (s : ByteArray) (fu : Nat) : impl_tooMany (fu + 1) s =
  (optB (impl_long fu s) fun r0 =>
  brB r0
   (some true)
   (optB (impl_points fu s) fun r1 =>
   some (ltI 1000 (ln r1)))) := by kernel_rfl
theorem impl_wideOf.eq (text : ByteArray) (fu : Nat) : impl_wideOf (fu + 1) text =
  (optB (impl_chars fu text) fun r0 =>
  impl_wideOf_L3 fu fu 0 (ln r0) 0 r0) := by kernel_rfl
theorem strings_TrimRight.eq (s : ByteArray) (cutset : ByteArray) (fu : Nat) : strings_TrimRight (fu + 1) s cutset =
  (brB (bytesEq s (bs []))
   (some s)
   (brB (bytesEq cutset (bs []))
    (some s)
    (brB (eqI (sz cutset) 1)
     (chk (leI 0 0) <|
     chk (ltI 0 (sz cutset)) <|
     brB (ltI (bt cutset 0) 128)
      (chk (leI 0 0) <|
      chk (ltI 0 (sz cutset)) <|
      optB (strings_trimRightByte fu s (bt cutset 0)) fun r0 =>
      some r0)
      (optB (strings_makeASCIISet fu cutset) fun r0 =>
      brB r0.2
       (none)
       (optB (strings_trimRightUnicode fu s cutset) fun r1 =>
       some r1)))
     (optB (strings_makeASCIISet fu cutset) fun r0 =>
     brB r0.2
      (none)
      (optB (strings_trimRightUnicode fu s cutset) fun r1 =>
      some r1))))) := by kernel_rfl
theorem impl_Justified_L9.eq (line : ByteArray) (width : Int) (wide : Int) (end' : Int) (i : Int) (fu fu1 : Nat) : impl_Justified_L9 fu (fu1 + 1) line width wide end' i =
  (brB (ltI i end')
   (chk (leI 0 (subI .i64 i 1)) <|
   chk (ltI (subI .i64 i 1) (sz line)) <|
   brB (eqI (bt line (subI .i64 i 1)) 32)
    (chk (leI 0 i) <|
    chk (ltI i (sz line)) <|
    brB (notB (eqI (bt line i) 32))
     (chk (leI 0 i) <|
     chk (leI i (sz line)) <|
     optB (strings_Trim fu (subs line 0 i) (bs [32])) fun r0 =>
     brB (notB (bytesEq r0 (bs [])))
      (chk (ltI (mulZ (addZ (ln ([] : List Int)) (ln (i :: ([] : List Int)))) 8) 140737488355328) <|
      impl_Justified_L9'1 fu fu1 line width wide end' (addI .i64 i 1) (catL ([] : List Int) (i :: ([] : List Int))))
      (impl_Justified_L9 fu fu1 line width wide end' (addI .i64 i 1)))
     (impl_Justified_L9 fu fu1 line width wide end' (addI .i64 i 1)))
    (impl_Justified_L9 fu fu1 line width wide end' (addI .i64 i 1)))
   (brB (eqI 0 0)
    (some line)
    (impl_Justified_L19 fu fu line (subI .i64 width wide) 0 0 0 (bs [])))) := by kernel_rfl
theorem spec_l09Few.eq (t : ByteArray) (fu : Nat) : spec_l09Few (fu + 1) t =
  (brB (ltI 65536 (sz t))
   (some (([] : List Int), false))
   (optB (spec_l01Points fu t) fun r0 =>
   some (r0, (leI (ln r0) 1000)))) := by kernel_rfl
theorem spec_Justified_J4.eq (line : ByteArray) (width : Int) (fu : Nat) : spec_Justified_J4 fu line width =
  (optB (spec_l22Gaps fu line) fun r0 =>
  optB (spec_l22Wide fu line) fun r1 =>
  brB (eqI (ln r0) 0)
   (some line)
   (brB (leI (subI .i64 width r1) 0)
    (some line)
    (spec_Justified_L12 fu fu line (subI .i64 width r1) (ln r0) (bs []) 0 0 r0))) := by unfold spec_Justified_J4; rw [joinAt_eq]; kernel_rfl
theorem spec_l01Points.eq (t : ByteArray) (fu : Nat) : spec_l01Points (fu + 1) t =
  (spec_l01Points_L3 fu fu t 0 ([] : List Int)) := by kernel_rfl
theorem impl_long.eq (s : ByteArray) (fu : Nat) : impl_long (fu + 1) s =
  (some (ltI 65536 (sz s))) := by kernel_rfl
theorem laws_lwNoBlanks_L3.eq (t : ByteArray) (i : Int) (out : List T_y) (fu fu1 : Nat) : laws_lwNoBlanks_L3 fu (fu1 + 1) t i out =
  (brB (ltI i (sz t))
   (chk (leI 0 i) <|
   chk (ltI i (sz t)) <|
   brB (notB (eqI (bt t i) 32))
    (chk (leI 0 i) <|
    chk (ltI i (sz t)) <|
    chk (ltI (mulZ (addZ (ln out) (ln ((bt t i) :: ([] : List Int)))) 1) 140737488355328) <|
    laws_lwNoBlanks_L3 fu fu1 t (addI .i64 i 1) (catL out ((bt t i) :: ([] : List Int))))
    (laws_lwNoBlanks_L3 fu fu1 t (addI .i64 i 1) out))
   (some (bytesOf out))) := by kernel_rfl
theorem spec_l01Source_L3.eq (code : List T_y) (i : Int) (s : List T_y) (s_1 : Int) (s_2 : Int) (s_3 : Int) (fu fu1 : Nat) : spec_l01Source_L3 fu (fu1 + 1) code i s s_1 s_2 s_3 =
  (brB (ltI i (ln code))
   (brB (ltI i 64)
    (chk (leI 0 i) <|
    chk (ltI i (ln code)) <|
    spec_l01Source_L3 fu fu1 code (addI .i64 i 1) s s_1 (mulI .u64 (xorI .u64 s_2 (wrI .u64 (rd code i 0))) 1099511628211) s_3)
    (chk (notB (eqI 20 0)) <|
    brB (ltI 12 (quoI .i64 (ln code) 20))
     (some (s, (s_1, (s_2, 12))))
     (some (s, (s_1, (s_2, (quoI .i64 (ln code) 20)))))))
   (chk (notB (eqI 20 0)) <|
   brB (ltI 12 (quoI .i64 (ln code) 20))
    (some (s, (s_1, (s_2, 12))))
    (some (s, (s_1, (s_2, (quoI .i64 (ln code) 20))))))) := by kernel_rfl
theorem spec_l01Src_paraText_L3.eq (out : ByteArray) (k : Int) (s : List T_y) (s_1 : Int) (s_2 : Int) (s_3 : Int) (fu fu1 : Nat) : spec_l01Src_paraText_L3 fu (fu1 + 1) out k s s_1 s_2 s_3 =
  (brB (ltI 0 k)
   (optB (spec_l01Src_n fu 8 s s_1 s_2 s_3) fun r0 =>
   brB (eqI r0.1 0)
    (spec_l01Src_paraText_J10 fu fu1 out k r0.1 (eqI r0.1 0) r0.2.1 r0.2.2.1 r0.2.2.2.1 r0.2.2.2.2)
    (brB (eqI r0.1 1)
     (spec_l01Src_paraText_J10 fu fu1 out k r0.1 (eqI r0.1 1) r0.2.1 r0.2.2.1 r0.2.2.2.1 r0.2.2.2.2)
     (spec_l01Src_paraText_J10 fu fu1 out k r0.1 (eqI r0.1 2) r0.2.1 r0.2.2.1 r0.2.2.2.1 r0.2.2.2.2)))
   (some (out, (s, (s_1, (s_2, s_3)))))) := by kernel_rfl
theorem spec_l07Chars.eq (t : ByteArray) (fu : Nat) : spec_l07Chars (fu + 1) t =
  (optB (spec_l07RowOf fu t) fun r0 =>
  spec_l07Chars_L4 fu fu t 0 r0.1 r0.2 ([] : List Int)) := by kernel_rfl
theorem spec_l07Pieces.eq (t : ByteArray) (cuts : List T_i) (fu : Nat) : spec_l07Pieces (fu + 1) t cuts =
  (spec_l07Pieces_L3 fu fu t cuts 0 ([] : List ByteArray)) := by kernel_rfl
theorem spec_l22Wide_L4.eq (n : Int) (i : Int) (l : List T_s) (fu fu1 : Nat) : spec_l22Wide_L4 fu (fu1 + 1) n i l =
  (brB (ltI i (ln l))
   (chk (leI 0 i) <|
   chk (ltI i (ln l)) <|
   optB (spec_l22Char fu (rd l i (bs []))) fun r0 =>
   spec_l22Wide_L4 fu fu1 (addI .i64 n r0) (addI .i64 i 1) l)
   (some n)) := by kernel_rfl
theorem spec_l01Src_n_J7.eq (most : Int) (v : Int) (s : List T_y) (s_1 : Int) (s_2 : Int) (s_3 : Int) (fu : Nat) : spec_l01Src_n_J7 fu most v s s_1 s_2 s_3 =
  (chk (leI 0 13) <|
  chk (leI 0 7) <|
  chk (leI 0 17) <|
  chk (leI 0 20) <|
  chk (notB (eqI (wrI .u64 most) 0)) <|
  some ((wrI .i64 (remI (addI .u64 v (shrI .u64 (xorI .u64 (xorI .u64 (xorI .u64 s_2 (shlI .u64 s_2 13)) (shrI .u64 (xorI .u64 s_2 (shlI .u64 s_2 13)) 7)) (shlI .u64 (xorI .u64 (xorI .u64 s_2 (shlI .u64 s_2 13)) (shrI .u64 (xorI .u64 s_2 (shlI .u64 s_2 13)) 7)) 17)) 20)) (wrI .u64 most))), (s, (s_1, ((xorI .u64 (xorI .u64 (xorI .u64 s_2 (shlI .u64 s_2 13)) (shrI .u64 (xorI .u64 s_2 (shlI .u64 s_2 13)) 7)) (shlI .u64 (xorI .u64 (xorI .u64 s_2 (shlI .u64 s_2 13)) (shrI .u64 (xorI .u64 s_2 (shlI .u64 s_2 13)) 7)) 17)), s_3))))) := by unfold spec_l01Src_n_J7; rw [joinAt_eq]; kernel_rfl
theorem impl_points.eq (s : ByteArray) (fu : Nat) : impl_points (fu + 1) s =
  (optB (impl_read fu s) fun r0 =>
  impl_points_L3 fu fu (ln r0) 0 r0) := by kernel_rfl
theorem impl_chars.eq (text : ByteArray) (fu : Nat) : impl_chars (fu + 1) text =
  (optB (impl_charPlaces fu text) fun r0 =>
  optB (impl_piecesOf fu text r0) fun r1 =>
  some r1) := by kernel_rfl
theorem impl_wideOf_L3.eq (n : Int) (x : Int) (x_1 : Int) (x_2 : List T_s) (fu fu1 : Nat) : impl_wideOf_L3 fu (fu1 + 1) n x x_1 x_2 =
  (brB (ltI x_1 x)
   (chk (leI 0 x_1) <|
   chk (ltI x_1 (ln x_2)) <|
   optB (impl_points fu (rd x_2 x_1 (bs []))) fun r0 =>
   chk (leI 0 0) <|
   chk (ltI 0 (ln r0)) <|
   optB (impl_Category fu (rd r0 0 0)) fun r1 =>
   optB (impl_isSyllable fu (rd r0 0 0)) fun r2 =>
   brB r2
    (impl_wideOf_J11 fu fu1 (addI .i64 n 2) x x_1 x_2)
    (optB (impl_in fu (rd r0 0 0) 24576 26623) fun r3 =>
    brB r3
     (impl_wideOf_J11 fu fu1 (addI .i64 n 2) x x_1 x_2)
     (optB (impl_isPicture fu (rd r0 0 0)) fun r4 =>
     brB r4
      (impl_wideOf_J11 fu fu1 (addI .i64 n 2) x x_1 x_2)
      (brB (eqI r1 1)
       (impl_wideOf_J11 fu fu1 n x x_1 x_2)
       (brB (eqI r1 11)
        (impl_wideOf_J11 fu fu1 n x x_1 x_2)
        (brB (eqI r1 3)
         (impl_wideOf_J11 fu fu1 n x x_1 x_2)
         (impl_wideOf_J11 fu fu1 (addI .i64 n 1) x x_1 x_2)))))))
   (some n)) := by kernel_rfl
theorem strings_trimRightByte.eq (s : ByteArray) (c : Int) (fu : Nat) : strings_trimRightByte (fu + 1) s c =
  (strings_trimRightByte_L1 fu fu s c) := by kernel_rfl
theorem strings_makeASCIISet.eq (chars : ByteArray) (fu : Nat) : strings_makeASCIISet (fu + 1) chars =
  (strings_makeASCIISet_L2 fu fu chars 0 false false false false false false false false false false false false false false false false false false false false false false false false false false false false false false false false false false false false false false false false false false false false false false false false false false false false false false false false false false false false false false false false false false false false false false false false false false false false false false false false false false false false false false false false false false false false false false false false false false false false false false false false false false false false false false false false false false false false false false false false false false false false false false false false false false false false false false false false false false false false false false false false false false false false false false false false false false false false false false false false false false false false false false false false false false false false false false false false false false false false false false false false false false false false false false false false false false false false false false false false false false false false false false false false false false false false false false false false false false false false false false false false false false false false false false false false false false false false false false false false false false false false false false false false false false false false false false false false) := by kernel_rfl
theorem strings_trimRightUnicode.eq (s : ByteArray) (cutset : ByteArray) (fu : Nat) : strings_trimRightUnicode (fu + 1) s cutset =
  (strings_trimRightUnicode_L1 fu fu s cutset) := by kernel_rfl
theorem strings_Trim.eq (s : ByteArray) (cutset : ByteArray) (fu : Nat) : strings_Trim (fu + 1) s cutset =
  (brB (bytesEq s (bs []))
   (some s)
   (brB (bytesEq cutset (bs []))
    (some s)
    (brB (eqI (sz cutset) 1)
     (chk (leI 0 0) <|
     chk (ltI 0 (sz cutset)) <|
     brB (ltI (bt cutset 0) 128)
      (chk (leI 0 0) <|
      chk (ltI 0 (sz cutset)) <|
      optB (strings_trimRightByte fu s (bt cutset 0)) fun r0 =>
      chk (leI 0 0) <|
      chk (ltI 0 (sz cutset)) <|
      optB (strings_trimLeftByte fu r0 (bt cutset 0)) fun r1 =>
      some r1)
      (optB (strings_makeASCIISet fu cutset) fun r0 =>
      brB r0.2
       (none)
       (optB (strings_trimRightUnicode fu s cutset) fun r1 =>
       optB (strings_trimLeftUnicode fu r1 cutset) fun r2 =>
       some r2)))
     (optB (strings_makeASCIISet fu cutset) fun r0 =>
     brB r0.2
      (none)
      (optB (strings_trimRightUnicode fu s cutset) fun r1 =>
      optB (strings_trimLeftUnicode fu r1 cutset) fun r2 =>
      some r2))))) := by kernel_rfl
theorem impl_Justified_L9'1.eq (line : ByteArray) (width : Int) (wide : Int) (end' : Int) (i : Int) (rows : List T_i) (fu fu1 : Nat) : impl_Justified_L9'1 fu (fu1 + 1) line width wide end' i rows =
  (brB (ltI i end')
   (chk (leI 0 (subI .i64 i 1)) <|
   chk (ltI (subI .i64 i 1) (sz line)) <|
   brB (eqI (bt line (subI .i64 i 1)) 32)
    (chk (leI 0 i) <|
    chk (ltI i (sz line)) <|
    brB (notB (eqI (bt line i) 32))
     (chk (leI 0 i) <|
     chk (leI i (sz line)) <|
     optB (strings_Trim fu (subs line 0 i) (bs [32])) fun r0 =>
     brB (notB (bytesEq r0 (bs [])))
      (chk (ltI (mulZ (addZ (ln rows) (ln (i :: ([] : List Int)))) 8) 140737488355328) <|
      impl_Justified_L9'1 fu fu1 line width wide end' (addI .i64 i 1) (catL rows (i :: ([] : List Int))))
      (impl_Justified_L9'1 fu fu1 line width wide end' (addI .i64 i 1) rows))
     (impl_Justified_L9'1 fu fu1 line width wide end' (addI .i64 i 1) rows))
    (impl_Justified_L9'1 fu fu1 line width wide end' (addI .i64 i 1) rows))
   (brB (eqI (ln rows) 0)
    (some line)
    (impl_Justified_L19'1 fu fu line (subI .i64 width wide) 0 (ln rows) 0 rows (bs [])))) := by kernel_rfl
theorem impl_Justified_L19.eq (line : ByteArray) (extra : Int) (at' : Int) (x : Int) (x_1 : Int) (b : ByteArray) (fu fu1 : Nat) : impl_Justified_L19 fu (fu1 + 1) line extra at' x x_1 b =
  (brB (ltI x_1 x)
   (none)
   (chk (leI 0 at') <|
   chk (leI at' (sz line)) <|
   chk (leI (addZ (sz b) (sz (subs line at' (sz line)))) 140737488355328) <|
   optB (impl_short fu (catS b (subs line at' (sz line)))) fun r0 =>
   some r0)) := by kernel_rfl
theorem spec_l22Gaps.eq (line : ByteArray) (fu : Nat) : spec_l22Gaps (fu + 1) line =
  (spec_l22Gaps_L3 fu fu line 1 ([] : List Int)) := by kernel_rfl
theorem spec_Justified_L12.eq (line : ByteArray) (more : Int) (n : Int) (out : ByteArray) (at' : Int) (i : Int) (gaps : List T_i) (fu fu1 : Nat) : spec_Justified_L12 fu (fu1 + 1) line more n out at' i gaps =
  (brB (ltI i n)
   (chk (leI 0 i) <|
   chk (ltI i (ln gaps)) <|
   chk (leI 0 at') <|
   chk (leI at' (rd gaps i 0)) <|
   chk (leI (rd gaps i 0) (sz line)) <|
   chk (leI (addZ (sz out) (sz (subs line at' (rd gaps i 0)))) 9223372036854775807) <|
   chk (notB (eqI n 0)) <|
   chk (notB (eqI n 0)) <|
   brB (ltI i (remI more n))
    (spec_Justified_J18 fu fu1 line more n (catS out (subs line at' (rd gaps i 0))) i (addI .i64 (quoI .i64 more n) 1) gaps)
    (spec_Justified_J18 fu fu1 line more n (catS out (subs line at' (rd gaps i 0))) i (quoI .i64 more n) gaps))
   (chk (leI 0 at') <|
   chk (leI at' (sz line)) <|
   chk (leI (addZ (sz out) (sz (subs line at' (sz line)))) 9223372036854775807) <|
   some (catS out (subs line at' (sz line))))) := by kernel_rfl
theorem spec_l01Points_L3.eq (t : ByteArray) (i : Int) (out : List T_i) (fu fu1 : Nat) : spec_l01Points_L3 fu (fu1 + 1) t i out =
  (brB (ltI i (sz t))
   (optB (spec_l01Next fu t i) fun r0 =>
   chk (ltI (mulZ (addZ (ln out) (ln (r0.1 :: ([] : List Int)))) 8) 140737488355328) <|
   spec_l01Points_L3 fu fu1 t (addI .i64 i r0.2.1) (catL out (r0.1 :: ([] : List Int))))
   (some out)) := by kernel_rfl
theorem spec_l01Src_paraText_J10.eq (out : ByteArray) (k : Int) (x : Int) (x_1 : Bool) (s : List T_y) (s_1 : Int) (s_2 : Int) (s_3 : Int) (fu fu1 : Nat) : spec_l01Src_paraText_J10 fu fu1 out k x x_1 s s_1 s_2 s_3 =
  (brB x_1
   (optB (spec_l01Src_n fu 4 s s_1 s_2 s_3) fun r0 =>
   optB (spec_l01Src_hyphenWord fu (addI .i64 1 r0.1) r0.2.1 r0.2.2.1 r0.2.2.2.1 r0.2.2.2.2) fun r1 =>
   chk (leI (addZ (sz out) (sz r1.1)) 9223372036854775807) <|
   optB (spec_l01Src_pick fu ((bs [32]) :: ((bs [32]) :: ((bs [32, 32]) :: ((bs [44, 32]) :: ([] : List ByteArray))))) r1.2.1 r1.2.2.1 r1.2.2.2.1 r1.2.2.2.2) fun r2 =>
   chk (leI (addZ (sz (catS out r1.1)) (sz r2.1)) 9223372036854775807) <|
   spec_l01Src_paraText_J4 fu fu1 (catS (catS out r1.1) r2.1) k r2.2.1 r2.2.2.1 r2.2.2.2.1 r2.2.2.2.2)
   (brB (eqI x 3)
    (optB (spec_l01Src_pick fu ((bs [97, 98, 194, 173, 99, 100]) :: ((bs [194, 173]) :: ((bs [120, 45, 121]) :: ((bs [10]) :: ((bs [32, 10]) :: ((bs [13, 10]) :: ((bs [13]) :: ([] : List ByteArray)))))))) s s_1 s_2 s_3) fun r0 =>
    chk (leI (addZ (sz out) (sz r0.1)) 9223372036854775807) <|
    spec_l01Src_paraText_J4 fu fu1 (catS out r0.1) k r0.2.1 r0.2.2.1 r0.2.2.2.1 r0.2.2.2.2)
    (brB (eqI x 4)
     (optB (spec_l01Write fu 24576) fun r0 =>
     optB (spec_l01Write fu 12289) fun r1 =>
     optB (spec_l01Write fu 1792) fun r2 =>
     optB (spec_l01Write fu 1824) fun r3 =>
     chk (leI (addZ (sz r2) (sz r3)) 9223372036854775807) <|
     optB (spec_l01Write fu 7680) fun r4 =>
     optB (spec_l01Src_pick fu (r0 :: (r1 :: ((catS r2 r3) :: (r4 :: ([] : List ByteArray))))) s s_1 s_2 s_3) fun r5 =>
     chk (leI (addZ (sz out) (sz r5.1)) 9223372036854775807) <|
     spec_l01Src_paraText_J4 fu fu1 (catS out r5.1) k r5.2.1 r5.2.2.1 r5.2.2.2.1 r5.2.2.2.2)
     (brB (eqI x 5)
      (optB (spec_l01Write fu 4096) fun r0 =>
      chk (leI (addZ (sz (bs [97])) (sz r0)) 9223372036854775807) <|
      optB (spec_l01Write fu 160) fun r1 =>
      optB (spec_l01Write fu 8064) fun r2 =>
      optB (spec_l01Src_pick fu ((bs [40]) :: ((bs [41]) :: ((catS (bs [97]) r0) :: ((bs [46, 32]) :: (r1 :: (r2 :: ([] : List ByteArray))))))) s s_1 s_2 s_3) fun r3 =>
      chk (leI (addZ (sz out) (sz r3.1)) 9223372036854775807) <|
      spec_l01Src_paraText_J4 fu fu1 (catS out r3.1) k r3.2.1 r3.2.2.1 r3.2.2.2.1 r3.2.2.2.2)
      (optB (spec_l01Src_n fu 3 s s_1 s_2 s_3) fun r0 =>
      optB (spec_l01Src_hyphenWord fu (addI .i64 1 r0.1) r0.2.1 r0.2.2.1 r0.2.2.2.1 r0.2.2.2.2) fun r1 =>
      chk (leI (addZ (sz out) (sz r1.1)) 9223372036854775807) <|
      spec_l01Src_paraText_J4 fu fu1 (catS out r1.1) k r1.2.1 r1.2.2.1 r1.2.2.2.1 r1.2.2.2.2))))) := by unfold spec_l01Src_paraText_J10; rw [joinAt_eq]; kernel_rfl
theorem spec_l07RowOf.eq (t : ByteArray) (fu : Nat) : spec_l07RowOf (fu + 1) t =
  (spec_l07RowOf_L3 fu fu t 0) := by kernel_rfl
theorem spec_l07Chars_L4.eq (t : ByteArray) (i : Int) (x : List T_i) (x_1 : List T_i) (out : List T_i) (fu fu1 : Nat) : spec_l07Chars_L4 fu (fu1 + 1) t i x x_1 out =
  (brB (ltI i (ln x))
   (brB (eqI i 0)
    (chk (leI 0 i) <|
    chk (ltI i (ln x_1)) <|
    chk (ltI (mulZ (addZ (ln out) (ln ((rd x_1 i 0) :: ([] : List Int)))) 8) 140737488355328) <|
    spec_l07Chars_L4 fu fu1 t (addI .i64 i 1) x x_1 (catL out ((rd x_1 i 0) :: ([] : List Int))))
    (optB (spec_l07Char fu x i) fun r0 =>
    brB r0
     (chk (leI 0 i) <|
     chk (ltI i (ln x_1)) <|
     chk (ltI (mulZ (addZ (ln out) (ln ((rd x_1 i 0) :: ([] : List Int)))) 8) 140737488355328) <|
     spec_l07Chars_L4 fu fu1 t (addI .i64 i 1) x x_1 (catL out ((rd x_1 i 0) :: ([] : List Int))))
     (spec_l07Chars_L4 fu fu1 t (addI .i64 i 1) x x_1 out)))
   (brB (ltI 0 (sz t))
    (chk (ltI (mulZ (addZ (ln out) (ln ((sz t) :: ([] : List Int)))) 8) 140737488355328) <|
    some (catL out ((sz t) :: ([] : List Int))))
    (some out))) := by kernel_rfl
theorem spec_l07Pieces_L3.eq (t : ByteArray) (cuts : List T_i) (i : Int) (out : List T_s) (fu fu1 : Nat) : spec_l07Pieces_L3 fu (fu1 + 1) t cuts i out =
  (brB (ltI (addI .i64 i 1) (ln cuts))
   (chk (leI 0 i) <|
   chk (ltI i (ln cuts)) <|
   chk (leI 0 (addI .i64 i 1)) <|
   chk (ltI (addI .i64 i 1) (ln cuts)) <|
   chk (leI 0 (rd cuts i 0)) <|
   chk (leI (rd cuts i 0) (rd cuts (addI .i64 i 1) 0)) <|
   chk (leI (rd cuts (addI .i64 i 1) 0) (sz t)) <|
   chk (ltI (mulZ (addZ (ln out) (ln ((subs t (rd cuts i 0) (rd cuts (addI .i64 i 1) 0)) :: ([] : List ByteArray)))) 16) 140737488355328) <|
   spec_l07Pieces_L3 fu fu1 t cuts (addI .i64 i 1) (catL out ((subs t (rd cuts i 0) (rd cuts (addI .i64 i 1) 0)) :: ([] : List ByteArray))))
   (some out)) := by kernel_rfl
theorem spec_l22Char.eq (t : ByteArray) (fu : Nat) : spec_l22Char (fu + 1) t =
  (optB (spec_l01Next fu t 0) fun r0 =>
  optB (spec_l01Cat fu r0.1) fun r1 =>
  brB (leI 12288 r0.1)
   (brB (leI r0.1 23459)
    (spec_l22Char_J4 fu r1 true)
    (brB (leI 24576 r0.1)
     (brB (leI r0.1 26623)
      (spec_l22Char_J4 fu r1 true)
      (optB (spec_l07Picture fu r0.1) fun r2 =>
      spec_l22Char_J4 fu r1 r2))
     (optB (spec_l07Picture fu r0.1) fun r2 =>
     spec_l22Char_J4 fu r1 r2)))
   (brB (leI 24576 r0.1)
    (brB (leI r0.1 26623)
     (spec_l22Char_J4 fu r1 true)
     (optB (spec_l07Picture fu r0.1) fun r2 =>
     spec_l22Char_J4 fu r1 r2))
    (optB (spec_l07Picture fu r0.1) fun r2 =>
    spec_l22Char_J4 fu r1 r2))) := by kernel_rfl
theorem impl_read.eq (s : ByteArray) (fu : Nat) : impl_read (fu + 1) s =
  (impl_read_L3 fu fu s 0) := by kernel_rfl
theorem impl_points_L3.eq (x : Int) (x_1 : Int) (x_2 : List T_iiib) (fu fu1 : Nat) : impl_points_L3 fu (fu1 + 1) x x_1 x_2 =
  (brB (ltI x_1 x)
   (chk (leI 0 x_1) <|
   chk (ltI x_1 (ln x_2)) <|
   chk (ltI (mulZ (addZ (ln ([] : List Int)) (ln ((rd x_2 x_1 (0, (0, (0, false)))).1 :: ([] : List Int)))) 8) 140737488355328) <|
   impl_points_L3'1 fu fu1 x (addI .i64 x_1 1) (catL ([] : List Int) ((rd x_2 x_1 (0, (0, (0, false)))).1 :: ([] : List Int))) x_2)
   (some ([] : List Int))) := by kernel_rfl
theorem impl_charPlaces.eq (text : ByteArray) (fu : Nat) : impl_charPlaces (fu + 1) text =
  (optB (impl_read fu text) fun r0 =>
  optB (impl_onlyPoints fu r0) fun r1 =>
  optB (impl_charCuts fu r1) fun r2 =>
  optB (impl_placesOf fu r0 (sz text) r2) fun r3 =>
  some r3) := by kernel_rfl
theorem impl_piecesOf.eq (text : ByteArray) (cuts : List T_i) (fu : Nat) : impl_piecesOf (fu + 1) text cuts =
  (impl_piecesOf_L3 fu fu text cuts 1) := by kernel_rfl
theorem impl_Category.eq (p : Int) (fu : Nat) : impl_Category (fu + 1) p =
  (optB (impl_kind fu p) fun r0 =>
  some r0.1) := by kernel_rfl
theorem impl_isSyllable.eq (p : Int) (fu : Nat) : impl_isSyllable (fu + 1) p =
  (optB (impl_in fu p 12288 23459) fun r0 =>
  some r0) := by kernel_rfl
theorem impl_wideOf_J11.eq (n : Int) (x : Int) (x_1 : Int) (x_2 : List T_s) (fu fu1 : Nat) : impl_wideOf_J11 fu fu1 n x x_1 x_2 =
  (impl_wideOf_L3 fu fu1 n x (addI .i64 x_1 1) x_2) := by unfold impl_wideOf_J11; rw [joinAt_eq]; kernel_rfl
theorem impl_in.eq (p : Int) (a : Int) (b : Int) (fu : Nat) : impl_in (fu + 1) p a b =
  (brB (leI a p)
   (some (leI p b))
   (some false)) := by kernel_rfl
theorem impl_isPicture.eq (p : Int) (fu : Nat) : impl_isPicture (fu + 1) p =
  (optB (impl_in fu p 7680 7743) fun r0 =>
  some r0) := by kernel_rfl
theorem strings_trimRightByte_L1.eq (s : ByteArray) (c : Int) (fu fu1 : Nat) : strings_trimRightByte_L1 fu (fu1 + 1) s c =
  (brB (ltI 0 (sz s))
   (chk (leI 0 (subI .i64 (sz s) 1)) <|
   chk (ltI (subI .i64 (sz s) 1) (sz s)) <|
   brB (eqI (bt s (subI .i64 (sz s) 1)) c)
    (chk (leI 0 (subI .i64 (sz s) 1)) <|
    chk (leI (subI .i64 (sz s) 1) (sz s)) <|
    strings_trimRightByte_L1 fu fu1 (subs s 0 (subI .i64 (sz s) 1)) c)
    (some s))
   (some s)) := by kernel_rfl
theorem strings_makeASCIISet_L2.eq (chars : ByteArray) (i : Int) (as' : Bool) (as'_1 : Bool) (as'_2 : Bool) (as'_3 : Bool) (as'_4 : Bool) (as'_5 : Bool) (as'_6 : Bool) (as'_7 : Bool) (as'_8 : Bool) (as'_9 : Bool) (as'_10 : Bool) (as'_11 : Bool) (as'_12 : Bool) (as'_13 : Bool) (as'_14 : Bool) (as'_15 : Bool) (as'_16 : Bool) (as'_17 : Bool) (as'_18 : Bool) (as'_19 : Bool) (as'_20 : Bool) (as'_21 : Bool) (as'_22 : Bool) (as'_23 : Bool) (as'_24 : Bool) (as'_25 : Bool) (as'_26 : Bool) (as'_27 : Bool) (as'_28 : Bool) (as'_29 : Bool) (as'_30 : Bool) (as'_31 : Bool) (as'_32 : Bool) (as'_33 : Bool) (as'_34 : Bool) (as'_35 : Bool) (as'_36 : Bool) (as'_37 : Bool) (as'_38 : Bool) (as'_39 : Bool) (as'_40 : Bool) (as'_41 : Bool) (as'_42 : Bool) (as'_43 : Bool) (as'_44 : Bool) (as'_45 : Bool) (as'_46 : Bool) (as'_47 : Bool) (as'_48 : Bool) (as'_49 : Bool) (as'_50 : Bool) (as'_51 : Bool) (as'_52 : Bool) (as'_53 : Bool) (as'_54 : Bool) (as'_55 : Bool) (as'_56 : Bool) (as'_57 : Bool) (as'_58 : Bool) (as'_59 : Bool) (as'_60 : Bool) (as'_61 : Bool) (as'_62 : Bool) (as'_63 : Bool) (as'_64 : Bool) (as'_65 : Bool) (as'_66 : Bool) (as'_67 : Bool) (as'_68 : Bool) (as'_69 : Bool) (as'_70 : Bool) (as'_71 : Bool) (as'_72 : Bool) (as'_73 : Bool) (as'_74 : Bool) (as'_75 : Bool) (as'_76 : Bool) (as'_77 : Bool) (as'_78 : Bool) (as'_79 : Bool) (as'_80 : Bool) (as'_81 : Bool) (as'_82 : Bool) (as'_83 : Bool) (as'_84 : Bool) (as'_85 : Bool) (as'_86 : Bool) (as'_87 : Bool) (as'_88 : Bool) (as'_89 : Bool) (as'_90 : Bool) (as'_91 : Bool) (as'_92 : Bool) (as'_93 : Bool) (as'_94 : Bool) (as'_95 : Bool) (as'_96 : Bool) (as'_97 : Bool) (as'_98 : Bool) (as'_99 : Bool) (as'_100 : Bool) (as'_101 : Bool) (as'_102 : Bool) (as'_103 : Bool) (as'_104 : Bool) (as'_105 : Bool) (as'_106 : Bool) (as'_107 : Bool) (as'_108 : Bool) (as'_109 : Bool) (as'_110 : Bool) (as'_111 : Bool) (as'_112 : Bool) (as'_113 : Bool) (as'_114 : Bool) (as'_115 : Bool) (as'_116 : Bool) (as'_117 : Bool) (as'_118 : Bool) (as'_119 : Bool) (as'_120 : Bool) (as'_121 : Bool) (as'_122 : Bool) (as'_123 : Bool) (as'_124 : Bool) (as'_125 : Bool) (as'_126 : Bool) (as'_127 : Bool) (as'_128 : Bool) (as'_129 : Bool) (as'_130 : Bool) (as'_131 : Bool) (as'_132 : Bool) (as'_133 : Bool) (as'_134 : Bool) (as'_135 : Bool) (as'_136 : Bool) (as'_137 : Bool) (as'_138 : Bool) (as'_139 : Bool) (as'_140 : Bool) (as'_141 : Bool) (as'_142 : Bool) (as'_143 : Bool) (as'_144 : Bool) (as'_145 : Bool) (as'_146 : Bool) (as'_147 : Bool) (as'_148 : Bool) (as'_149 : Bool) (as'_150 : Bool) (as'_151 : Bool) (as'_152 : Bool) (as'_153 : Bool) (as'_154 : Bool) (as'_155 : Bool) (as'_156 : Bool) (as'_157 : Bool) (as'_158 : Bool) (as'_159 : Bool) (as'_160 : Bool) (as'_161 : Bool) (as'_162 : Bool) (as'_163 : Bool) (as'_164 : Bool) (as'_165 : Bool) (as'_166 : Bool) (as'_167 : Bool) (as'_168 : Bool) (as'_169 : Bool) (as'_170 : Bool) (as'_171 : Bool) (as'_172 : Bool) (as'_173 : Bool) (as'_174 : Bool) (as'_175 : Bool) (as'_176 : Bool) (as'_177 : Bool) (as'_178 : Bool) (as'_179 : Bool) (as'_180 : Bool) (as'_181 : Bool) (as'_182 : Bool) (as'_183 : Bool) (as'_184 : Bool) (as'_185 : Bool) (as'_186 : Bool) (as'_187 : Bool) (as'_188 : Bool) (as'_189 : Bool) (as'_190 : Bool) (as'_191 : Bool) (as'_192 : Bool) (as'_193 : Bool) (as'_194 : Bool) (as'_195 : Bool) (as'_196 : Bool) (as'_197 : Bool) (as'_198 : Bool) (as'_199 : Bool) (as'_200 : Bool) (as'_201 : Bool) (as'_202 : Bool) (as'_203 : Bool) (as'_204 : Bool) (as'_205 : Bool) (as'_206 : Bool) (as'_207 : Bool) (as'_208 : Bool) (as'_209 : Bool) (as'_210 : Bool) (as'_211 : Bool) (as'_212 : Bool) (as'_213 : Bool) (as'_214 : Bool) (as'_215 : Bool) (as'_216 : Bool) (as'_217 : Bool) (as'_218 : Bool) (as'_219 : Bool) (as'_220 : Bool) (as'_221 : Bool) (as'_222 : Bool) (as'_223 : Bool) (as'_224 : Bool) (as'_225 : Bool) (as'_226 : Bool) (as'_227 : Bool) (as'_228 : Bool) (as'_229 : Bool) (as'_230 : Bool) (as'_231 : Bool) (as'_232 : Bool) (as'_233 : Bool) (as'_234 : Bool) (as'_235 : Bool) (as'_236 : Bool) (as'_237 : Bool) (as'_238 : Bool) (as'_239 : Bool) (as'_240 : Bool) (as'_241 : Bool) (as'_242 : Bool) (as'_243 : Bool) (as'_244 : Bool) (as'_245 : Bool) (as'_246 : Bool) (as'_247 : Bool) (as'_248 : Bool) (as'_249 : Bool) (as'_250 : Bool) (as'_251 : Bool) (as'_252 : Bool) (as'_253 : Bool) (as'_254 : Bool) (as'_255 : Bool) (fu fu1 : Nat) : strings_makeASCIISet_L2 fu (fu1 + 1) chars i as' as'_1 as'_2 as'_3 as'_4 as'_5 as'_6 as'_7 as'_8 as'_9 as'_10 as'_11 as'_12 as'_13 as'_14 as'_15 as'_16 as'_17 as'_18 as'_19 as'_20 as'_21 as'_22 as'_23 as'_24 as'_25 as'_26 as'_27 as'_28 as'_29 as'_30 as'_31 as'_32 as'_33 as'_34 as'_35 as'_36 as'_37 as'_38 as'_39 as'_40 as'_41 as'_42 as'_43 as'_44 as'_45 as'_46 as'_47 as'_48 as'_49 as'_50 as'_51 as'_52 as'_53 as'_54 as'_55 as'_56 as'_57 as'_58 as'_59 as'_60 as'_61 as'_62 as'_63 as'_64 as'_65 as'_66 as'_67 as'_68 as'_69 as'_70 as'_71 as'_72 as'_73 as'_74 as'_75 as'_76 as'_77 as'_78 as'_79 as'_80 as'_81 as'_82 as'_83 as'_84 as'_85 as'_86 as'_87 as'_88 as'_89 as'_90 as'_91 as'_92 as'_93 as'_94 as'_95 as'_96 as'_97 as'_98 as'_99 as'_100 as'_101 as'_102 as'_103 as'_104 as'_105 as'_106 as'_107 as'_108 as'_109 as'_110 as'_111 as'_112 as'_113 as'_114 as'_115 as'_116 as'_117 as'_118 as'_119 as'_120 as'_121 as'_122 as'_123 as'_124 as'_125 as'_126 as'_127 as'_128 as'_129 as'_130 as'_131 as'_132 as'_133 as'_134 as'_135 as'_136 as'_137 as'_138 as'_139 as'_140 as'_141 as'_142 as'_143 as'_144 as'_145 as'_146 as'_147 as'_148 as'_149 as'_150 as'_151 as'_152 as'_153 as'_154 as'_155 as'_156 as'_157 as'_158 as'_159 as'_160 as'_161 as'_162 as'_163 as'_164 as'_165 as'_166 as'_167 as'_168 as'_169 as'_170 as'_171 as'_172 as'_173 as'_174 as'_175 as'_176 as'_177 as'_178 as'_179 as'_180 as'_181 as'_182 as'_183 as'_184 as'_185 as'_186 as'_187 as'_188 as'_189 as'_190 as'_191 as'_192 as'_193 as'_194 as'_195 as'_196 as'_197 as'_198 as'_199 as'_200 as'_201 as'_202 as'_203 as'_204 as'_205 as'_206 as'_207 as'_208 as'_209 as'_210 as'_211 as'_212 as'_213 as'_214 as'_215 as'_216 as'_217 as'_218 as'_219 as'_220 as'_221 as'_222 as'_223 as'_224 as'_225 as'_226 as'_227 as'_228 as'_229 as'_230 as'_231 as'_232 as'_233 as'_234 as'_235 as'_236 as'_237 as'_238 as'_239 as'_240 as'_241 as'_242 as'_243 as'_244 as'_245 as'_246 as'_247 as'_248 as'_249 as'_250 as'_251 as'_252 as'_253 as'_254 as'_255 =
  (brB (ltI i (sz chars))
   (chk (leI 0 i) <|
   chk (ltI i (sz chars)) <|
   chk (leI 128 (bt chars i)) <|
   some ((as', (as'_1, (as'_2, (as'_3, (as'_4, (as'_5, (as'_6, (as'_7, (as'_8, (as'_9, (as'_10, (as'_11, (as'_12, (as'_13, (as'_14, (as'_15, (as'_16, (as'_17, (as'_18, (as'_19, (as'_20, (as'_21, (as'_22, (as'_23, (as'_24, (as'_25, (as'_26, (as'_27, (as'_28, (as'_29, (as'_30, (as'_31, (as'_32, (as'_33, (as'_34, (as'_35, (as'_36, (as'_37, (as'_38, (as'_39, (as'_40, (as'_41, (as'_42, (as'_43, (as'_44, (as'_45, (as'_46, (as'_47, (as'_48, (as'_49, (as'_50, (as'_51, (as'_52, (as'_53, (as'_54, (as'_55, (as'_56, (as'_57, (as'_58, (as'_59, (as'_60, (as'_61, (as'_62, (as'_63, (as'_64, (as'_65, (as'_66, (as'_67, (as'_68, (as'_69, (as'_70, (as'_71, (as'_72, (as'_73, (as'_74, (as'_75, (as'_76, (as'_77, (as'_78, (as'_79, (as'_80, (as'_81, (as'_82, (as'_83, (as'_84, (as'_85, (as'_86, (as'_87, (as'_88, (as'_89, (as'_90, (as'_91, (as'_92, (as'_93, (as'_94, (as'_95, (as'_96, (as'_97, (as'_98, (as'_99, (as'_100, (as'_101, (as'_102, (as'_103, (as'_104, (as'_105, (as'_106, (as'_107, (as'_108, (as'_109, (as'_110, (as'_111, (as'_112, (as'_113, (as'_114, (as'_115, (as'_116, (as'_117, (as'_118, (as'_119, (as'_120, (as'_121, (as'_122, (as'_123, (as'_124, (as'_125, (as'_126, (as'_127, (as'_128, (as'_129, (as'_130, (as'_131, (as'_132, (as'_133, (as'_134, (as'_135, (as'_136, (as'_137, (as'_138, (as'_139, (as'_140, (as'_141, (as'_142, (as'_143, (as'_144, (as'_145, (as'_146, (as'_147, (as'_148, (as'_149, (as'_150, (as'_151, (as'_152, (as'_153, (as'_154, (as'_155, (as'_156, (as'_157, (as'_158, (as'_159, (as'_160, (as'_161, (as'_162, (as'_163, (as'_164, (as'_165, (as'_166, (as'_167, (as'_168, (as'_169, (as'_170, (as'_171, (as'_172, (as'_173, (as'_174, (as'_175, (as'_176, (as'_177, (as'_178, (as'_179, (as'_180, (as'_181, (as'_182, (as'_183, (as'_184, (as'_185, (as'_186, (as'_187, (as'_188, (as'_189, (as'_190, (as'_191, (as'_192, (as'_193, (as'_194, (as'_195, (as'_196, (as'_197, (as'_198, (as'_199, (as'_200, (as'_201, (as'_202, (as'_203, (as'_204, (as'_205, (as'_206, (as'_207, (as'_208, (as'_209, (as'_210, (as'_211, (as'_212, (as'_213, (as'_214, (as'_215, (as'_216, (as'_217, (as'_218, (as'_219, (as'_220, (as'_221, (as'_222, (as'_223, (as'_224, (as'_225, (as'_226, (as'_227, (as'_228, (as'_229, (as'_230, (as'_231, (as'_232, (as'_233, (as'_234, (as'_235, (as'_236, (as'_237, (as'_238, (as'_239, (as'_240, (as'_241, (as'_242, (as'_243, (as'_244, (as'_245, (as'_246, (as'_247, (as'_248, (as'_249, (as'_250, (as'_251, (as'_252, (as'_253, (as'_254, as'_255))))))))))))))))))))))))))))))))))))))))))))))))))))))))))))))))))))))))))))))))))))))))))))))))))))))))))))))))))))))))))))))))))))))))))))))))))))))))))))))))))))))))))))))))))))))))))))))))))))))))))))))))))))))))))))))))))))))))))))))))))))))))))))))), false))
   (some ((as', (as'_1, (as'_2, (as'_3, (as'_4, (as'_5, (as'_6, (as'_7, (as'_8, (as'_9, (as'_10, (as'_11, (as'_12, (as'_13, (as'_14, (as'_15, (as'_16, (as'_17, (as'_18, (as'_19, (as'_20, (as'_21, (as'_22, (as'_23, (as'_24, (as'_25, (as'_26, (as'_27, (as'_28, (as'_29, (as'_30, (as'_31, (as'_32, (as'_33, (as'_34, (as'_35, (as'_36, (as'_37, (as'_38, (as'_39, (as'_40, (as'_41, (as'_42, (as'_43, (as'_44, (as'_45, (as'_46, (as'_47, (as'_48, (as'_49, (as'_50, (as'_51, (as'_52, (as'_53, (as'_54, (as'_55, (as'_56, (as'_57, (as'_58, (as'_59, (as'_60, (as'_61, (as'_62, (as'_63, (as'_64, (as'_65, (as'_66, (as'_67, (as'_68, (as'_69, (as'_70, (as'_71, (as'_72, (as'_73, (as'_74, (as'_75, (as'_76, (as'_77, (as'_78, (as'_79, (as'_80, (as'_81, (as'_82, (as'_83, (as'_84, (as'_85, (as'_86, (as'_87, (as'_88, (as'_89, (as'_90, (as'_91, (as'_92, (as'_93, (as'_94, (as'_95, (as'_96, (as'_97, (as'_98, (as'_99, (as'_100, (as'_101, (as'_102, (as'_103, (as'_104, (as'_105, (as'_106, (as'_107, (as'_108, (as'_109, (as'_110, (as'_111, (as'_112, (as'_113, (as'_114, (as'_115, (as'_116, (as'_117, (as'_118, (as'_119, (as'_120, (as'_121, (as'_122, (as'_123, (as'_124, (as'_125, (as'_126, (as'_127, (as'_128, (as'_129, (as'_130, (as'_131, (as'_132, (as'_133, (as'_134, (as'_135, (as'_136, (as'_137, (as'_138, (as'_139, (as'_140, (as'_141, (as'_142, (as'_143, (as'_144, (as'_145, (as'_146, (as'_147, (as'_148, (as'_149, (as'_150, (as'_151, (as'_152, (as'_153, (as'_154, (as'_155, (as'_156, (as'_157, (as'_158, (as'_159, (as'_160, (as'_161, (as'_162, (as'_163, (as'_164, (as'_165, (as'_166, (as'_167, (as'_168, (as'_169, (as'_170, (as'_171, (as'_172, (as'_173, (as'_174, (as'_175, (as'_176, (as'_177, (as'_178, (as'_179, (as'_180, (as'_181, (as'_182, (as'_183, (as'_184, (as'_185, (as'_186, (as'_187, (as'_188, (as'_189, (as'_190, (as'_191, (as'_192, (as'_193, (as'_194, (as'_195, (as'_196, (as'_197, (as'_198, (as'_199, (as'_200, (as'_201, (as'_202, (as'_203, (as'_204, (as'_205, (as'_206, (as'_207, (as'_208, (as'_209, (as'_210, (as'_211, (as'_212, (as'_213, (as'_214, (as'_215, (as'_216, (as'_217, (as'_218, (as'_219, (as'_220, (as'_221, (as'_222, (as'_223, (as'_224, (as'_225, (as'_226, (as'_227, (as'_228, (as'_229, (as'_230, (as'_231, (as'_232, (as'_233, (as'_234, (as'_235, (as'_236, (as'_237, (as'_238, (as'_239, (as'_240, (as'_241, (as'_242, (as'_243, (as'_244, (as'_245, (as'_246, (as'_247, (as'_248, (as'_249, (as'_250, (as'_251, (as'_252, (as'_253, (as'_254, as'_255))))))))))))))))))))))))))))))))))))))))))))))))))))))))))))))))))))))))))))))))))))))))))))))))))))))))))))))))))))))))))))))))))))))))))))))))))))))))))))))))))))))))))))))))))))))))))))))))))))))))))))))))))))))))))))))))))))))))))))))))))))))))))))))), true))) := by kernel_rfl
theorem strings_trimRightUnicode_L1.eq (s : ByteArray) (cutset : ByteArray) (fu fu1 : Nat) : strings_trimRightUnicode_L1 fu (fu1 + 1) s cutset =
  (brB (ltI 0 (sz s))
   (chk (leI 0 (subI .i64 (sz s) 1)) <|
   chk (ltI (subI .i64 (sz s) 1) (sz s)) <|
   brB (leI 128 (wrI .i32 (bt s (subI .i64 (sz s) 1))))
    (optB (unicode_utf8_DecodeLastRuneInString fu s) fun r0 =>
    strings_trimRightUnicode_J5 fu fu1 s cutset r0.1 r0.2)
    (strings_trimRightUnicode_J5 fu fu1 s cutset (wrI .i32 (bt s (subI .i64 (sz s) 1))) 1))
   (some s)) := by kernel_rfl
theorem strings_trimLeftByte.eq (s : ByteArray) (c : Int) (fu : Nat) : strings_trimLeftByte (fu + 1) s c =
  (strings_trimLeftByte_L1 fu fu s c) := by kernel_rfl
theorem strings_trimLeftUnicode.eq (s : ByteArray) (cutset : ByteArray) (fu : Nat) : strings_trimLeftUnicode (fu + 1) s cutset =
  (strings_trimLeftUnicode_L1 fu fu s cutset) := by kernel_rfl
theorem impl_Justified_L19'1.eq (line : ByteArray) (extra : Int) (at' : Int) (x : Int) (x_1 : Int) (rows : List T_i) (b : ByteArray) (fu fu1 : Nat) : impl_Justified_L19'1 fu (fu1 + 1) line extra at' x x_1 rows b =
  (brB (ltI x_1 x)
   (chk (leI 0 x_1) <|
   chk (ltI x_1 (ln rows)) <|
   chk (notB (eqI (ln rows) 0)) <|
   chk (notB (eqI (ln rows) 0)) <|
   brB (ltI x_1 (remI extra (ln rows)))
    (impl_Justified_J24 fu fu1 line extra at' (rd rows x_1 0) (addI .i64 (quoI .i64 extra (ln rows)) 1) x x_1 rows b)
    (impl_Justified_J24 fu fu1 line extra at' (rd rows x_1 0) (quoI .i64 extra (ln rows)) x x_1 rows b))
   (chk (leI 0 at') <|
   chk (leI at' (sz line)) <|
   chk (leI (addZ (sz b) (sz (subs line at' (sz line)))) 140737488355328) <|
   optB (impl_short fu (catS b (subs line at' (sz line)))) fun r0 =>
   some r0)) := by kernel_rfl
theorem impl_short.eq (s : ByteArray) (fu : Nat) : impl_short (fu + 1) s =
  (optB (impl_long fu s) fun r0 =>
  brB r0
   (some (bs []))
   (some s)) := by kernel_rfl
theorem spec_l22Gaps_L3.eq (line : ByteArray) (i : Int) (out : List T_i) (fu fu1 : Nat) : spec_l22Gaps_L3 fu (fu1 + 1) line i out =
  (brB (ltI i (sz line))
   (chk (leI 0 (subI .i64 i 1)) <|
   chk (ltI (subI .i64 i 1) (sz line)) <|
   brB (notB (eqI (bt line (subI .i64 i 1)) 32))
    (spec_l22Gaps_L3 fu fu1 line (addI .i64 i 1) out)
    (chk (leI 0 i) <|
    chk (ltI i (sz line)) <|
    brB (eqI (bt line i) 32)
     (spec_l22Gaps_L3 fu fu1 line (addI .i64 i 1) out)
     (spec_l22Gaps_L7 fu fu1 fu line i (subI .i64 i 1) out)))
   (some out)) := by kernel_rfl
theorem spec_Justified_J18.eq (line : ByteArray) (more : Int) (n : Int) (out : ByteArray) (i : Int) (each : Int) (gaps : List T_i) (fu fu1 : Nat) : spec_Justified_J18 fu fu1 line more n out i each gaps =
  (optB (spec_l22Blanks fu each) fun r0 =>
  chk (leI (addZ (sz out) (sz r0)) 9223372036854775807) <|
  chk (leI 0 i) <|
  chk (ltI i (ln gaps)) <|
  spec_Justified_L12 fu fu1 line more n (catS out r0) (rd gaps i 0) (addI .i64 i 1) gaps) := by unfold spec_Justified_J18; rw [joinAt_eq]; kernel_rfl
theorem spec_l01Next.eq (t : ByteArray) (at' : Int) (fu : Nat) : spec_l01Next (fu + 1) t at' =
  (chk (leI 0 at') <|
  chk (ltI at' (sz t)) <|
  brB (ltI (wrI .i64 (bt t at')) 128)
   (some ((wrI .i64 (bt t at')), (1, true)))
   (brB (leI 194 (wrI .i64 (bt t at')))
    (brB (ltI (wrI .i64 (bt t at')) 224)
     (chk (notB (eqI 32 0)) <|
     spec_l01Next_J16 fu t at' 1 (remI (wrI .i64 (bt t at')) 32))
     (brB (leI 224 (wrI .i64 (bt t at')))
      (brB (ltI (wrI .i64 (bt t at')) 240)
       (chk (notB (eqI 16 0)) <|
       spec_l01Next_J16 fu t at' 2 (remI (wrI .i64 (bt t at')) 16))
       (brB (leI 240 (wrI .i64 (bt t at')))
        (brB (ltI (wrI .i64 (bt t at')) 245)
         (chk (notB (eqI 8 0)) <|
         spec_l01Next_J16 fu t at' 3 (remI (wrI .i64 (bt t at')) 8))
         (some (65533, (1, false))))
        (some (65533, (1, false)))))
      (brB (leI 240 (wrI .i64 (bt t at')))
       (brB (ltI (wrI .i64 (bt t at')) 245)
        (chk (notB (eqI 8 0)) <|
        spec_l01Next_J16 fu t at' 3 (remI (wrI .i64 (bt t at')) 8))
        (some (65533, (1, false))))
       (some (65533, (1, false))))))
    (brB (leI 224 (wrI .i64 (bt t at')))
     (brB (ltI (wrI .i64 (bt t at')) 240)
      (chk (notB (eqI 16 0)) <|
      spec_l01Next_J16 fu t at' 2 (remI (wrI .i64 (bt t at')) 16))
      (brB (leI 240 (wrI .i64 (bt t at')))
       (brB (ltI (wrI .i64 (bt t at')) 245)
        (chk (notB (eqI 8 0)) <|
        spec_l01Next_J16 fu t at' 3 (remI (wrI .i64 (bt t at')) 8))
        (some (65533, (1, false))))
       (some (65533, (1, false)))))
     (brB (leI 240 (wrI .i64 (bt t at')))
      (brB (ltI (wrI .i64 (bt t at')) 245)
       (chk (notB (eqI 8 0)) <|
       spec_l01Next_J16 fu t at' 3 (remI (wrI .i64 (bt t at')) 8))
       (some (65533, (1, false))))
      (some (65533, (1, false))))))) := by kernel_rfl
theorem spec_l01Src_hyphenWord.eq (n : Int) (s : List T_y) (s_1 : Int) (s_2 : Int) (s_3 : Int) (fu : Nat) : spec_l01Src_hyphenWord (fu + 1) n s s_1 s_2 s_3 =
  (spec_l01Src_hyphenWord_L2 fu fu n (bs []) s s_1 s_2 s_3) := by kernel_rfl
theorem spec_l01Src_pick.eq (l : List T_s) (s : List T_y) (s_1 : Int) (s_2 : Int) (s_3 : Int) (fu : Nat) : spec_l01Src_pick (fu + 1) l s s_1 s_2 s_3 =
  (optB (spec_l01Src_n fu (ln l) s s_1 s_2 s_3) fun r0 =>
  chk (leI 0 r0.1) <|
  chk (ltI r0.1 (ln l)) <|
  some ((rd l r0.1 (bs [])), (r0.2.1, (r0.2.2.1, (r0.2.2.2.1, r0.2.2.2.2))))) := by kernel_rfl
theorem spec_l01Src_paraText_J4.eq (out : ByteArray) (k : Int) (s : List T_y) (s_1 : Int) (s_2 : Int) (s_3 : Int) (fu fu1 : Nat) : spec_l01Src_paraText_J4 fu fu1 out k s s_1 s_2 s_3 =
  (spec_l01Src_paraText_L3 fu fu1 out (subI .i64 k 1) s s_1 s_2 s_3) := by unfold spec_l01Src_paraText_J4; rw [joinAt_eq]; kernel_rfl
theorem spec_l01Write.eq (p : Int) (fu : Nat) : spec_l01Write (fu + 1) p =
  (optB (spec_l01IsPoint fu p) fun r0 =>
  brB (notB r0)
   (spec_l01Write_J3 fu 65533)
   (spec_l01Write_J3 fu p)) := by kernel_rfl
theorem spec_l07RowOf_L3.eq (t : ByteArray) (i : Int) (fu fu1 : Nat) : spec_l07RowOf_L3 fu (fu1 + 1) t i =
  (brB (ltI i (sz t))
   (optB (spec_l01Next fu t i) fun r0 =>
   chk (ltI (mulZ (addZ (ln ([] : List Int)) (ln (r0.1 :: ([] : List Int)))) 8) 140737488355328) <|
   chk (ltI (mulZ (addZ (ln ([] : List Int)) (ln (i :: ([] : List Int)))) 8) 140737488355328) <|
   spec_l07RowOf_L3'1 fu fu1 t (addI .i64 i r0.2.1) (catL ([] : List Int) (r0.1 :: ([] : List Int))) (catL ([] : List Int) (i :: ([] : List Int))))
   (chk (ltI (mulZ (addZ (ln ([] : List Int)) (ln ((sz t) :: ([] : List Int)))) 8) 140737488355328) <|
   some (([] : List Int), (catL ([] : List Int) ((sz t) :: ([] : List Int)))))) := by kernel_rfl
theorem spec_l07Char.eq (l : List T_i) (i : Int) (fu : Nat) : spec_l07Char (fu + 1) l i =
  (chk (leI 0 (subI .i64 i 1)) <|
  chk (ltI (subI .i64 i 1) (ln l)) <|
  chk (leI 0 i) <|
  chk (ltI i (ln l)) <|
  brB (eqI (rd l (subI .i64 i 1) 0) 13)
   (spec_l07Char_J4 fu l i (rd l (subI .i64 i 1) 0) (rd l i 0) (eqI (rd l i 0) 10))
   (spec_l07Char_J4 fu l i (rd l (subI .i64 i 1) 0) (rd l i 0) false)) := by kernel_rfl
theorem spec_l01Cat.eq (p : Int) (fu : Nat) : spec_l01Cat (fu + 1) p =
  (optB (spec_l01Known fu p) fun r0 =>
  some r0.1) := by kernel_rfl
theorem spec_l22Char_J4.eq (c : Int) (x : Bool) (fu : Nat) : spec_l22Char_J4 fu c x =
  (brB x
   (some 2)
   (brB (eqI c 1)
    (some 0)
    (brB (eqI c 11)
     (some 0)
     (brB (eqI c 3)
      (some 0)
      (some 1))))) := by unfold spec_l22Char_J4; rw [joinAt_eq]; kernel_rfl
theorem spec_l07Picture.eq (p : Int) (fu : Nat) : spec_l07Picture (fu + 1) p =
  (brB (leI 7680 p)
   (some (leI p 7743))
   (some false)) := by kernel_rfl
theorem impl_read_L3.eq (s : ByteArray) (i : Int) (fu fu1 : Nat) : impl_read_L3 fu (fu1 + 1) s i =
  (brB (ltI i (sz s))
   (chk (leI 0 i) <|
   chk (leI i (sz s)) <|
   optB (unicode_utf8_DecodeRuneInString fu (subs s i (sz s))) fun r0 =>
   brB (eqI r0.1 65533)
    (chk (ltI (mulZ (addZ (ln ([] : List (Int × Int × Int × Bool))) (ln (((wrI .i64 r0.1), (i, ((addI .i64 i r0.2), (eqI r0.2 1)))) :: ([] : List (Int × Int × Int × Bool))))) 32) 140737488355328) <|
    impl_read_L3'1 fu fu1 s (addI .i64 i r0.2) (catL ([] : List (Int × Int × Int × Bool)) (((wrI .i64 r0.1), (i, ((addI .i64 i r0.2), (eqI r0.2 1)))) :: ([] : List (Int × Int × Int × Bool)))))
    (chk (ltI (mulZ (addZ (ln ([] : List (Int × Int × Int × Bool))) (ln (((wrI .i64 r0.1), (i, ((addI .i64 i r0.2), false))) :: ([] : List (Int × Int × Int × Bool))))) 32) 140737488355328) <|
    impl_read_L3'1 fu fu1 s (addI .i64 i r0.2) (catL ([] : List (Int × Int × Int × Bool)) (((wrI .i64 r0.1), (i, ((addI .i64 i r0.2), false))) :: ([] : List (Int × Int × Int × Bool))))))
   (some ([] : List (Int × Int × Int × Bool)))) := by kernel_rfl
theorem impl_points_L3'1.eq (x : Int) (x_1 : Int) (out : List T_i) (x_2 : List T_iiib) (fu fu1 : Nat) : impl_points_L3'1 fu (fu1 + 1) x x_1 out x_2 =
  (brB (ltI x_1 x)
   (chk (leI 0 x_1) <|
   chk (ltI x_1 (ln x_2)) <|
   chk (ltI (mulZ (addZ (ln out) (ln ((rd x_2 x_1 (0, (0, (0, false)))).1 :: ([] : List Int)))) 8) 140737488355328) <|
   impl_points_L3'1 fu fu1 x (addI .i64 x_1 1) (catL out ((rd x_2 x_1 (0, (0, (0, false)))).1 :: ([] : List Int))) x_2)
   (some out)) := by kernel_rfl
theorem impl_onlyPoints.eq (l : List T_iiib) (fu : Nat) : impl_onlyPoints (fu + 1) l =
  (chk (leI 0 (ln l)) <|
  chk (leI (ln l) (ln l)) <|
  chk (ltI (mulZ (ln l) 8) 140737488355328) <|
  impl_onlyPoints_L3 fu fu l (ln l) 0 (repI (ln l) 0)) := by kernel_rfl
theorem impl_charCuts.eq (l : List T_i) (fu : Nat) : impl_charCuts (fu + 1) l =
  (chk (leI 0 (ln l)) <|
  chk (leI (ln l) (ln l)) <|
  chk (ltI (mulZ (ln l) 1) 140737488355328) <|
  impl_charCuts_L4 fu fu l l (ln l) 0 (repI (ln l) false) false false 0) := by kernel_rfl
theorem impl_placesOf.eq (l : List T_iiib) (n : Int) (cut : List T_b) (fu : Nat) : impl_placesOf (fu + 1) l n cut =
  (brB (eqI n 0)
   (some ([] : List Int))
   (impl_placesOf_L5 fu fu n cut l (ln l) 0 (0 :: ([] : List Int)))) := by kernel_rfl
theorem impl_piecesOf_L3.eq (text : ByteArray) (cuts : List T_i) (i : Int) (fu fu1 : Nat) : impl_piecesOf_L3 fu (fu1 + 1) text cuts i =
  (brB (ltI i (ln cuts))
   (chk (leI 0 (subI .i64 i 1)) <|
   chk (ltI (subI .i64 i 1) (ln cuts)) <|
   chk (leI 0 i) <|
   chk (ltI i (ln cuts)) <|
   chk (leI 0 (rd cuts (subI .i64 i 1) 0)) <|
   chk (leI (rd cuts (subI .i64 i 1) 0) (rd cuts i 0)) <|
   chk (leI (rd cuts i 0) (sz text)) <|
   chk (ltI (mulZ (addZ (ln ([] : List ByteArray)) (ln ((subs text (rd cuts (subI .i64 i 1) 0) (rd cuts i 0)) :: ([] : List ByteArray)))) 16) 140737488355328) <|
   impl_piecesOf_L3'1 fu fu1 text cuts (addI .i64 i 1) (catL ([] : List ByteArray) ((subs text (rd cuts (subI .i64 i 1) 0) (rd cuts i 0)) :: ([] : List ByteArray))))
   (some ([] : List ByteArray))) := by kernel_rfl
theorem impl_kind.eq (p : Int) (fu : Nat) : impl_kind (fu + 1) p =
  (optB (impl_block fu p) fun r0 =>
  brB (ltI 0 r0.1)
   (chk (leI 0 8) <|
   brB (ltI r0.2 32)
    (some (4, (shrI .i64 r0.1 8)))
    (optB (impl_in fu r0.2 64 67) fun r1 =>
    brB r1
     (some (4, (shrI .i64 r0.1 8)))
     (brB (ltI r0.2 64)
      (some (5, (shrI .i64 r0.1 8)))
      (optB (impl_in fu r0.2 72 75) fun r2 =>
      brB r2
       (some (5, (shrI .i64 r0.1 8)))
       (optB (impl_in fu r0.2 96 97) fun r3 =>
       brB r3
        (some (5, (shrI .i64 r0.1 8)))
        (optB (impl_in fu r0.2 68 71) fun r4 =>
        brB r4
         (some (6, (shrI .i64 r0.1 8)))
         (optB (impl_in fu r0.2 80 89) fun r5 =>
         brB r5
          (some (8, (shrI .i64 r0.1 8)))
          (some (0, 0)))))))))
   (optB (impl_in fu p 0 31) fun r1 =>
   brB r1
    (impl_kind_J14 fu p true)
    (optB (impl_in fu p 127 159) fun r2 =>
    impl_kind_J14 fu p r2))) := by kernel_rfl
theorem unicode_utf8_DecodeLastRuneInString.eq (s : ByteArray) (fu : Nat) : unicode_utf8_DecodeLastRuneInString (fu + 1) s =
  (brB (eqI (sz s) 0)
   (some (65533, 0))
   (chk (leI 0 (subI .i64 (sz s) 1)) <|
   chk (ltI (subI .i64 (sz s) 1) (sz s)) <|
   brB (ltI (wrI .i32 (bt s (subI .i64 (sz s) 1))) 128)
    (some ((wrI .i32 (bt s (subI .i64 (sz s) 1))), 1))
    (unicode_utf8_DecodeLastRuneInString_L10 fu fu s (sz s) (subI .i64 (subI .i64 (sz s) 1) 1) (maxI (subI .i64 (sz s) 4) 0)))) := by kernel_rfl
theorem strings_trimRightUnicode_J5.eq (s : ByteArray) (cutset : ByteArray) (r : Int) (n : Int) (fu fu1 : Nat) : strings_trimRightUnicode_J5 fu fu1 s cutset r n =
  (optB (strings_ContainsRune fu cutset r) fun r0 =>
  brB (notB r0)
   (some s)
   (chk (leI 0 (subI .i64 (sz s) n)) <|
   chk (leI (subI .i64 (sz s) n) (sz s)) <|
   strings_trimRightUnicode_L1 fu fu1 (subs s 0 (subI .i64 (sz s) n)) cutset)) := by unfold strings_trimRightUnicode_J5; rw [joinAt_eq]; kernel_rfl
theorem strings_trimLeftByte_L1.eq (s : ByteArray) (c : Int) (fu fu1 : Nat) : strings_trimLeftByte_L1 fu (fu1 + 1) s c =
  (brB (ltI 0 (sz s))
   (chk (leI 0 0) <|
   chk (ltI 0 (sz s)) <|
   brB (eqI (bt s 0) c)
    (chk (leI 0 1) <|
    chk (leI 1 (sz s)) <|
    strings_trimLeftByte_L1 fu fu1 (subs s 1 (sz s)) c)
    (some s))
   (some s)) := by kernel_rfl
theorem strings_trimLeftUnicode_L1.eq (s : ByteArray) (cutset : ByteArray) (fu fu1 : Nat) : strings_trimLeftUnicode_L1 fu (fu1 + 1) s cutset =
  (brB (ltI 0 (sz s))
   (optB (unicode_utf8_DecodeRuneInString fu s) fun r0 =>
   optB (strings_ContainsRune fu cutset r0.1) fun r1 =>
   brB (notB r1)
    (some s)
    (chk (leI 0 r0.2) <|
    chk (leI r0.2 (sz s)) <|
    strings_trimLeftUnicode_L1 fu fu1 (subs s r0.2 (sz s)) cutset))
   (some s)) := by kernel_rfl
theorem impl_Justified_J24.eq (line : ByteArray) (extra : Int) (at' : Int) (r : Int) (n : Int) (x : Int) (x_1 : Int) (rows : List T_i) (b : ByteArray) (fu fu1 : Nat) : impl_Justified_J24 fu fu1 line extra at' r n x x_1 rows b =
  (chk (leI 0 at') <|
  chk (leI at' r) <|
  chk (leI r (sz line)) <|
  optB (strings_Repeat fu (bs [32]) n) fun r0 =>
  chk (leI (addZ (sz (subs line at' r)) (sz r0)) 9223372036854775807) <|
  chk (leI (addZ (sz b) (sz (catS (subs line at' r) r0))) 140737488355328) <|
  impl_Justified_L19'1 fu fu1 line extra r x (addI .i64 x_1 1) rows (catS b (catS (subs line at' r) r0))) := by unfold impl_Justified_J24; rw [joinAt_eq]; kernel_rfl
theorem spec_l22Gaps_L7.eq (line : ByteArray) (i : Int) (k : Int) (out : List T_i) (fu fu1 fu2 : Nat) : spec_l22Gaps_L7 fu fu1 (fu2 + 1) line i k out =
  (brB (leI 0 k)
   (chk (leI 0 k) <|
   chk (ltI k (sz line)) <|
   brB (eqI (bt line k) 32)
    (spec_l22Gaps_L7 fu fu1 fu2 line i (subI .i64 k 1) out)
    (brB (leI 0 k)
     (chk (ltI (mulZ (addZ (ln out) (ln (i :: ([] : List Int)))) 8) 140737488355328) <|
     spec_l22Gaps_L3 fu fu1 line (addI .i64 i 1) (catL out (i :: ([] : List Int))))
     (spec_l22Gaps_L3 fu fu1 line (addI .i64 i 1) out)))
   (brB (leI 0 k)
    (chk (ltI (mulZ (addZ (ln out) (ln (i :: ([] : List Int)))) 8) 140737488355328) <|
    spec_l22Gaps_L3 fu fu1 line (addI .i64 i 1) (catL out (i :: ([] : List Int))))
    (spec_l22Gaps_L3 fu fu1 line (addI .i64 i 1) out))) := by kernel_rfl
theorem spec_l22Blanks.eq (n : Int) (fu : Nat) : spec_l22Blanks (fu + 1) n =
  (spec_l22Blanks_L2 fu fu n ([] : List Int)) := by kernel_rfl
theorem spec_l01Next_J16.eq (t : ByteArray) (at' : Int) (n : Int) (p : Int) (fu : Nat) : spec_l01Next_J16 fu t at' n p =
  (brB (leI (sz t) (addI .i64 at' n))
   (some (65533, (1, false)))
   (spec_l01Next_L19 fu fu t at' n p 1)) := by unfold spec_l01Next_J16; rw [joinAt_eq]; kernel_rfl
theorem spec_l01Src_hyphenWord_L2.eq (n : Int) (out : ByteArray) (s : List T_y) (s_1 : Int) (s_2 : Int) (s_3 : Int) (fu fu1 : Nat) : spec_l01Src_hyphenWord_L2 fu (fu1 + 1) n out s s_1 s_2 s_3 =
  (brB (ltI 0 n)
   (optB (spec_l01Src_pick fu ((bs [97]) :: ((bs [98]) :: ((bs [99]) :: ((bs [97, 98]) :: ((bs [97, 98, 99]) :: ((bs [98, 99]) :: ([] : List ByteArray))))))) s s_1 s_2 s_3) fun r0 =>
   chk (leI (addZ (sz out) (sz r0.1)) 9223372036854775807) <|
   spec_l01Src_hyphenWord_L2 fu fu1 (subI .i64 n 1) (catS out r0.1) r0.2.1 r0.2.2.1 r0.2.2.2.1 r0.2.2.2.2)
   (some (out, (s, (s_1, (s_2, s_3)))))) := by kernel_rfl
theorem spec_l01IsPoint.eq (p : Int) (fu : Nat) : spec_l01IsPoint (fu + 1) p =
  (brB (leI 0 p)
   (brB (leI p 1114111)
    (brB (ltI p 55296)
     (some true)
     (some (ltI 57343 p)))
    (some false))
   (some false)) := by kernel_rfl
theorem spec_l01Write_J3.eq (p : Int) (fu : Nat) : spec_l01Write_J3 fu p =
  (brB (ltI p 128)
   (some (bytesOf ((wrI .u8 p) :: ([] : List Int))))
   (brB (ltI p 2048)
    (chk (notB (eqI 64 0)) <|
    chk (notB (eqI 64 0)) <|
    some (bytesOf ((wrI .u8 (addI .i64 192 (quoI .i64 p 64))) :: ((wrI .u8 (addI .i64 128 (remI p 64))) :: ([] : List Int)))))
    (brB (ltI p 65536)
     (chk (notB (eqI 4096 0)) <|
     chk (notB (eqI 64 0)) <|
     chk (notB (eqI 64 0)) <|
     chk (notB (eqI 64 0)) <|
     some (bytesOf ((wrI .u8 (addI .i64 224 (quoI .i64 p 4096))) :: ((wrI .u8 (addI .i64 128 (remI (quoI .i64 p 64) 64))) :: ((wrI .u8 (addI .i64 128 (remI p 64))) :: ([] : List Int))))))
     (chk (notB (eqI 262144 0)) <|
     chk (notB (eqI 4096 0)) <|
     chk (notB (eqI 64 0)) <|
     chk (notB (eqI 64 0)) <|
     chk (notB (eqI 64 0)) <|
     chk (notB (eqI 64 0)) <|
     some (bytesOf ((wrI .u8 (addI .i64 240 (quoI .i64 p 262144))) :: ((wrI .u8 (addI .i64 128 (remI (quoI .i64 p 4096) 64))) :: ((wrI .u8 (addI .i64 128 (remI (quoI .i64 p 64) 64))) :: ((wrI .u8 (addI .i64 128 (remI p 64))) :: ([] : List Int)))))))))) := by unfold spec_l01Write_J3; rw [joinAt_eq]; kernel_rfl
theorem spec_l07RowOf_L3'1.eq (t : ByteArray) (i : Int) (x : List T_i) (x_1 : List T_i) (fu fu1 : Nat) : spec_l07RowOf_L3'1 fu (fu1 + 1) t i x x_1 =
  (brB (ltI i (sz t))
   (optB (spec_l01Next fu t i) fun r0 =>
   chk (ltI (mulZ (addZ (ln x) (ln (r0.1 :: ([] : List Int)))) 8) 140737488355328) <|
   chk (ltI (mulZ (addZ (ln x_1) (ln (i :: ([] : List Int)))) 8) 140737488355328) <|
   spec_l07RowOf_L3'1 fu fu1 t (addI .i64 i r0.2.1) (catL x (r0.1 :: ([] : List Int))) (catL x_1 (i :: ([] : List Int))))
   (chk (ltI (mulZ (addZ (ln x_1) (ln ((sz t) :: ([] : List Int)))) 8) 140737488355328) <|
   some (x, (catL x_1 ((sz t) :: ([] : List Int)))))) := by kernel_rfl
theorem spec_l07Char_J4.eq (l : List T_i) (i : Int) (left : Int) (right : Int) (x : Bool) (fu : Nat) : spec_l07Char_J4 fu l i left right x =
  (brB x
   (some false)
   (optB (spec_l07Control fu left) fun r0 =>
   brB r0
    (spec_l07Char_J6 fu l i left right true)
    (optB (spec_l07Control fu right) fun r1 =>
    spec_l07Char_J6 fu l i left right r1))) := by unfold spec_l07Char_J4; rw [joinAt_eq]; kernel_rfl
theorem spec_l01Known.eq (p : Int) (fu : Nat) : spec_l01Known (fu + 1) p =
  (brB (leI 512 p)
   (brB (ltI p 1280)
    (optB (spec_l01Cased fu) fun r0 =>
    spec_l01Known_L4 fu fu p 0 r0)
    (brB (leI 8192 p)
     (brB (ltI p 9728)
      (chk (notB (eqI 512 0)) <|
      brB (leI 416 (remI p 512))
       (some (0, 0))
       (brB (ltI (remI p 512) 208)
        (some (4, 1))
        (some (5, 1))))
      (optB (spec_l01Rows fu) fun r0 =>
      spec_l01Known_L18 fu fu p 0 r0))
     (optB (spec_l01Rows fu) fun r0 =>
     spec_l01Known_L18 fu fu p 0 r0)))
   (brB (leI 8192 p)
    (brB (ltI p 9728)
     (chk (notB (eqI 512 0)) <|
     brB (leI 416 (remI p 512))
      (some (0, 0))
      (brB (ltI (remI p 512) 208)
       (some (4, 1))
       (some (5, 1))))
     (optB (spec_l01Rows fu) fun r0 =>
     spec_l01Known_L18 fu fu p 0 r0))
    (optB (spec_l01Rows fu) fun r0 =>
    spec_l01Known_L18 fu fu p 0 r0))) := by kernel_rfl
theorem impl_read_L3'1.eq (s : ByteArray) (i : Int) (out : List T_iiib) (fu fu1 : Nat) : impl_read_L3'1 fu (fu1 + 1) s i out =
  (brB (ltI i (sz s))
   (chk (leI 0 i) <|
   chk (leI i (sz s)) <|
   optB (unicode_utf8_DecodeRuneInString fu (subs s i (sz s))) fun r0 =>
   brB (eqI r0.1 65533)
    (chk (ltI (mulZ (addZ (ln out) (ln (((wrI .i64 r0.1), (i, ((addI .i64 i r0.2), (eqI r0.2 1)))) :: ([] : List (Int × Int × Int × Bool))))) 32) 140737488355328) <|
    impl_read_L3'1 fu fu1 s (addI .i64 i r0.2) (catL out (((wrI .i64 r0.1), (i, ((addI .i64 i r0.2), (eqI r0.2 1)))) :: ([] : List (Int × Int × Int × Bool)))))
    (chk (ltI (mulZ (addZ (ln out) (ln (((wrI .i64 r0.1), (i, ((addI .i64 i r0.2), false))) :: ([] : List (Int × Int × Int × Bool))))) 32) 140737488355328) <|
    impl_read_L3'1 fu fu1 s (addI .i64 i r0.2) (catL out (((wrI .i64 r0.1), (i, ((addI .i64 i r0.2), false))) :: ([] : List (Int × Int × Int × Bool))))))
   (some out)) := by kernel_rfl
theorem impl_onlyPoints_L3.eq (x : List T_iiib) (x_1 : Int) (x_2 : Int) (out : List T_i) (fu fu1 : Nat) : impl_onlyPoints_L3 fu (fu1 + 1) x x_1 x_2 out =
  (brB (ltI x_2 x_1)
   (chk (leI 0 x_2) <|
   chk (ltI x_2 (ln x)) <|
   chk (leI 0 x_2) <|
   chk (ltI x_2 (ln out)) <|
   impl_onlyPoints_L3 fu fu1 x x_1 (addI .i64 x_2 1) (setI out x_2 ((rd x x_2 (0, (0, (0, false)))).1)))
   (some out)) := by kernel_rfl
theorem impl_charCuts_L4.eq (l : List T_i) (x : List T_i) (x_1 : Int) (x_2 : Int) (out : List T_b) (picture : Bool) (bind : Bool) (flags : Int) (fu fu1 : Nat) : impl_charCuts_L4 fu (fu1 + 1) l x x_1 x_2 out picture bind flags =
  (brB (ltI x_2 x_1)
   (chk (leI 0 x_2) <|
   chk (ltI x_2 (ln x)) <|
   optB (impl_charClass fu (rd x x_2 0)) fun r0 =>
   brB (ltI 0 x_2)
    (chk (leI 0 (subI .i64 x_2 1)) <|
    chk (ltI (subI .i64 x_2 1) (ln l)) <|
    optB (impl_charClass fu (rd l (subI .i64 x_2 1) 0)) fun r1 =>
    optB (impl_charCuts_1 fu (rd l (subI .i64 x_2 1) 0) (rd x x_2 0) r0 r1 bind picture flags) fun r2 =>
    chk (leI 0 x_2) <|
    chk (ltI x_2 (ln out)) <|
    impl_charCuts_J11 fu fu1 l x x_1 x_2 (setI out x_2 r2.1) r2.2.2.2.2.2.2.1 r2.2.2.2.2.2.1 r2.2.2.2.2.2.2.2 r2.2.2.1 r2.2.2.2.1)
    (impl_charCuts_J11 fu fu1 l x x_1 x_2 out picture bind flags (rd x x_2 0) r0))
   (some out)) := by kernel_rfl
theorem impl_placesOf_L5.eq (n : Int) (cut : List T_b) (x : List T_iiib) (x_1 : Int) (x_2 : Int) (out : List T_i) (fu fu1 : Nat) : impl_placesOf_L5 fu (fu1 + 1) n cut x x_1 x_2 out =
  (brB (ltI x_2 x_1)
   (chk (leI 0 x_2) <|
   chk (ltI x_2 (ln x)) <|
   brB (ltI 0 x_2)
    (chk (leI 0 x_2) <|
    chk (ltI x_2 (ln cut)) <|
    brB (rd cut x_2 false)
     (chk (ltI (mulZ (addZ (ln out) (ln (((rd x x_2 (0, (0, (0, false)))).2).1 :: ([] : List Int)))) 8) 140737488355328) <|
     impl_placesOf_L5 fu fu1 n cut x x_1 (addI .i64 x_2 1) (catL out (((rd x x_2 (0, (0, (0, false)))).2).1 :: ([] : List Int))))
     (impl_placesOf_L5 fu fu1 n cut x x_1 (addI .i64 x_2 1) out))
    (impl_placesOf_L5 fu fu1 n cut x x_1 (addI .i64 x_2 1) out))
   (chk (ltI (mulZ (addZ (ln out) (ln (n :: ([] : List Int)))) 8) 140737488355328) <|
   some (catL out (n :: ([] : List Int))))) := by kernel_rfl
theorem impl_piecesOf_L3'1.eq (text : ByteArray) (cuts : List T_i) (i : Int) (out : List T_s) (fu fu1 : Nat) : impl_piecesOf_L3'1 fu (fu1 + 1) text cuts i out =
  (brB (ltI i (ln cuts))
   (chk (leI 0 (subI .i64 i 1)) <|
   chk (ltI (subI .i64 i 1) (ln cuts)) <|
   chk (leI 0 i) <|
   chk (ltI i (ln cuts)) <|
   chk (leI 0 (rd cuts (subI .i64 i 1) 0)) <|
   chk (leI (rd cuts (subI .i64 i 1) 0) (rd cuts i 0)) <|
   chk (leI (rd cuts i 0) (sz text)) <|
   chk (ltI (mulZ (addZ (ln out) (ln ((subs text (rd cuts (subI .i64 i 1) 0) (rd cuts i 0)) :: ([] : List ByteArray)))) 16) 140737488355328) <|
   impl_piecesOf_L3'1 fu fu1 text cuts (addI .i64 i 1) (catL out ((subs text (rd cuts (subI .i64 i 1) 0) (rd cuts i 0)) :: ([] : List ByteArray))))
   (some out)) := by kernel_rfl
theorem impl_block.eq (p : Int) (fu : Nat) : impl_block (fu + 1) p =
  (brB (leI 512 p)
   (brB (ltI p 1280)
    (some ((andNotI .i64 p 255), (andI .i64 p 255)))
    (some (0, 0)))
   (some (0, 0))) := by kernel_rfl
theorem impl_kind_J14.eq (p : Int) (x : Bool) (fu : Nat) : impl_kind_J14 fu p x =
  (brB x
   (some (1, 0))
   (brB (eqI p 32)
    (impl_kind_J16 fu p true)
    (brB (eqI p 160)
     (impl_kind_J16 fu p true)
     (impl_kind_J16 fu p (eqI p 8064))))) := by unfold impl_kind_J14; rw [joinAt_eq]; kernel_rfl
theorem unicode_utf8_DecodeLastRuneInString_L10.eq (s : ByteArray) (end' : Int) (start : Int) (lim : Int) (fu fu1 : Nat) : unicode_utf8_DecodeLastRuneInString_L10 fu (fu1 + 1) s end' start lim =
  (brB (leI lim start)
   (chk (leI 0 start) <|
   chk (ltI start (sz s)) <|
   optB (unicode_utf8_RuneStart fu (bt s start)) fun r0 =>
   brB r0
    (brB (ltI start 0)
     (unicode_utf8_DecodeLastRuneInString_J15 fu s end' 0)
     (unicode_utf8_DecodeLastRuneInString_J15 fu s end' start))
    (unicode_utf8_DecodeLastRuneInString_L10 fu fu1 s end' (subI .i64 start 1) lim))
   (brB (ltI start 0)
    (unicode_utf8_DecodeLastRuneInString_J15 fu s end' 0)
    (unicode_utf8_DecodeLastRuneInString_J15 fu s end' start))) := by kernel_rfl
theorem strings_ContainsRune.eq (s : ByteArray) (r : Int) (fu : Nat) : strings_ContainsRune (fu + 1) s r =
  (optB (strings_IndexRune fu s r) fun r0 =>
  some (leI 0 r0)) := by kernel_rfl
theorem spec_l22Blanks_L2.eq (n : Int) (out : List T_y) (fu fu1 : Nat) : spec_l22Blanks_L2 fu (fu1 + 1) n out =
  (brB (ltI 0 n)
   (chk (ltI (mulZ (addZ (ln out) (ln (32 :: ([] : List Int)))) 1) 140737488355328) <|
   spec_l22Blanks_L2 fu fu1 (subI .i64 n 1) (catL out (32 :: ([] : List Int))))
   (some (bytesOf out))) := by kernel_rfl
theorem spec_l01Next_L19.eq (t : ByteArray) (at' : Int) (n : Int) (p : Int) (i : Int) (fu fu1 : Nat) : spec_l01Next_L19 fu (fu1 + 1) t at' n p i =
  (brB (leI i n)
   (chk (leI 0 (addI .i64 at' i)) <|
   chk (ltI (addI .i64 at' i) (sz t)) <|
   brB (ltI (wrI .i64 (bt t (addI .i64 at' i))) 128)
    (some (65533, (1, false)))
    (brB (ltI 191 (wrI .i64 (bt t (addI .i64 at' i))))
     (some (65533, (1, false)))
     (chk (notB (eqI 64 0)) <|
     spec_l01Next_L19 fu fu1 t at' n (addI .i64 (mulI .i64 p 64) (remI (wrI .i64 (bt t (addI .i64 at' i))) 64)) (addI .i64 i 1))))
   (optB (spec_l01IsPoint fu p) fun r0 =>
   brB (notB r0)
    (some (65533, (1, false)))
    (optB (spec_l01Write fu p) fun r1 =>
    brB (notB (eqI (sz r1) (addI .i64 n 1)))
     (some (65533, (1, false)))
     (some (p, ((addI .i64 n 1), true)))))) := by kernel_rfl
theorem spec_l07Control.eq (p : Int) (fu : Nat) : spec_l07Control (fu + 1) p =
  (optB (spec_l01Cat fu p) fun r0 =>
  brB (eqI r0 1)
   (some true)
   (some (eqI p 7954))) := by kernel_rfl
theorem spec_l07Char_J6.eq (l : List T_i) (i : Int) (left : Int) (right : Int) (x : Bool) (fu : Nat) : spec_l07Char_J6 fu l i left right x =
  (brB x
   (some true)
   (optB (spec_l07Syllable fu left right) fun r0 =>
   brB r0
    (some false)
    (optB (spec_l07Mark fu right) fun r1 =>
    brB r1
     (some false)
     (brB (leI 1536 right)
      (brB (leI right 1567)
       (optB (spec_l07Bound fu l (subI .i64 i 1)) fun r2 =>
       spec_l07Char_J10 fu l i left right r2)
       (spec_l07Char_J10 fu l i left right false))
      (spec_l07Char_J10 fu l i left right false))))) := by unfold spec_l07Char_J6; rw [joinAt_eq]; kernel_rfl
theorem spec_l01Cased.eq (fu : Nat) : spec_l01Cased (fu + 1) =
  (some ((0, (31, (4, 0))) :: ((32, (63, (5, 0))) :: ((64, (67, (4, 0))) :: ((68, (71, (6, 0))) :: ((72, (75, (5, 0))) :: ((80, (89, (8, 0))) :: ((96, (97, (5, 0))) :: ([] : List (Int × Int × Int × Int)))))))))) := by kernel_rfl
theorem spec_l01Known_L4.eq (p : Int) (i : Int) (rows : List T_iiii) (fu fu1 : Nat) : spec_l01Known_L4 fu (fu1 + 1) p i rows =
  (brB (ltI i (ln rows))
   (chk (notB (eqI 256 0)) <|
   chk (leI 0 i) <|
   chk (ltI i (ln rows)) <|
   brB (leI ((rd rows i (0, (0, (0, 0)))).1) (remI p 256))
    (chk (notB (eqI 256 0)) <|
    chk (leI 0 i) <|
    chk (ltI i (ln rows)) <|
    brB (leI (remI p 256) (((rd rows i (0, (0, (0, 0)))).2).1))
     (chk (leI 0 i) <|
     chk (ltI i (ln rows)) <|
     chk (notB (eqI 256 0)) <|
     some ((((rd rows i (0, (0, (0, 0)))).2).2).1, (quoI .i64 p 256)))
     (spec_l01Known_L4 fu fu1 p (addI .i64 i 1) rows))
    (spec_l01Known_L4 fu fu1 p (addI .i64 i 1) rows))
   (some (0, 0))) := by kernel_rfl
theorem spec_l01Rows.eq (fu : Nat) : spec_l01Rows (fu + 1) =
  (some ((0, (31, (1, 0))) :: ((32, (32, (2, 0))) :: ((48, (57, (8, 0))) :: ((65, (90, (4, 1))) :: ((97, (122, (5, 1))) :: ((33, (126, (9, 0))) :: ((127, (159, (1, 0))) :: ((160, (160, (2, 0))) :: ((173, (173, (11, 0))) :: ((161, (191, (10, 0))) :: ((1280, (1311, (7, 5))) :: ((1360, (1369, (8, 5))) :: ((1536, (1567, (7, 6))) :: ((1568, (1579, (3, 6))) :: ((1584, (1585, (3, 6))) :: ((1616, (1625, (8, 6))) :: ((1792, (1810, (7, 7))) :: ((1824, (1844, (7, 7))) :: ((1857, (1883, (7, 7))) :: ((2048, (2095, (7, 8))) :: ((4096, (4159, (3, 0))) :: ((7680, (7748, (10, 0))) :: ((7760, (7785, (10, 0))) :: ((7936, (7947, (11, 0))) :: ((7953, (7954, (11, 0))) :: ((8064, (8064, (2, 0))) :: ((9728, (9753, (4, 1))) :: ((9984, (10009, (10, 0))) :: ((10016, (10025, (8, 0))) :: ((10032, (10035, (10, 0))) :: ((12288, (23459, (7, 7))) :: ((24576, (26623, (7, 9))) :: ([] : List (Int × Int × Int × Int))))))))))))))))))))))))))))))))))) := by kernel_rfl
theorem spec_l01Known_L18.eq (p : Int) (i : Int) (rows : List T_iiii) (fu fu1 : Nat) : spec_l01Known_L18 fu (fu1 + 1) p i rows =
  (brB (ltI i (ln rows))
   (chk (leI 0 i) <|
   chk (ltI i (ln rows)) <|
   brB (leI ((rd rows i (0, (0, (0, 0)))).1) p)
    (chk (leI 0 i) <|
    chk (ltI i (ln rows)) <|
    brB (leI p (((rd rows i (0, (0, (0, 0)))).2).1))
     (chk (leI 0 i) <|
     chk (ltI i (ln rows)) <|
     chk (leI 0 i) <|
     chk (ltI i (ln rows)) <|
     some ((((rd rows i (0, (0, (0, 0)))).2).2).1, (((rd rows i (0, (0, (0, 0)))).2).2).2))
     (spec_l01Known_L18 fu fu1 p (addI .i64 i 1) rows))
    (spec_l01Known_L18 fu fu1 p (addI .i64 i 1) rows))
   (some (0, 0))) := by kernel_rfl
theorem impl_charClass.eq (p : Int) (fu : Nat) : impl_charClass (fu + 1) p =
  (optB (impl_Category fu p) fun r0 =>
  brB (eqI r0 1)
   (impl_charClass_J2 fu p true)
   (impl_charClass_J2 fu p (eqI p 7954))) := by kernel_rfl
theorem impl_charCuts_1.eq (x : Int) (x_1 : Int) (x_2 : Int) (x_3 : Int) (x_4 : Bool) (x_5 : Bool) (x_6 : Int) (fu : Nat) : impl_charCuts_1 (fu + 1) x x_1 x_2 x_3 x_4 x_5 x_6 =
  (brB (eqI x 13)
   (impl_charCuts_1_J2 fu (eqI x_1 10) x x_1 x_2 x_3 x_4 x_5 x_6)
   (impl_charCuts_1_J2 fu false x x_1 x_2 x_3 x_4 x_5 x_6)) := by kernel_rfl
theorem impl_charCuts_J11.eq (l : List T_i) (x : List T_i) (x_1 : Int) (x_2 : Int) (out : List T_b) (picture : Bool) (bind : Bool) (flags : Int) (p : Int) (c : Int) (fu fu1 : Nat) : impl_charCuts_J11 fu fu1 l x x_1 x_2 out picture bind flags p c =
  (brB (notB (eqI c 2))
   (impl_charCuts_J13 fu fu1 l x x_1 x_2 out (eqI c 8) bind flags p c)
   (impl_charCuts_J13 fu fu1 l x x_1 x_2 out picture bind flags p c)) := by unfold impl_charCuts_J11; rw [joinAt_eq]; kernel_rfl
theorem impl_kind_J16.eq (p : Int) (x : Bool) (fu : Nat) : impl_kind_J16 fu p x =
  (brB x
   (some (2, 0))
   (optB (impl_in fu p 48 57) fun r0 =>
   brB r0
    (some (8, 0))
    (optB (impl_in fu p 65 90) fun r1 =>
    brB r1
     (some (4, 1))
     (optB (impl_in fu p 97 122) fun r2 =>
     brB r2
      (some (5, 1))
      (optB (impl_in fu p 33 126) fun r3 =>
      brB r3
       (some (9, 0))
       (brB (eqI p 173)
        (some (11, 0))
        (optB (impl_in fu p 161 191) fun r4 =>
        brB r4
         (some (10, 0))
         (optB (impl_in fu p 1280 1311) fun r5 =>
         brB r5
          (some (7, 5))
          (optB (impl_in fu p 1360 1369) fun r6 =>
          brB r6
           (some (8, 5))
           (optB (impl_in fu p 1536 1567) fun r7 =>
           brB r7
            (some (7, 6))
            (optB (impl_in fu p 1568 1579) fun r8 =>
            brB r8
             (impl_kind_J36 fu p true)
             (brB (eqI p 1584)
              (impl_kind_J36 fu p true)
              (impl_kind_J36 fu p (eqI p 1585)))))))))))))) := by unfold impl_kind_J16; rw [joinAt_eq]; kernel_rfl
theorem unicode_utf8_RuneStart.eq (b : Int) (fu : Nat) : unicode_utf8_RuneStart (fu + 1) b =
  (some (notB (eqI (andI .u8 b 192) 128))) := by kernel_rfl
theorem unicode_utf8_DecodeLastRuneInString_J15.eq (s : ByteArray) (end' : Int) (start : Int) (fu : Nat) : unicode_utf8_DecodeLastRuneInString_J15 fu s end' start =
  (chk (leI 0 start) <|
  chk (leI start end') <|
  chk (leI end' (sz s)) <|
  optB (unicode_utf8_DecodeRuneInString fu (subs s start end')) fun r0 =>
  brB (notB (eqI (addI .i64 start r0.2) end'))
   (some (65533, 1))
   (some (r0.1, r0.2))) := by unfold unicode_utf8_DecodeLastRuneInString_J15; rw [joinAt_eq]; kernel_rfl
theorem strings_IndexRune.eq (s : ByteArray) (r : Int) (fu : Nat) : strings_IndexRune (fu + 1) s r =
  (brB (leI 0 r)
   (brB (ltI r 128)
    (optB (strings_IndexByte fu s (wrI .u8 r)) fun r0 =>
    some r0)
    (brB (eqI r 65533)
     (none)
     (optB (unicode_utf8_ValidRune fu r) fun r0 =>
     brB (notB r0)
      (some (-1))
      (none))))
   (brB (eqI r 65533)
    (none)
    (optB (unicode_utf8_ValidRune fu r) fun r0 =>
    brB (notB r0)
     (some (-1))
     (none)))) := by kernel_rfl
theorem spec_l07Syllable.eq (a : Int) (b : Int) (fu : Nat) : spec_l07Syllable (fu + 1) a b =
  (optB (spec_l07Part fu a) fun r0 =>
  optB (spec_l07Part fu b) fun r1 =>
  brB (eqI r0 1)
   (brB (eqI r1 1)
    (some true)
    (brB (eqI r1 2)
     (some true)
     (brB (eqI r1 4)
      (some true)
      (some (eqI r1 5)))))
   (brB (eqI r0 2)
    (spec_l07Syllable_J8 fu r1 r0 (eqI r0 2))
    (spec_l07Syllable_J8 fu r1 r0 (eqI r0 4)))) := by kernel_rfl
theorem spec_l07Mark.eq (p : Int) (fu : Nat) : spec_l07Mark (fu + 1) p =
  (optB (spec_l01Cat fu p) fun r0 =>
  brB (eqI r0 3)
   (some true)
   (brB (eqI p 7936)
    (some true)
    (brB (leI 7744 p)
     (some (leI p 7748))
     (some false)))) := by kernel_rfl
theorem spec_l07Bound.eq (l : List T_i) (at' : Int) (fu : Nat) : spec_l07Bound (fu + 1) l at' =
  (spec_l07Bound_L1 fu fu l at') := by kernel_rfl
theorem spec_l07Char_J10.eq (l : List T_i) (i : Int) (left : Int) (right : Int) (x : Bool) (fu : Nat) : spec_l07Char_J10 fu l i left right x =
  (brB x
   (some false)
   (brB (eqI left 7936)
    (optB (spec_l07Picture fu right) fun r0 =>
    brB r0
     (spec_l07Char_L13 fu fu l (subI .i64 i 2))
     (optB (spec_l07Flag fu left) fun r1 =>
     brB r1
      (optB (spec_l07Flag fu right) fun r2 =>
      brB r2
       (optB (spec_l07Flags fu l (subI .i64 i 1)) fun r3 =>
       chk (notB (eqI 2 0)) <|
       some (eqI (remI r3 2) 0))
       (spec_l07Char_J18 fu))
      (spec_l07Char_J18 fu)))
    (optB (spec_l07Flag fu left) fun r0 =>
    brB r0
     (optB (spec_l07Flag fu right) fun r1 =>
     brB r1
      (optB (spec_l07Flags fu l (subI .i64 i 1)) fun r2 =>
      chk (notB (eqI 2 0)) <|
      some (eqI (remI r2 2) 0))
      (spec_l07Char_J18 fu))
     (spec_l07Char_J18 fu)))) := by unfold spec_l07Char_J10; rw [joinAt_eq]; kernel_rfl
theorem impl_charClass_J2.eq (p : Int) (x : Bool) (fu : Nat) : impl_charClass_J2 fu p x =
  (brB x
   (some 1)
   (optB (impl_isMark fu p) fun r0 =>
   brB r0
    (impl_charClass_J4 fu p true)
    (brB (eqI p 7936)
     (impl_charClass_J4 fu p true)
     (optB (impl_in fu p 7744 7748) fun r1 =>
     impl_charClass_J4 fu p r1)))) := by unfold impl_charClass_J2; rw [joinAt_eq]; kernel_rfl
theorem impl_charCuts_1_J2.eq (x : Bool) (x_1 : Int) (x_2 : Int) (x_3 : Int) (x_4 : Int) (x_5 : Bool) (x_6 : Bool) (x_7 : Int) (fu : Nat) : impl_charCuts_1_J2 fu x x_1 x_2 x_3 x_4 x_5 x_6 x_7 =
  (brB x
   (some (false, (x_1, (x_2, (x_3, (x_4, (x_5, (x_6, x_7))))))))
   (brB (eqI x_3 1)
    (impl_charCuts_1_J4 fu true x_1 x_2 x_3 x_4 x_5 x_6 x_7)
    (impl_charCuts_1_J4 fu (eqI x_4 1) x_1 x_2 x_3 x_4 x_5 x_6 x_7))) := by unfold impl_charCuts_1_J2; rw [joinAt_eq]; kernel_rfl
theorem impl_charCuts_J13.eq (l : List T_i) (x : List T_i) (x_1 : Int) (x_2 : Int) (out : List T_b) (picture : Bool) (bind : Bool) (flags : Int) (p : Int) (c : Int) (fu fu1 : Nat) : impl_charCuts_J13 fu fu1 l x x_1 x_2 out picture bind flags p c =
  (brB (eqI p 1584)
   (brB (eqI c 9)
    (impl_charCuts_J17 fu fu1 l x x_1 x_2 out picture true (addI .i64 flags 1))
    (impl_charCuts_J17 fu fu1 l x x_1 x_2 out picture true 0))
   (brB (eqI p 1585)
    (brB (eqI c 9)
     (impl_charCuts_J17 fu fu1 l x x_1 x_2 out picture bind (addI .i64 flags 1))
     (impl_charCuts_J17 fu fu1 l x x_1 x_2 out picture bind 0))
    (brB (eqI c 9)
     (impl_charCuts_J17 fu fu1 l x x_1 x_2 out picture false (addI .i64 flags 1))
     (impl_charCuts_J17 fu fu1 l x x_1 x_2 out picture false 0)))) := by unfold impl_charCuts_J13; rw [joinAt_eq]; kernel_rfl
theorem impl_kind_J36.eq (p : Int) (x : Bool) (fu : Nat) : impl_kind_J36 fu p x =
  (brB x
   (some (3, 6))
   (optB (impl_in fu p 1616 1625) fun r0 =>
   brB r0
    (some (8, 6))
    (optB (impl_in fu p 1792 1810) fun r1 =>
    brB r1
     (impl_kind_J40 fu p true)
     (optB (impl_in fu p 1824 1844) fun r2 =>
     brB r2
      (impl_kind_J40 fu p true)
      (optB (impl_in fu p 1857 1883) fun r3 =>
      brB r3
       (impl_kind_J40 fu p true)
       (optB (impl_in fu p 12288 23459) fun r4 =>
       impl_kind_J40 fu p r4)))))) := by unfold impl_kind_J36; rw [joinAt_eq]; kernel_rfl
theorem strings_IndexByte.eq (s : ByteArray) (c : Int) (fu : Nat) : strings_IndexByte (fu + 1) s c =
  (optB (internal_stringslite_IndexByte fu s c) fun r0 =>
  some r0) := by kernel_rfl
theorem unicode_utf8_ValidRune.eq (r : Int) (fu : Nat) : unicode_utf8_ValidRune (fu + 1) r =
  (brB (leI 0 r)
   (brB (ltI r 55296)
    (some true)
    (brB (ltI 57343 r)
     (brB (leI r 1114111)
      (some true)
      (some false))
     (some false)))
   (brB (ltI 57343 r)
    (brB (leI r 1114111)
     (some true)
     (some false))
    (some false))) := by kernel_rfl
theorem spec_l07Part.eq (p : Int) (fu : Nat) : spec_l07Part (fu + 1) p =
  (brB (leI 1792 p)
   (brB (leI p 1810)
    (some 1)
    (brB (leI 1824 p)
     (brB (leI p 1844)
      (some 2)
      (brB (leI 1857 p)
       (brB (leI p 1883)
        (some 3)
        (brB (leI 12288 p)
         (brB (leI p 23459)
          (chk (notB (eqI 28 0)) <|
          brB (eqI (remI (subI .i64 p 12288) 28) 0)
           (some 4)
           (brB (leI 12288 p)
            (brB (leI p 23459)
             (some 5)
             (spec_l07Part_J11 fu))
            (spec_l07Part_J11 fu)))
          (brB (leI 12288 p)
           (brB (leI p 23459)
            (some 5)
            (spec_l07Part_J11 fu))
           (spec_l07Part_J11 fu)))
         (brB (leI 12288 p)
          (brB (leI p 23459)
           (some 5)
           (spec_l07Part_J11 fu))
          (spec_l07Part_J11 fu))))
       (brB (leI 12288 p)
        (brB (leI p 23459)
         (chk (notB (eqI 28 0)) <|
         brB (eqI (remI (subI .i64 p 12288) 28) 0)
          (some 4)
          (brB (leI 12288 p)
           (brB (leI p 23459)
            (some 5)
            (spec_l07Part_J11 fu))
           (spec_l07Part_J11 fu)))
         (brB (leI 12288 p)
          (brB (leI p 23459)
           (some 5)
           (spec_l07Part_J11 fu))
          (spec_l07Part_J11 fu)))
        (brB (leI 12288 p)
         (brB (leI p 23459)
          (some 5)
          (spec_l07Part_J11 fu))
         (spec_l07Part_J11 fu)))))
     (brB (leI 1857 p)
      (brB (leI p 1883)
       (some 3)
       (brB (leI 12288 p)
        (brB (leI p 23459)
         (chk (notB (eqI 28 0)) <|
         brB (eqI (remI (subI .i64 p 12288) 28) 0)
          (some 4)
          (brB (leI 12288 p)
           (brB (leI p 23459)
            (some 5)
            (spec_l07Part_J11 fu))
           (spec_l07Part_J11 fu)))
         (brB (leI 12288 p)
          (brB (leI p 23459)
           (some 5)
           (spec_l07Part_J11 fu))
          (spec_l07Part_J11 fu)))
        (brB (leI 12288 p)
         (brB (leI p 23459)
          (some 5)
          (spec_l07Part_J11 fu))
         (spec_l07Part_J11 fu))))
      (brB (leI 12288 p)
       (brB (leI p 23459)
        (chk (notB (eqI 28 0)) <|
        brB (eqI (remI (subI .i64 p 12288) 28) 0)
         (some 4)
         (brB (leI 12288 p)
          (brB (leI p 23459)
           (some 5)
           (spec_l07Part_J11 fu))
          (spec_l07Part_J11 fu)))
        (brB (leI 12288 p)
         (brB (leI p 23459)
          (some 5)
          (spec_l07Part_J11 fu))
         (spec_l07Part_J11 fu)))
       (brB (leI 12288 p)
        (brB (leI p 23459)
         (some 5)
         (spec_l07Part_J11 fu))
        (spec_l07Part_J11 fu))))))
   (brB (leI 1824 p)
    (brB (leI p 1844)
     (some 2)
     (brB (leI 1857 p)
      (brB (leI p 1883)
       (some 3)
       (brB (leI 12288 p)
        (brB (leI p 23459)
         (chk (notB (eqI 28 0)) <|
         brB (eqI (remI (subI .i64 p 12288) 28) 0)
          (some 4)
          (brB (leI 12288 p)
           (brB (leI p 23459)
            (some 5)
            (spec_l07Part_J11 fu))
           (spec_l07Part_J11 fu)))
         (brB (leI 12288 p)
          (brB (leI p 23459)
           (some 5)
           (spec_l07Part_J11 fu))
          (spec_l07Part_J11 fu)))
        (brB (leI 12288 p)
         (brB (leI p 23459)
          (some 5)
          (spec_l07Part_J11 fu))
         (spec_l07Part_J11 fu))))
      (brB (leI 12288 p)
       (brB (leI p 23459)
        (chk (notB (eqI 28 0)) <|
        brB (eqI (remI (subI .i64 p 12288) 28) 0)
         (some 4)
         (brB (leI 12288 p)
          (brB (leI p 23459)
           (some 5)
           (spec_l07Part_J11 fu))
          (spec_l07Part_J11 fu)))
        (brB (leI 12288 p)
         (brB (leI p 23459)
          (some 5)
          (spec_l07Part_J11 fu))
         (spec_l07Part_J11 fu)))
       (brB (leI 12288 p)
        (brB (leI p 23459)
         (some 5)
         (spec_l07Part_J11 fu))
        (spec_l07Part_J11 fu)))))
    (brB (leI 1857 p)
     (brB (leI p 1883)
      (some 3)
      (brB (leI 12288 p)
       (brB (leI p 23459)
        (chk (notB (eqI 28 0)) <|
        brB (eqI (remI (subI .i64 p 12288) 28) 0)
         (some 4)
         (brB (leI 12288 p)
          (brB (leI p 23459)
           (some 5)
           (spec_l07Part_J11 fu))
          (spec_l07Part_J11 fu)))
        (brB (leI 12288 p)
         (brB (leI p 23459)
          (some 5)
          (spec_l07Part_J11 fu))
         (spec_l07Part_J11 fu)))
       (brB (leI 12288 p)
        (brB (leI p 23459)
         (some 5)
         (spec_l07Part_J11 fu))
        (spec_l07Part_J11 fu))))
     (brB (leI 12288 p)
      (brB (leI p 23459)
       (chk (notB (eqI 28 0)) <|
       brB (eqI (remI (subI .i64 p 12288) 28) 0)
        (some 4)
        (brB (leI 12288 p)
         (brB (leI p 23459)
          (some 5)
          (spec_l07Part_J11 fu))
         (spec_l07Part_J11 fu)))
       (brB (leI 12288 p)
        (brB (leI p 23459)
         (some 5)
         (spec_l07Part_J11 fu))
        (spec_l07Part_J11 fu)))
      (brB (leI 12288 p)
       (brB (leI p 23459)
        (some 5)
        (spec_l07Part_J11 fu))
       (spec_l07Part_J11 fu)))))) := by kernel_rfl
theorem spec_l07Syllable_J8.eq (y : Int) (x : Int) (x_1 : Bool) (fu : Nat) : spec_l07Syllable_J8 fu y x x_1 =
  (brB x_1
   (brB (eqI y 2)
    (some true)
    (some (eqI y 3)))
   (brB (eqI x 3)
    (brB (eqI x 3)
     (some (eqI y 3))
     (some false))
    (brB (eqI x 5)
     (some (eqI y 3))
     (some false)))) := by unfold spec_l07Syllable_J8; rw [joinAt_eq]; kernel_rfl
theorem spec_l07Bound_L1.eq (l : List T_i) (at' : Int) (fu fu1 : Nat) : spec_l07Bound_L1 fu (fu1 + 1) l at' =
  (brB (ltI 0 at')
   (chk (leI 0 at') <|
   chk (ltI at' (ln l)) <|
   brB (eqI (rd l at' 0) 1585)
    (spec_l07Bound_L1 fu fu1 l (subI .i64 at' 1))
    (chk (leI 0 at') <|
    chk (ltI at' (ln l)) <|
    some (eqI (rd l at' 0) 1584)))
   (chk (leI 0 at') <|
   chk (ltI at' (ln l)) <|
   some (eqI (rd l at' 0) 1584))) := by kernel_rfl
theorem spec_l07Char_L13.eq (l : List T_i) (k : Int) (fu fu1 : Nat) : spec_l07Char_L13 fu (fu1 + 1) l k =
  (brB (leI 0 k)
   (chk (leI 0 k) <|
   chk (ltI k (ln l)) <|
   optB (spec_l07Mark fu (rd l k 0)) fun r0 =>
   brB r0
    (spec_l07Char_L13 fu fu1 l (subI .i64 k 1))
    (brB (ltI k 0)
     (some true)
     (chk (leI 0 k) <|
     chk (ltI k (ln l)) <|
     optB (spec_l07Picture fu (rd l k 0)) fun r1 =>
     some (notB r1))))
   (brB (ltI k 0)
    (some true)
    (chk (leI 0 k) <|
    chk (ltI k (ln l)) <|
    optB (spec_l07Picture fu (rd l k 0)) fun r0 =>
    some (notB r0)))) := by kernel_rfl
theorem spec_l07Flag.eq (p : Int) (fu : Nat) : spec_l07Flag (fu + 1) p =
  (brB (leI 7760 p)
   (some (leI p 7785))
   (some false)) := by kernel_rfl
theorem spec_l07Flags.eq (l : List T_i) (at' : Int) (fu : Nat) : spec_l07Flags (fu + 1) l at' =
  (spec_l07Flags_L2 fu fu l at' 0) := by kernel_rfl
theorem spec_l07Char_J18.eq (fu : Nat) : spec_l07Char_J18 fu =
  (some true) := by unfold spec_l07Char_J18; rw [joinAt_eq]; kernel_rfl
theorem impl_isMark.eq (p : Int) (fu : Nat) : impl_isMark (fu + 1) p =
  (optB (impl_Category fu p) fun r0 =>
  some (eqI r0 3)) := by kernel_rfl
theorem impl_charClass_J4.eq (p : Int) (x : Bool) (fu : Nat) : impl_charClass_J4 fu p x =
  (brB x
   (some 2)
   (optB (impl_in fu p 1792 1810) fun r0 =>
   brB r0
    (some 3)
    (optB (impl_in fu p 1824 1844) fun r1 =>
    brB r1
     (some 4)
     (optB (impl_in fu p 1857 1883) fun r2 =>
     brB r2
      (some 5)
      (optB (impl_isOpen fu p) fun r3 =>
      brB r3
       (some 6)
       (optB (impl_isSyllable fu p) fun r4 =>
       brB r4
        (some 7)
        (optB (impl_isPicture fu p) fun r5 =>
        brB r5
         (some 8)
         (optB (impl_in fu p 7760 7785) fun r6 =>
         brB r6
          (some 9)
          (some 0))))))))) := by unfold impl_charClass_J4; rw [joinAt_eq]; kernel_rfl
theorem impl_charCuts_1_J4.eq (x : Bool) (x_1 : Int) (x_2 : Int) (x_3 : Int) (x_4 : Int) (x_5 : Bool) (x_6 : Bool) (x_7 : Int) (fu : Nat) : impl_charCuts_1_J4 fu x x_1 x_2 x_3 x_4 x_5 x_6 x_7 =
  (brB x
   (some (true, (x_1, (x_2, (x_3, (x_4, (x_5, (x_6, x_7))))))))
   (brB (eqI x_4 3)
    (brB (eqI x_3 3)
     (impl_charCuts_1_J6 fu true x_1 x_2 x_3 x_4 x_5 x_6 x_7)
     (brB (eqI x_3 4)
      (impl_charCuts_1_J6 fu true x_1 x_2 x_3 x_4 x_5 x_6 x_7)
      (brB (eqI x_3 6)
       (impl_charCuts_1_J6 fu true x_1 x_2 x_3 x_4 x_5 x_6 x_7)
       (impl_charCuts_1_J6 fu (eqI x_3 7) x_1 x_2 x_3 x_4 x_5 x_6 x_7))))
    (impl_charCuts_1_J6 fu false x_1 x_2 x_3 x_4 x_5 x_6 x_7))) := by unfold impl_charCuts_1_J4; rw [joinAt_eq]; kernel_rfl
theorem impl_charCuts_J17.eq (l : List T_i) (x : List T_i) (x_1 : Int) (x_2 : Int) (out : List T_b) (picture : Bool) (bind : Bool) (flags : Int) (fu fu1 : Nat) : impl_charCuts_J17 fu fu1 l x x_1 x_2 out picture bind flags =
  (impl_charCuts_L4 fu fu1 l x x_1 (addI .i64 x_2 1) out picture bind flags) := by unfold impl_charCuts_J17; rw [joinAt_eq]; kernel_rfl
theorem impl_kind_J40.eq (p : Int) (x : Bool) (fu : Nat) : impl_kind_J40 fu p x =
  (brB x
   (some (7, 7))
   (optB (impl_in fu p 2048 2095) fun r0 =>
   brB r0
    (some (7, 8))
    (optB (impl_in fu p 4096 4159) fun r1 =>
    brB r1
     (some (3, 0))
     (optB (impl_in fu p 7680 7748) fun r2 =>
     brB r2
      (impl_kind_J46 fu p true)
      (optB (impl_in fu p 7760 7785) fun r3 =>
      impl_kind_J46 fu p r3))))) := by unfold impl_kind_J40; rw [joinAt_eq]; kernel_rfl
theorem internal_stringslite_IndexByte.eq (s : ByteArray) (c : Int) (fu : Nat) : internal_stringslite_IndexByte (fu + 1) s c =
  (optB (internal_bytealg_IndexByteString fu s c) fun r0 =>
  some r0) := by kernel_rfl
theorem spec_l07Part_J11.eq (fu : Nat) : spec_l07Part_J11 fu =
  (some 0) := by unfold spec_l07Part_J11; rw [joinAt_eq]; kernel_rfl
theorem spec_l07Flags_L2.eq (l : List T_i) (at' : Int) (n : Int) (fu fu1 : Nat) : spec_l07Flags_L2 fu (fu1 + 1) l at' n =
  (brB (leI 0 (subI .i64 at' n))
   (chk (leI 0 (subI .i64 at' n)) <|
   chk (ltI (subI .i64 at' n) (ln l)) <|
   optB (spec_l07Flag fu (rd l (subI .i64 at' n) 0)) fun r0 =>
   brB r0
    (spec_l07Flags_L2 fu fu1 l at' (addI .i64 n 1))
    (some n))
   (some n)) := by kernel_rfl
theorem impl_isOpen.eq (p : Int) (fu : Nat) : impl_isOpen (fu + 1) p =
  (optB (impl_isSyllable fu p) fun r0 =>
  brB r0
   (chk (notB (eqI 28 0)) <|
   some (eqI (remI (subI .i64 p 12288) 28) 0))
   (some false)) := by kernel_rfl
theorem impl_charCuts_1_J6.eq (x : Bool) (x_1 : Int) (x_2 : Int) (x_3 : Int) (x_4 : Int) (x_5 : Bool) (x_6 : Bool) (x_7 : Int) (fu : Nat) : impl_charCuts_1_J6 fu x x_1 x_2 x_3 x_4 x_5 x_6 x_7 =
  (brB x
   (some (false, (x_1, (x_2, (x_3, (x_4, (x_5, (x_6, x_7))))))))
   (brB (eqI x_4 4)
    (brB (eqI x_3 4)
     (impl_charCuts_1_J8 fu true x_1 x_2 x_3 x_4 x_5 x_6 x_7)
     (impl_charCuts_1_J8 fu (eqI x_3 5) x_1 x_2 x_3 x_4 x_5 x_6 x_7))
    (brB (eqI x_4 6)
     (brB (eqI x_3 4)
      (impl_charCuts_1_J8 fu true x_1 x_2 x_3 x_4 x_5 x_6 x_7)
      (impl_charCuts_1_J8 fu (eqI x_3 5) x_1 x_2 x_3 x_4 x_5 x_6 x_7))
     (impl_charCuts_1_J8 fu false x_1 x_2 x_3 x_4 x_5 x_6 x_7)))) := by unfold impl_charCuts_1_J6; rw [joinAt_eq]; kernel_rfl
theorem impl_kind_J46.eq (p : Int) (x : Bool) (fu : Nat) : impl_kind_J46 fu p x =
  (brB x
   (some (10, 0))
   (optB (impl_in fu p 7936 7947) fun r0 =>
   brB r0
    (impl_kind_J48 fu p true)
    (brB (eqI p 7953)
     (impl_kind_J48 fu p true)
     (impl_kind_J48 fu p (eqI p 7954))))) := by unfold impl_kind_J46; rw [joinAt_eq]; kernel_rfl
theorem impl_charCuts_1_J8.eq (x : Bool) (x_1 : Int) (x_2 : Int) (x_3 : Int) (x_4 : Int) (x_5 : Bool) (x_6 : Bool) (x_7 : Int) (fu : Nat) : impl_charCuts_1_J8 fu x x_1 x_2 x_3 x_4 x_5 x_6 x_7 =
  (brB x
   (some (false, (x_1, (x_2, (x_3, (x_4, (x_5, (x_6, x_7))))))))
   (brB (eqI x_4 5)
    (impl_charCuts_1_J10 fu (eqI x_3 5) x_1 x_2 x_3 x_4 x_5 x_6 x_7)
    (brB (eqI x_4 7)
     (impl_charCuts_1_J10 fu (eqI x_3 5) x_1 x_2 x_3 x_4 x_5 x_6 x_7)
     (impl_charCuts_1_J10 fu false x_1 x_2 x_3 x_4 x_5 x_6 x_7)))) := by unfold impl_charCuts_1_J8; rw [joinAt_eq]; kernel_rfl
theorem impl_kind_J48.eq (p : Int) (x : Bool) (fu : Nat) : impl_kind_J48 fu p x =
  (brB x
   (some (11, 0))
   (optB (impl_in fu p 8192 9631) fun r0 =>
   brB r0
    (chk (notB (eqI 512 0)) <|
    brB (ltI (remI (subI .i64 p 8192) 512) 416)
     (chk (notB (eqI 512 0)) <|
     brB (ltI (remI (subI .i64 p 8192) 512) 208)
      (some (4, 1))
      (some (5, 1)))
     (optB (impl_in fu p 9728 9753) fun r1 =>
     brB r1
      (some (4, 1))
      (optB (impl_in fu p 9984 10009) fun r2 =>
      brB r2
       (some (10, 0))
       (optB (impl_in fu p 10032 10035) fun r3 =>
       brB r3
        (some (10, 0))
        (optB (impl_in fu p 10016 10025) fun r4 =>
        brB r4
         (some (8, 0))
         (optB (impl_in fu p 24576 26623) fun r5 =>
         brB r5
          (some (7, 9))
          (impl_kind_J61 fu)))))))
    (optB (impl_in fu p 9728 9753) fun r1 =>
    brB r1
     (some (4, 1))
     (optB (impl_in fu p 9984 10009) fun r2 =>
     brB r2
      (some (10, 0))
      (optB (impl_in fu p 10032 10035) fun r3 =>
      brB r3
       (some (10, 0))
       (optB (impl_in fu p 10016 10025) fun r4 =>
       brB r4
        (some (8, 0))
        (optB (impl_in fu p 24576 26623) fun r5 =>
        brB r5
         (some (7, 9))
         (impl_kind_J61 fu)))))))) := by unfold impl_kind_J48; rw [joinAt_eq]; kernel_rfl
theorem impl_charCuts_1_J10.eq (x : Bool) (x_1 : Int) (x_2 : Int) (x_3 : Int) (x_4 : Int) (x_5 : Bool) (x_6 : Bool) (x_7 : Int) (fu : Nat) : impl_charCuts_1_J10 fu x x_1 x_2 x_3 x_4 x_5 x_6 x_7 =
  (brB x
   (some (false, (x_1, (x_2, (x_3, (x_4, (x_5, (x_6, x_7))))))))
   (brB (eqI x_3 2)
    (some (false, (x_1, (x_2, (x_3, (x_4, (x_5, (x_6, x_7))))))))
    (optB (impl_in fu x_2 1536 1567) fun r0 =>
    brB r0
     (brB x_5
      (some (false, (x_1, (x_2, (x_3, (x_4, (x_5, (x_6, x_7))))))))
      (brB (eqI x_1 7936)
       (brB (eqI x_3 8)
        (brB x_6
         (some (false, (x_1, (x_2, (x_3, (x_4, (x_5, (x_6, x_7))))))))
         (brB (eqI x_3 9)
          (brB (eqI x_4 9)
           (chk (notB (eqI 2 0)) <|
           brB (eqI (remI x_7 2) 1)
            (some (false, (x_1, (x_2, (x_3, (x_4, (x_5, (x_6, x_7))))))))
            (impl_charCuts_1_J19 fu x_1 x_2 x_3 x_4 x_5 x_6 x_7))
           (impl_charCuts_1_J19 fu x_1 x_2 x_3 x_4 x_5 x_6 x_7))
          (impl_charCuts_1_J19 fu x_1 x_2 x_3 x_4 x_5 x_6 x_7)))
        (brB (eqI x_3 9)
         (brB (eqI x_4 9)
          (chk (notB (eqI 2 0)) <|
          brB (eqI (remI x_7 2) 1)
           (some (false, (x_1, (x_2, (x_3, (x_4, (x_5, (x_6, x_7))))))))
           (impl_charCuts_1_J19 fu x_1 x_2 x_3 x_4 x_5 x_6 x_7))
          (impl_charCuts_1_J19 fu x_1 x_2 x_3 x_4 x_5 x_6 x_7))
         (impl_charCuts_1_J19 fu x_1 x_2 x_3 x_4 x_5 x_6 x_7)))
       (brB (eqI x_3 9)
        (brB (eqI x_4 9)
         (chk (notB (eqI 2 0)) <|
         brB (eqI (remI x_7 2) 1)
          (some (false, (x_1, (x_2, (x_3, (x_4, (x_5, (x_6, x_7))))))))
          (impl_charCuts_1_J19 fu x_1 x_2 x_3 x_4 x_5 x_6 x_7))
         (impl_charCuts_1_J19 fu x_1 x_2 x_3 x_4 x_5 x_6 x_7))
        (impl_charCuts_1_J19 fu x_1 x_2 x_3 x_4 x_5 x_6 x_7))))
     (brB (eqI x_1 7936)
      (brB (eqI x_3 8)
       (brB x_6
        (some (false, (x_1, (x_2, (x_3, (x_4, (x_5, (x_6, x_7))))))))
        (brB (eqI x_3 9)
         (brB (eqI x_4 9)
          (chk (notB (eqI 2 0)) <|
          brB (eqI (remI x_7 2) 1)
           (some (false, (x_1, (x_2, (x_3, (x_4, (x_5, (x_6, x_7))))))))
           (impl_charCuts_1_J19 fu x_1 x_2 x_3 x_4 x_5 x_6 x_7))
          (impl_charCuts_1_J19 fu x_1 x_2 x_3 x_4 x_5 x_6 x_7))
         (impl_charCuts_1_J19 fu x_1 x_2 x_3 x_4 x_5 x_6 x_7)))
       (brB (eqI x_3 9)
        (brB (eqI x_4 9)
         (chk (notB (eqI 2 0)) <|
         brB (eqI (remI x_7 2) 1)
          (some (false, (x_1, (x_2, (x_3, (x_4, (x_5, (x_6, x_7))))))))
          (impl_charCuts_1_J19 fu x_1 x_2 x_3 x_4 x_5 x_6 x_7))
         (impl_charCuts_1_J19 fu x_1 x_2 x_3 x_4 x_5 x_6 x_7))
        (impl_charCuts_1_J19 fu x_1 x_2 x_3 x_4 x_5 x_6 x_7)))
      (brB (eqI x_3 9)
       (brB (eqI x_4 9)
        (chk (notB (eqI 2 0)) <|
        brB (eqI (remI x_7 2) 1)
         (some (false, (x_1, (x_2, (x_3, (x_4, (x_5, (x_6, x_7))))))))
         (impl_charCuts_1_J19 fu x_1 x_2 x_3 x_4 x_5 x_6 x_7))
        (impl_charCuts_1_J19 fu x_1 x_2 x_3 x_4 x_5 x_6 x_7))
       (impl_charCuts_1_J19 fu x_1 x_2 x_3 x_4 x_5 x_6 x_7)))))) := by unfold impl_charCuts_1_J10; rw [joinAt_eq]; kernel_rfl
theorem impl_kind_J61.eq (fu : Nat) : impl_kind_J61 fu =
  (some (0, 0)) := by unfold impl_kind_J61; rw [joinAt_eq]; kernel_rfl
theorem impl_charCuts_1_J19.eq (x : Int) (x_1 : Int) (x_2 : Int) (x_3 : Int) (x_4 : Bool) (x_5 : Bool) (x_6 : Int) (fu : Nat) : impl_charCuts_1_J19 fu x x_1 x_2 x_3 x_4 x_5 x_6 =
  (some (true, (x, (x_1, (x_2, (x_3, (x_4, (x_5, x_6)))))))) := by unfold impl_charCuts_1_J19; rw [joinAt_eq]; kernel_rfl
end Go.Proofs.YtlfkoenopdcjmaaDoor.JF
