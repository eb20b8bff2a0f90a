/- What the functions compute: their equations, checked by the kernel. -/
import Derived.ProofKit
import Derived.Test.YtkkjkpliiinbjaaDoorDDF
namespace Go.Proofs.YtkkjkpliiinbjaaDoor.DF
open Go.Eng
set_option maxRecDepth 100000
set_option maxHeartbeats 4000000
theorem laws_FnDiffed.eq (code : List T_y) (fu : Nat) : laws_FnDiffed (fu + 1) code =
  (brB (ltI 1048576 (ln code))
   (some true)
   (optB (spec_DrawDiffTexts fu code) fun r0 =>
   optB (impl_DiffTexts fu r0.1 r0.2) fun r1 =>
   optB (spec_DiffTexts fu r0.1 r0.2) fun r2 =>
   brB (notB (eqI (ln r1) (ln r2)))
    (some false)
    (optB (spec_Chars fu r0.1) fun r3 =>
    brB (ltI 300 (ln r3))
     (some (eqI (ln r2) (ln r1)))
     (optB (spec_Chars fu r0.2) fun r4 =>
     brB (ltI 300 (ln r4))
      (some (eqI (ln r2) (ln r1)))
      (brB (ltI 300 (ln r1))
       (some (eqI (ln r2) (ln r1)))
       (laws_FnDiffed_L11 fu fu r0.1 r0.2 0 r1 r2)))))) := by kernel_rfl
theorem spec_DrawDiffTexts.eq (code : List T_y) (fu : Nat) : spec_DrawDiffTexts (fu + 1) code =
  (optB (spec_l01Source fu code) fun r0 =>
  optB (spec_l01Src_twoNear fu r0.1 r0.2.1 r0.2.2.1 r0.2.2.2) fun r1 =>
  optB (spec_l01Src_one fu 60 r1.2.1 r1.2.2.1 r1.2.2.2.1 r1.2.2.2.2) fun r2 =>
  brB r2.1
   (optB (spec_l01Src_n fu 3 r2.2.1 r2.2.2.1 r2.2.2.2.1 r2.2.2.2.2) fun r3 =>
   optB (spec_l01Src_long fu (bs [97]) (addI .i64 299 r3.1) r3.2.1 r3.2.2.1 r3.2.2.2.1 r3.2.2.2.2) fun r4 =>
   some (r4.1, r1.1.1))
   (some (r1.1.1, r1.1.2))) := by kernel_rfl
theorem impl_DiffTexts.eq (a : ByteArray) (b : ByteArray) (fu : Nat) : impl_DiffTexts (fu + 1) a b =
  (optB (impl_long fu a) fun r0 =>
  brB r0
   (some ([] : List (Int × ByteArray × ByteArray × Int)))
   (optB (impl_long fu b) fun r1 =>
   brB r1
    (some ([] : List (Int × ByteArray × ByteArray × Int)))
    (optB (impl_chars fu a) fun r2 =>
    optB (impl_chars fu b) fun r3 =>
    brB (ltI 300 (ln r2))
     (some ([] : List (Int × ByteArray × ByteArray × Int)))
     (brB (ltI 300 (ln r3))
      (some ([] : List (Int × ByteArray × ByteArray × Int)))
      (optB (impl_kept fu r2 r3) fun r4 =>
      chk (ltI (mulZ (addZ (ln r4) (ln (((ln r2), (ln r3)) :: ([] : List (Int × Int))))) 16) 140737488355328) <|
      impl_DiffTexts_L9 fu fu 0 0 0 (ln (catL r4 (((ln r2), (ln r3)) :: ([] : List (Int × Int))))) 0 r2 r3 (catL r4 (((ln r2), (ln r3)) :: ([] : List (Int × Int))))))))) := by kernel_rfl
theorem spec_DiffTexts.eq (a : ByteArray) (b : ByteArray) (fu : Nat) : spec_DiffTexts (fu + 1) a b =
  (brB (ltI 65536 (sz a))
   (some ([] : List (Int × ByteArray × ByteArray × Int)))
   (brB (ltI 65536 (sz b))
    (some ([] : List (Int × ByteArray × ByteArray × Int)))
    (optB (spec_l07Chars fu a) fun r0 =>
    optB (spec_l07Pieces fu a r0) fun r1 =>
    optB (spec_l07Chars fu b) fun r2 =>
    optB (spec_l07Pieces fu b r2) fun r3 =>
    brB (ltI 300 (ln r1))
     (some ([] : List (Int × ByteArray × ByteArray × Int)))
     (brB (ltI 300 (ln r3))
      (some ([] : List (Int × ByteArray × ByteArray × Int)))
      (optB (spec_l21Kept fu r1 r3) fun r4 =>
      chk (ltI (mulZ (addZ (ln r4) (ln ((ln r3) :: ([] : List Int)))) 8) 140737488355328) <|
      spec_DiffTexts_L13 fu fu 0 0 (bs []) 0 ([] : List (Int × ByteArray × ByteArray × Int)) r1 r3 (catL r4 ((ln r3) :: ([] : List Int)))))))) := by kernel_rfl
theorem spec_Chars.eq (text : ByteArray) (fu : Nat) : spec_Chars (fu + 1) text =
  (optB (spec_CharCuts fu text) fun r0 =>
  optB (spec_l07Pieces fu text r0) fun r1 =>
  some r1) := by kernel_rfl
theorem laws_FnDiffed_L11.eq (a : ByteArray) (b : ByteArray) (i : Int) (l : List T_issi) (want : List T_issi) (fu fu1 : Nat) : laws_FnDiffed_L11 fu (fu1 + 1) a b i l want =
  (brB (ltI i (ln l))
   (chk (leI 0 i) <|
   chk (ltI i (ln l)) <|
   chk (leI 0 i) <|
   chk (ltI i (ln want)) <|
   brB (notB (andB (eqI ((rd l i (0, ((bs []), ((bs []), 0)))).1) ((rd want i (0, ((bs []), ((bs []), 0)))).1)) (andB (bytesEq (((rd l i (0, ((bs []), ((bs []), 0)))).2).1) (((rd want i (0, ((bs []), ((bs []), 0)))).2).1)) (andB (bytesEq ((((rd l i (0, ((bs []), ((bs []), 0)))).2).2).1) ((((rd want i (0, ((bs []), ((bs []), 0)))).2).2).1)) (andB (eqI ((((rd l i (0, ((bs []), ((bs []), 0)))).2).2).2) ((((rd want i (0, ((bs []), ((bs []), 0)))).2).2).2)) true)))))
    (some false)
    (laws_FnDiffed_L11 fu fu1 a b (addI .i64 i 1) l want))
   (optB (impl_HistoryFault fu a l (ln l)) fun r0 =>
   brB (eqI r0 0)
    (optB (impl_TextAt fu a l (ln l) (ln l)) fun r1 =>
    brB (bytesEq r1 b)
     (optB (impl_DiffTexts fu a a) fun r2 =>
     some (eqI (ln r2) 0))
     (some false))
    (some false))) := by kernel_rfl
theorem spec_l01Source.eq (code : List T_y) (fu : Nat) : spec_l01Source (fu + 1) code =
  (spec_l01Source_L3 fu fu code 0 code 0 88172645463325252 0) := by kernel_rfl
theorem spec_l01Src_twoNear.eq (s : List T_y) (s_1 : Int) (s_2 : Int) (s_3 : Int) (fu : Nat) : spec_l01Src_twoNear (fu + 1) s s_1 s_2 s_3 =
  (optB (spec_l01Src_nearText fu s s_1 s_2 s_3) fun r0 =>
  optB (spec_l01Src_n fu 4 r0.2.1 r0.2.2.1 r0.2.2.2.1 r0.2.2.2.2) fun r1 =>
  spec_l01Src_twoNear_L4 fu fu r0.1 r0.1 r1.1 r1.2.1 r1.2.2.1 r1.2.2.2.1 r1.2.2.2.2) := by kernel_rfl
theorem spec_l01Src_one.eq (of : Int) (s : List T_y) (s_1 : Int) (s_2 : Int) (s_3 : Int) (fu : Nat) : spec_l01Src_one (fu + 1) of s s_1 s_2 s_3 =
  (optB (spec_l01Src_n fu of s s_1 s_2 s_3) fun r0 =>
  some ((eqI r0.1 0), (r0.2.1, (r0.2.2.1, (r0.2.2.2.1, r0.2.2.2.2))))) := by kernel_rfl
theorem spec_l01Src_n.eq (most : Int) (s : List T_y) (s_1 : Int) (s_2 : Int) (s_3 : Int) (fu : Nat) : spec_l01Src_n (fu + 1) most s s_1 s_2 s_3 =
  (brB (leI most 1)
   (some (0, (s, (s_1, (s_2, s_3)))))
   (brB (ltI s_1 (ln s))
    (chk (leI 0 s_1) <|
    chk (ltI s_1 (ln s)) <|
    spec_l01Src_n_J7 fu most (wrI .u64 (rd s s_1 0)) s (addI .i64 s_1 1) s_2 s_3)
    (spec_l01Src_n_J7 fu most 0 s s_1 s_2 s_3))) := by kernel_rfl
theorem spec_l01Src_long.eq (c : ByteArray) (n : Int) (s : List T_y) (s_1 : Int) (s_2 : Int) (s_3 : Int) (fu : Nat) : spec_l01Src_long (fu + 1) c n s s_1 s_2 s_3 =
  (spec_l01Src_long_L2 fu fu c n s s_1 s_2 s_3 ([] : List Int)) := by kernel_rfl
theorem impl_long.eq (s : ByteArray) (fu : Nat) : impl_long (fu + 1) s =
  (some (ltI 65536 (sz s))) := by kernel_rfl
theorem impl_chars.eq (text : ByteArray) (fu : Nat) : impl_chars (fu + 1) text =
  (optB (impl_charPlaces fu text) fun r0 =>
  optB (impl_piecesOf fu text r0) fun r1 =>
  some r1) := by kernel_rfl
theorem impl_kept.eq (a : List T_s) (b : List T_s) (fu : Nat) : impl_kept (fu + 1) a b =
  (chk (leI 0 (addI .i64 (ln a) 1)) <|
  chk (leI (addI .i64 (ln a) 1) (addI .i64 (ln a) 1)) <|
  chk (ltI (mulZ (addI .i64 (ln a) 1) 24) 140737488355328) <|
  impl_kept_L3 fu fu a b (ln a) (repI (addI .i64 (ln a) 1) ([] : List Int))) := by kernel_rfl
theorem impl_DiffTexts_L9.eq (at' : Int) (i : Int) (j : Int) (x : Int) (x_1 : Int) (x_2 : List T_s) (y : List T_s) (x_3 : List T_ii) (fu fu1 : Nat) : impl_DiffTexts_L9 fu (fu1 + 1) at' i j x x_1 x_2 y x_3 =
  (brB (ltI x_1 x)
   (chk (leI 0 x_1) <|
   chk (ltI x_1 (ln x_3)) <|
   chk (leI 0 i) <|
   chk (leI i ((rd x_3 x_1 (0, 0)).1)) <|
   chk (leI ((rd x_3 x_1 (0, 0)).1) (ln x_2)) <|
   optB (strings_Join fu (dropI (takeI x_2 ((rd x_3 x_1 (0, 0)).1)) i) (bs [])) fun r0 =>
   chk (leI 0 j) <|
   chk (leI j ((rd x_3 x_1 (0, 0)).2)) <|
   chk (leI ((rd x_3 x_1 (0, 0)).2) (ln y)) <|
   optB (strings_Join fu (dropI (takeI y ((rd x_3 x_1 (0, 0)).2)) j) (bs [])) fun r1 =>
   chk (leI (addZ (sz r0) (sz r1)) 9223372036854775807) <|
   brB (notB (bytesEq (catS r0 r1) (bs [])))
    (chk (ltI (mulZ (addZ (ln ([] : List (Int × ByteArray × ByteArray × Int))) (ln ((at', (r0, (r1, 0))) :: ([] : List (Int × ByteArray × ByteArray × Int))))) 48) 140737488355328) <|
    impl_DiffTexts_J14 fu fu1 at' r1 x x_1 x_2 y (catL ([] : List (Int × ByteArray × ByteArray × Int)) ((at', (r0, (r1, 0))) :: ([] : List (Int × ByteArray × ByteArray × Int)))) ((rd x_3 x_1 (0, 0)).1) ((rd x_3 x_1 (0, 0)).2) x_3)
    (impl_DiffTexts_J14'1 fu fu1 at' r1 x x_1 x_2 y ((rd x_3 x_1 (0, 0)).1) ((rd x_3 x_1 (0, 0)).2) x_3))
   (some ([] : List (Int × ByteArray × ByteArray × Int)))) := by kernel_rfl
theorem spec_l07Chars.eq (t : ByteArray) (fu : Nat) : spec_l07Chars (fu + 1) t =
  (optB (spec_l07RowOf fu t) fun r0 =>
  spec_l07Chars_L4 fu fu t 0 r0.1 r0.2 ([] : List Int)) := by kernel_rfl
theorem spec_l07Pieces.eq (t : ByteArray) (cuts : List T_i) (fu : Nat) : spec_l07Pieces (fu + 1) t cuts =
  (spec_l07Pieces_L3 fu fu t cuts 0 ([] : List ByteArray)) := by kernel_rfl
theorem spec_l21Kept.eq (a : List T_s) (b : List T_s) (fu : Nat) : spec_l21Kept (fu + 1) a b =
  (chk (leI 0 (addI .i64 (ln a) 1)) <|
  chk (leI (addI .i64 (ln a) 1) (addI .i64 (ln a) 1)) <|
  chk (ltI (mulZ (addI .i64 (ln a) 1) 24) 140737488355328) <|
  spec_l21Kept_L3 fu fu a b (ln a) (repI (addI .i64 (ln a) 1) ([] : List Int))) := by kernel_rfl
theorem spec_DiffTexts_L13.eq (at' : Int) (k : Int) (gone : ByteArray) (i : Int) (out : List T_issi) (x : List T_s) (y : List T_s) (kept : List T_i) (fu fu1 : Nat) : spec_DiffTexts_L13 fu (fu1 + 1) at' k gone i out x y kept =
  (brB (ltI i (ln kept))
   (chk (leI 0 i) <|
   chk (ltI i (ln kept)) <|
   brB (ltI (rd kept i 0) 0)
    (chk (leI 0 i) <|
    chk (ltI i (ln x)) <|
    chk (leI (addZ (sz gone) (sz (rd x i (bs [])))) 9223372036854775807) <|
    spec_DiffTexts_L13 fu fu1 at' k (catS gone (rd x i (bs []))) (addI .i64 i 1) out x y kept)
    (chk (leI 0 i) <|
    chk (ltI i (ln kept)) <|
    chk (leI 0 k) <|
    chk (leI k (rd kept i 0)) <|
    chk (leI (rd kept i 0) (ln y)) <|
    optB (spec_l21Joined fu (dropI (takeI y (rd kept i 0)) k)) fun r0 =>
    brB (notB (bytesEq gone (bs [])))
     (chk (ltI (mulZ (addZ (ln out) (ln ((at', (gone, (r0, 0))) :: ([] : List (Int × ByteArray × ByteArray × Int))))) 48) 140737488355328) <|
     spec_DiffTexts_J22 fu fu1 (addI .i64 at' (sz r0)) (bs []) i (catL out ((at', (gone, (r0, 0))) :: ([] : List (Int × ByteArray × ByteArray × Int)))) x y kept)
     (brB (notB (bytesEq r0 (bs [])))
      (chk (ltI (mulZ (addZ (ln out) (ln ((at', (gone, (r0, 0))) :: ([] : List (Int × ByteArray × ByteArray × Int))))) 48) 140737488355328) <|
      spec_DiffTexts_J22 fu fu1 (addI .i64 at' (sz r0)) (bs []) i (catL out ((at', (gone, (r0, 0))) :: ([] : List (Int × ByteArray × ByteArray × Int)))) x y kept)
      (spec_DiffTexts_J22 fu fu1 at' gone i out x y kept))))
   (some out)) := by kernel_rfl
theorem spec_CharCuts.eq (text : ByteArray) (fu : Nat) : spec_CharCuts (fu + 1) text =
  (brB (ltI 65536 (sz text))
   (some ([] : List Int))
   (optB (spec_l07Chars fu text) fun r0 =>
   some r0)) := by kernel_rfl
theorem impl_HistoryFault.eq (h : ByteArray) (h_1 : List T_issi) (h_2 : Int) (fu : Nat) : impl_HistoryFault (fu + 1) h h_1 h_2 =
  (optB (impl_texts fu h h_1 h_2) fun r0 =>
  brB r0.2
   (some 1)
   (some 0)) := by kernel_rfl
theorem impl_TextAt.eq (h : ByteArray) (h_1 : List T_issi) (h_2 : Int) (done : Int) (fu : Nat) : impl_TextAt (fu + 1) h h_1 h_2 done =
  (optB (impl_texts fu h h_1 h_2) fun r0 =>
  brB (ltI done 0)
   (some (bs []))
   (brB (leI (ln r0.1) done)
    (some (bs []))
    (chk (leI 0 done) <|
    chk (ltI done (ln r0.1)) <|
    some (rd r0.1 done (bs []))))) := by kernel_rfl
theorem spec_l01Source_L3.eq (code : List T_y) (i : Int) (s : List T_y) (s_1 : Int) (s_2 : Int) (s_3 : Int) (fu fu1 : Nat) : spec_l01Source_L3 fu (fu1 + 1) code i s s_1 s_2 s_3 =
  (brB (ltI i (ln code))
   (brB (ltI i 64)
    (chk (leI 0 i) <|
    chk (ltI i (ln code)) <|
    spec_l01Source_L3 fu fu1 code (addI .i64 i 1) s s_1 (mulI .u64 (xorI .u64 s_2 (wrI .u64 (rd code i 0))) 1099511628211) s_3)
    (chk (notB (eqI 20 0)) <|
    brB (ltI 12 (quoI .i64 (ln code) 20))
     (some (s, (s_1, (s_2, 12))))
     (some (s, (s_1, (s_2, (quoI .i64 (ln code) 20)))))))
   (chk (notB (eqI 20 0)) <|
   brB (ltI 12 (quoI .i64 (ln code) 20))
    (some (s, (s_1, (s_2, 12))))
    (some (s, (s_1, (s_2, (quoI .i64 (ln code) 20))))))) := by kernel_rfl
theorem spec_l01Src_nearText.eq (s : List T_y) (s_1 : Int) (s_2 : Int) (s_3 : Int) (fu : Nat) : spec_l01Src_nearText (fu + 1) s s_1 s_2 s_3 =
  (chk (notB (eqI 2 0)) <|
  optB (spec_l01Src_n fu (addI .i64 7 (quoI .i64 s_3 2)) s s_1 s_2 s_3) fun r0 =>
  spec_l01Src_nearText_L3 fu fu (bs []) r0.1 r0.2.1 r0.2.2.1 r0.2.2.2.1 r0.2.2.2.2) := by kernel_rfl
theorem spec_l01Src_twoNear_L4.eq (a : ByteArray) (b : ByteArray) (k : Int) (s : List T_y) (s_1 : Int) (s_2 : Int) (s_3 : Int) (fu fu1 : Nat) : spec_l01Src_twoNear_L4 fu (fu1 + 1) a b k s s_1 s_2 s_3 =
  (brB (ltI 0 k)
   (optB (spec_l07Chars fu b) fun r0 =>
   optB (spec_l07Pieces fu b r0) fun r1 =>
   brB (ltI (ln r1) 2)
    (optB (spec_l01Src_nearText fu s s_1 s_2 s_3) fun r2 =>
    some ((a, r2.1), (r2.2.1, (r2.2.2.1, (r2.2.2.2.1, r2.2.2.2.2)))))
    (optB (spec_l01Src_n fu (subI .i64 (ln r1) 1) s s_1 s_2 s_3) fun r2 =>
    optB (spec_l01Src_n fu 4 r2.2.1 r2.2.2.1 r2.2.2.2.1 r2.2.2.2.2) fun r3 =>
    brB (eqI r3.1 0)
     (chk (leI 0 r2.1) <|
     chk (ltI r2.1 (ln r1)) <|
     chk (leI 0 (addI .i64 r2.1 1)) <|
     chk (ltI (addI .i64 r2.1 1) (ln r1)) <|
     chk (leI 0 r2.1) <|
     chk (ltI r2.1 (ln r1)) <|
     chk (leI 0 (addI .i64 r2.1 1)) <|
     chk (ltI (addI .i64 r2.1 1) (ln (setI r1 r2.1 (rd r1 (addI .i64 r2.1 1) (bs []))))) <|
     spec_l01Src_twoNear_J21 fu fu1 a k r3.2.1 r3.2.2.1 r3.2.2.2.1 r3.2.2.2.2 (setI (setI r1 r2.1 (rd r1 (addI .i64 r2.1 1) (bs []))) (addI .i64 r2.1 1) (rd r1 r2.1 (bs []))))
     (brB (eqI r3.1 1)
      (chk (leI 0 r2.1) <|
      chk (ltI r2.1 (ln r1)) <|
      spec_l01Src_twoNear_J21 fu fu1 a k r3.2.1 r3.2.2.1 r3.2.2.2.1 r3.2.2.2.2 (setI r1 r2.1 (bs [])))
      (brB (eqI r3.1 2)
       (chk (leI 0 r2.1) <|
       chk (ltI r2.1 (ln r1)) <|
       chk (leI (addZ (sz (rd r1 r2.1 (bs []))) (sz (bs [98]))) 9223372036854775807) <|
       chk (leI 0 r2.1) <|
       chk (ltI r2.1 (ln r1)) <|
       spec_l01Src_twoNear_J21 fu fu1 a k r3.2.1 r3.2.2.1 r3.2.2.2.1 r3.2.2.2.2 (setI r1 r2.1 (catS (rd r1 r2.1 (bs [])) (bs [98]))))
       (brB (eqI r3.1 3)
        (optB (spec_l01Src_pick fu ((bs [97]) :: ((bs [98]) :: ((bs [120]) :: ((bs [65]) :: ([] : List ByteArray))))) r3.2.1 r3.2.2.1 r3.2.2.2.1 r3.2.2.2.2) fun r4 =>
        chk (leI 0 r2.1) <|
        chk (ltI r2.1 (ln r1)) <|
        spec_l01Src_twoNear_J21 fu fu1 a k r4.2.1 r4.2.2.1 r4.2.2.2.1 r4.2.2.2.2 (setI r1 r2.1 r4.1))
        (spec_l01Src_twoNear_J21 fu fu1 a k r3.2.1 r3.2.2.1 r3.2.2.2.1 r3.2.2.2.2 r1))))))
   (some ((a, b), (s, (s_1, (s_2, s_3)))))) := by kernel_rfl
theorem spec_l01Src_n_J7.eq (most : Int) (v : Int) (s : List T_y) (s_1 : Int) (s_2 : Int) (s_3 : Int) (fu : Nat) : spec_l01Src_n_J7 fu most v s s_1 s_2 s_3 =
  (chk (leI 0 13) <|
  chk (leI 0 7) <|
  chk (leI 0 17) <|
  chk (leI 0 20) <|
  chk (notB (eqI (wrI .u64 most) 0)) <|
  some ((wrI .i64 (remI (addI .u64 v (shrI .u64 (xorI .u64 (xorI .u64 (xorI .u64 s_2 (shlI .u64 s_2 13)) (shrI .u64 (xorI .u64 s_2 (shlI .u64 s_2 13)) 7)) (shlI .u64 (xorI .u64 (xorI .u64 s_2 (shlI .u64 s_2 13)) (shrI .u64 (xorI .u64 s_2 (shlI .u64 s_2 13)) 7)) 17)) 20)) (wrI .u64 most))), (s, (s_1, ((xorI .u64 (xorI .u64 (xorI .u64 s_2 (shlI .u64 s_2 13)) (shrI .u64 (xorI .u64 s_2 (shlI .u64 s_2 13)) 7)) (shlI .u64 (xorI .u64 (xorI .u64 s_2 (shlI .u64 s_2 13)) (shrI .u64 (xorI .u64 s_2 (shlI .u64 s_2 13)) 7)) 17)), s_3))))) := by unfold spec_l01Src_n_J7; rw [joinAt_eq]; kernel_rfl
theorem spec_l01Src_long_L2.eq (c : ByteArray) (n : Int) (x : List T_y) (x_1 : Int) (x_2 : Int) (x_3 : Int) (b : List T_y) (fu fu1 : Nat) : spec_l01Src_long_L2 fu (fu1 + 1) c n x x_1 x_2 x_3 b =
  (brB (ltI (ln b) n)
   (chk (ltI (mulZ (addZ (ln b) (ln (numsOf c))) 1) 140737488355328) <|
   spec_l01Src_long_L2 fu fu1 c n x x_1 x_2 x_3 (catL b (numsOf c)))
   (chk (leI 0 n) <|
   chk (leI n (ln b)) <|
   some ((bytesOf (dropI (takeI b n) 0)), (x, (x_1, (x_2, x_3)))))) := by kernel_rfl
theorem impl_charPlaces.eq (text : ByteArray) (fu : Nat) : impl_charPlaces (fu + 1) text =
  (optB (impl_read fu text) fun r0 =>
  optB (impl_onlyPoints fu r0) fun r1 =>
  optB (impl_charCuts fu r1) fun r2 =>
  optB (impl_placesOf fu r0 (sz text) r2) fun r3 =>
  some r3) := by kernel_rfl
theorem impl_piecesOf.eq (text : ByteArray) (cuts : List T_i) (fu : Nat) : impl_piecesOf (fu + 1) text cuts =
  (impl_piecesOf_L3 fu fu text cuts 1) := by kernel_rfl
theorem impl_kept_L3.eq (a : List T_s) (b : List T_s) (i : Int) (m : List (List T_i)) (fu fu1 : Nat) : impl_kept_L3 fu (fu1 + 1) a b i m =
  (brB (leI 0 i)
   (chk (leI 0 (addI .i64 (ln b) 1)) <|
   chk (leI (addI .i64 (ln b) 1) (addI .i64 (ln b) 1)) <|
   chk (ltI (mulZ (addI .i64 (ln b) 1) 8) 140737488355328) <|
   chk (leI 0 i) <|
   chk (ltI i (ln m)) <|
   impl_kept_L7 fu fu1 fu a b i (subI .i64 (ln b) 1) (setI m i (repI (addI .i64 (ln b) 1) 0)))
   (impl_kept_L14 fu fu a b 0 0 m)) := by kernel_rfl
theorem impl_DiffTexts_J14.eq (at' : Int) (came : ByteArray) (x : Int) (x_1 : Int) (x_2 : List T_s) (y : List T_s) (out : List T_issi) (k : Int) (k_1 : Int) (x_3 : List T_ii) (fu fu1 : Nat) : impl_DiffTexts_J14 fu fu1 at' came x x_1 x_2 y out k k_1 x_3 =
  (brB (ltI k (ln x_2))
   (chk (leI 0 k) <|
   chk (ltI k (ln x_2)) <|
   impl_DiffTexts_L9'1 fu fu1 (addI .i64 (addI .i64 at' (sz came)) (sz (rd x_2 k (bs [])))) (addI .i64 k 1) (addI .i64 k_1 1) x (addI .i64 x_1 1) x_2 y out x_3)
   (impl_DiffTexts_L9'1 fu fu1 (addI .i64 at' (sz came)) (addI .i64 k 1) (addI .i64 k_1 1) x (addI .i64 x_1 1) x_2 y out x_3)) := by unfold impl_DiffTexts_J14; rw [joinAt_eq]; kernel_rfl
theorem impl_DiffTexts_J14'1.eq (at' : Int) (came : ByteArray) (x : Int) (x_1 : Int) (x_2 : List T_s) (y : List T_s) (k : Int) (k_1 : Int) (x_3 : List T_ii) (fu fu1 : Nat) : impl_DiffTexts_J14'1 fu fu1 at' came x x_1 x_2 y k k_1 x_3 =
  (brB (ltI k (ln x_2))
   (chk (leI 0 k) <|
   chk (ltI k (ln x_2)) <|
   impl_DiffTexts_L9 fu fu1 (addI .i64 (addI .i64 at' (sz came)) (sz (rd x_2 k (bs [])))) (addI .i64 k 1) (addI .i64 k_1 1) x (addI .i64 x_1 1) x_2 y x_3)
   (impl_DiffTexts_L9 fu fu1 (addI .i64 at' (sz came)) (addI .i64 k 1) (addI .i64 k_1 1) x (addI .i64 x_1 1) x_2 y x_3)) := by unfold impl_DiffTexts_J14'1; rw [joinAt_eq]; kernel_rfl
theorem spec_l07RowOf.eq (t : ByteArray) (fu : Nat) : spec_l07RowOf (fu + 1) t =
  (spec_l07RowOf_L3 fu fu t 0) := by kernel_rfl
theorem spec_l07Chars_L4.eq (t : ByteArray) (i : Int) (x : List T_i) (x_1 : List T_i) (out : List T_i) (fu fu1 : Nat) : spec_l07Chars_L4 fu (fu1 + 1) t i x x_1 out =
  (brB (ltI i (ln x))
   (brB (eqI i 0)
    (chk (leI 0 i) <|
    chk (ltI i (ln x_1)) <|
    chk (ltI (mulZ (addZ (ln out) (ln ((rd x_1 i 0) :: ([] : List Int)))) 8) 140737488355328) <|
    spec_l07Chars_L4 fu fu1 t (addI .i64 i 1) x x_1 (catL out ((rd x_1 i 0) :: ([] : List Int))))
    (optB (spec_l07Char fu x i) fun r0 =>
    brB r0
     (chk (leI 0 i) <|
     chk (ltI i (ln x_1)) <|
     chk (ltI (mulZ (addZ (ln out) (ln ((rd x_1 i 0) :: ([] : List Int)))) 8) 140737488355328) <|
     spec_l07Chars_L4 fu fu1 t (addI .i64 i 1) x x_1 (catL out ((rd x_1 i 0) :: ([] : List Int))))
     (spec_l07Chars_L4 fu fu1 t (addI .i64 i 1) x x_1 out)))
   (brB (ltI 0 (sz t))
    (chk (ltI (mulZ (addZ (ln out) (ln ((sz t) :: ([] : List Int)))) 8) 140737488355328) <|
    some (catL out ((sz t) :: ([] : List Int))))
    (some out))) := by kernel_rfl
theorem spec_l07Pieces_L3.eq (t : ByteArray) (cuts : List T_i) (i : Int) (out : List T_s) (fu fu1 : Nat) : spec_l07Pieces_L3 fu (fu1 + 1) t cuts i out =
  (brB (ltI (addI .i64 i 1) (ln cuts))
   (chk (leI 0 i) <|
   chk (ltI i (ln cuts)) <|
   chk (leI 0 (addI .i64 i 1)) <|
   chk (ltI (addI .i64 i 1) (ln cuts)) <|
   chk (leI 0 (rd cuts i 0)) <|
   chk (leI (rd cuts i 0) (rd cuts (addI .i64 i 1) 0)) <|
   chk (leI (rd cuts (addI .i64 i 1) 0) (sz t)) <|
   chk (ltI (mulZ (addZ (ln out) (ln ((subs t (rd cuts i 0) (rd cuts (addI .i64 i 1) 0)) :: ([] : List ByteArray)))) 16) 140737488355328) <|
   spec_l07Pieces_L3 fu fu1 t cuts (addI .i64 i 1) (catL out ((subs t (rd cuts i 0) (rd cuts (addI .i64 i 1) 0)) :: ([] : List ByteArray))))
   (some out)) := by kernel_rfl
theorem spec_l21Kept_L3.eq (a : List T_s) (b : List T_s) (i : Int) (l : List (List T_i)) (fu fu1 : Nat) : spec_l21Kept_L3 fu (fu1 + 1) a b i l =
  (brB (leI 0 i)
   (chk (leI 0 (addI .i64 (ln b) 1)) <|
   chk (leI (addI .i64 (ln b) 1) (addI .i64 (ln b) 1)) <|
   chk (ltI (mulZ (addI .i64 (ln b) 1) 8) 140737488355328) <|
   chk (leI 0 i) <|
   chk (ltI i (ln l)) <|
   spec_l21Kept_L7 fu fu1 fu a b i (subI .i64 (ln b) 1) (setI l i (repI (addI .i64 (ln b) 1) 0)))
   (spec_l21Kept_L17 fu fu a b 0 0 l ([] : List Int))) := by kernel_rfl
theorem spec_l21Joined.eq (l : List T_s) (fu : Nat) : spec_l21Joined (fu + 1) l =
  (spec_l21Joined_L3 fu fu l 0 ([] : List Int)) := by kernel_rfl
theorem spec_DiffTexts_J22.eq (at' : Int) (gone : ByteArray) (i : Int) (out : List T_issi) (x : List T_s) (y : List T_s) (kept : List T_i) (fu fu1 : Nat) : spec_DiffTexts_J22 fu fu1 at' gone i out x y kept =
  (brB (ltI i (ln x))
   (chk (leI 0 i) <|
   chk (ltI i (ln x)) <|
   chk (leI 0 i) <|
   chk (ltI i (ln kept)) <|
   spec_DiffTexts_L13 fu fu1 (addI .i64 at' (sz (rd x i (bs [])))) (addI .i64 (rd kept i 0) 1) gone (addI .i64 i 1) out x y kept)
   (chk (leI 0 i) <|
   chk (ltI i (ln kept)) <|
   spec_DiffTexts_L13 fu fu1 at' (addI .i64 (rd kept i 0) 1) gone (addI .i64 i 1) out x y kept)) := by unfold spec_DiffTexts_J22; rw [joinAt_eq]; kernel_rfl
theorem impl_texts.eq (h : ByteArray) (h_1 : List T_issi) (h_2 : Int) (fu : Nat) : impl_texts (fu + 1) h h_1 h_2 =
  (optB (impl_long fu h) fun r0 =>
  brB r0
   (some (([] : List ByteArray), true))
   (brB (ltI 300 (ln h_1))
    (some (([] : List ByteArray), true))
    (brB (ltI h_2 0)
     (some (([] : List ByteArray), true))
     (brB (ltI (ln h_1) h_2)
      (some (([] : List ByteArray), true))
      (impl_texts_L6 fu fu h h_1 (ln h_1) 0 (h :: ([] : List ByteArray))))))) := by kernel_rfl
theorem spec_l01Src_nearText_L3.eq (out : ByteArray) (k : Int) (s : List T_y) (s_1 : Int) (s_2 : Int) (s_3 : Int) (fu fu1 : Nat) : spec_l01Src_nearText_L3 fu (fu1 + 1) out k s s_1 s_2 s_3 =
  (brB (ltI 0 k)
   (optB (spec_l01Write fu 4096) fun r0 =>
   chk (leI (addZ (sz (bs [97])) (sz r0)) 9223372036854775807) <|
   optB (spec_l01Write fu 544) fun r1 =>
   optB (spec_l01Write fu 512) fun r2 =>
   optB (spec_l01Src_pick fu ((bs [97]) :: ((bs [98]) :: ((bs [99]) :: ((bs [100]) :: ((bs [65]) :: ((bs [120]) :: ((catS (bs [97]) r0) :: (r1 :: (r2 :: ((bs [101]) :: ([] : List ByteArray))))))))))) s s_1 s_2 s_3) fun r3 =>
   chk (leI (addZ (sz out) (sz r3.1)) 9223372036854775807) <|
   spec_l01Src_nearText_L3 fu fu1 (catS out r3.1) (subI .i64 k 1) r3.2.1 r3.2.2.1 r3.2.2.2.1 r3.2.2.2.2)
   (optB (spec_l01Src_one fu 150 s s_1 s_2 s_3) fun r0 =>
   brB r0.1
    (optB (spec_l01Src_n fu 3 r0.2.1 r0.2.2.1 r0.2.2.2.1 r0.2.2.2.2) fun r1 =>
    optB (spec_l01Src_long fu (bs [97]) (addI .i64 199 r1.1) r1.2.1 r1.2.2.1 r1.2.2.2.1 r1.2.2.2.2) fun r2 =>
    some (r2.1, (r2.2.1, (r2.2.2.1, (r2.2.2.2.1, r2.2.2.2.2)))))
    (some (out, (r0.2.1, (r0.2.2.1, (r0.2.2.2.1, r0.2.2.2.2))))))) := by kernel_rfl
theorem spec_l01Src_twoNear_J21.eq (a : ByteArray) (k : Int) (s : List T_y) (s_1 : Int) (s_2 : Int) (s_3 : Int) (l : List T_s) (fu fu1 : Nat) : spec_l01Src_twoNear_J21 fu fu1 a k s s_1 s_2 s_3 l =
  (spec_l01Src_twoNear_L23 fu fu1 fu a (bs []) k 0 s s_1 s_2 s_3 l) := by unfold spec_l01Src_twoNear_J21; rw [joinAt_eq]; kernel_rfl
theorem spec_l01Src_pick.eq (l : List T_s) (s : List T_y) (s_1 : Int) (s_2 : Int) (s_3 : Int) (fu : Nat) : spec_l01Src_pick (fu + 1) l s s_1 s_2 s_3 =
  (optB (spec_l01Src_n fu (ln l) s s_1 s_2 s_3) fun r0 =>
  chk (leI 0 r0.1) <|
  chk (ltI r0.1 (ln l)) <|
  some ((rd l r0.1 (bs [])), (r0.2.1, (r0.2.2.1, (r0.2.2.2.1, r0.2.2.2.2))))) := by kernel_rfl
theorem impl_read.eq (s : ByteArray) (fu : Nat) : impl_read (fu + 1) s =
  (impl_read_L3 fu fu s 0) := by kernel_rfl
theorem impl_onlyPoints.eq (l : List T_iiib) (fu : Nat) : impl_onlyPoints (fu + 1) l =
  (chk (leI 0 (ln l)) <|
  chk (leI (ln l) (ln l)) <|
  chk (ltI (mulZ (ln l) 8) 140737488355328) <|
  impl_onlyPoints_L3 fu fu l (ln l) 0 (repI (ln l) 0)) := by kernel_rfl
theorem impl_charCuts.eq (l : List T_i) (fu : Nat) : impl_charCuts (fu + 1) l =
  (chk (leI 0 (ln l)) <|
  chk (leI (ln l) (ln l)) <|
  chk (ltI (mulZ (ln l) 1) 140737488355328) <|
  impl_charCuts_L4 fu fu l l (ln l) 0 (repI (ln l) false) false false 0) := by kernel_rfl
theorem impl_placesOf.eq (l : List T_iiib) (n : Int) (cut : List T_b) (fu : Nat) : impl_placesOf (fu + 1) l n cut =
  (brB (eqI n 0)
   (some ([] : List Int))
   (impl_placesOf_L5 fu fu n cut l (ln l) 0 (0 :: ([] : List Int)))) := by kernel_rfl
theorem impl_piecesOf_L3.eq (text : ByteArray) (cuts : List T_i) (i : Int) (fu fu1 : Nat) : impl_piecesOf_L3 fu (fu1 + 1) text cuts i =
  (brB (ltI i (ln cuts))
   (chk (leI 0 (subI .i64 i 1)) <|
   chk (ltI (subI .i64 i 1) (ln cuts)) <|
   chk (leI 0 i) <|
   chk (ltI i (ln cuts)) <|
   chk (leI 0 (rd cuts (subI .i64 i 1) 0)) <|
   chk (leI (rd cuts (subI .i64 i 1) 0) (rd cuts i 0)) <|
   chk (leI (rd cuts i 0) (sz text)) <|
   chk (ltI (mulZ (addZ (ln ([] : List ByteArray)) (ln ((subs text (rd cuts (subI .i64 i 1) 0) (rd cuts i 0)) :: ([] : List ByteArray)))) 16) 140737488355328) <|
   impl_piecesOf_L3'1 fu fu1 text cuts (addI .i64 i 1) (catL ([] : List ByteArray) ((subs text (rd cuts (subI .i64 i 1) 0) (rd cuts i 0)) :: ([] : List ByteArray))))
   (some ([] : List ByteArray))) := by kernel_rfl
theorem impl_kept_L7.eq (a : List T_s) (b : List T_s) (i : Int) (j : Int) (m : List (List T_i)) (fu fu1 fu2 : Nat) : impl_kept_L7 fu fu1 (fu2 + 1) a b i j m =
  (brB (leI 0 j)
   (brB (ltI i (ln a))
    (impl_kept_J9 fu fu1 fu2 a b i j m)
    (impl_kept_L3 fu fu1 a b (subI .i64 i 1) m))
   (impl_kept_L3 fu fu1 a b (subI .i64 i 1) m)) := by kernel_rfl
theorem impl_kept_L14.eq (a : List T_s) (b : List T_s) (i : Int) (j : Int) (m : List (List T_i)) (fu fu1 : Nat) : impl_kept_L14 fu (fu1 + 1) a b i j m =
  (brB (ltI i (ln a))
   (brB (ltI j (ln b))
    (impl_kept_J16 fu fu1 a b i j m)
    (some ([] : List (Int × Int))))
   (some ([] : List (Int × Int)))) := by kernel_rfl
theorem impl_DiffTexts_L9'1.eq (at' : Int) (i : Int) (j : Int) (x : Int) (x_1 : Int) (x_2 : List T_s) (y : List T_s) (out : List T_issi) (x_3 : List T_ii) (fu fu1 : Nat) : impl_DiffTexts_L9'1 fu (fu1 + 1) at' i j x x_1 x_2 y out x_3 =
  (brB (ltI x_1 x)
   (chk (leI 0 x_1) <|
   chk (ltI x_1 (ln x_3)) <|
   chk (leI 0 i) <|
   chk (leI i ((rd x_3 x_1 (0, 0)).1)) <|
   chk (leI ((rd x_3 x_1 (0, 0)).1) (ln x_2)) <|
   optB (strings_Join fu (dropI (takeI x_2 ((rd x_3 x_1 (0, 0)).1)) i) (bs [])) fun r0 =>
   chk (leI 0 j) <|
   chk (leI j ((rd x_3 x_1 (0, 0)).2)) <|
   chk (leI ((rd x_3 x_1 (0, 0)).2) (ln y)) <|
   optB (strings_Join fu (dropI (takeI y ((rd x_3 x_1 (0, 0)).2)) j) (bs [])) fun r1 =>
   chk (leI (addZ (sz r0) (sz r1)) 9223372036854775807) <|
   brB (notB (bytesEq (catS r0 r1) (bs [])))
    (chk (ltI (mulZ (addZ (ln out) (ln ((at', (r0, (r1, 0))) :: ([] : List (Int × ByteArray × ByteArray × Int))))) 48) 140737488355328) <|
    impl_DiffTexts_J14 fu fu1 at' r1 x x_1 x_2 y (catL out ((at', (r0, (r1, 0))) :: ([] : List (Int × ByteArray × ByteArray × Int)))) ((rd x_3 x_1 (0, 0)).1) ((rd x_3 x_1 (0, 0)).2) x_3)
    (impl_DiffTexts_J14 fu fu1 at' r1 x x_1 x_2 y out ((rd x_3 x_1 (0, 0)).1) ((rd x_3 x_1 (0, 0)).2) x_3))
   (some out)) := by kernel_rfl
theorem spec_l07RowOf_L3.eq (t : ByteArray) (i : Int) (fu fu1 : Nat) : spec_l07RowOf_L3 fu (fu1 + 1) t i =
  (brB (ltI i (sz t))
   (optB (spec_l01Next fu t i) fun r0 =>
   chk (ltI (mulZ (addZ (ln ([] : List Int)) (ln (r0.1 :: ([] : List Int)))) 8) 140737488355328) <|
   chk (ltI (mulZ (addZ (ln ([] : List Int)) (ln (i :: ([] : List Int)))) 8) 140737488355328) <|
   spec_l07RowOf_L3'1 fu fu1 t (addI .i64 i r0.2.1) (catL ([] : List Int) (r0.1 :: ([] : List Int))) (catL ([] : List Int) (i :: ([] : List Int))))
   (chk (ltI (mulZ (addZ (ln ([] : List Int)) (ln ((sz t) :: ([] : List Int)))) 8) 140737488355328) <|
   some (([] : List Int), (catL ([] : List Int) ((sz t) :: ([] : List Int)))))) := by kernel_rfl
theorem spec_l07Char.eq (l : List T_i) (i : Int) (fu : Nat) : spec_l07Char (fu + 1) l i =
  (chk (leI 0 (subI .i64 i 1)) <|
  chk (ltI (subI .i64 i 1) (ln l)) <|
  chk (leI 0 i) <|
  chk (ltI i (ln l)) <|
  brB (eqI (rd l (subI .i64 i 1) 0) 13)
   (spec_l07Char_J4 fu l i (rd l (subI .i64 i 1) 0) (rd l i 0) (eqI (rd l i 0) 10))
   (spec_l07Char_J4 fu l i (rd l (subI .i64 i 1) 0) (rd l i 0) false)) := by kernel_rfl
theorem spec_l21Kept_L7.eq (a : List T_s) (b : List T_s) (i : Int) (k : Int) (l : List (List T_i)) (fu fu1 fu2 : Nat) : spec_l21Kept_L7 fu fu1 (fu2 + 1) a b i k l =
  (brB (leI 0 k)
   (brB (ltI i (ln a))
    (spec_l21Kept_J10 fu fu1 fu2 a b i k l)
    (spec_l21Kept_L3 fu fu1 a b (subI .i64 i 1) l))
   (spec_l21Kept_L3 fu fu1 a b (subI .i64 i 1) l)) := by kernel_rfl
theorem spec_l21Kept_L17.eq (a : List T_s) (b : List T_s) (k : Int) (i : Int) (l : List (List T_i)) (out : List T_i) (fu fu1 : Nat) : spec_l21Kept_L17 fu (fu1 + 1) a b k i l out =
  (brB (ltI i (ln a))
   (brB (ltI k (ln b))
    (chk (leI 0 i) <|
    chk (ltI i (ln a)) <|
    chk (leI 0 k) <|
    chk (ltI k (ln b)) <|
    spec_l21Kept_J20 fu fu1 a b k i (bytesEq (rd a i (bs [])) (rd b k (bs []))) l out)
    (spec_l21Kept_J20 fu fu1 a b k i false l out))
   (some out)) := by kernel_rfl
theorem spec_l21Joined_L3.eq (l : List T_s) (i : Int) (out : List T_y) (fu fu1 : Nat) : spec_l21Joined_L3 fu (fu1 + 1) l i out =
  (brB (ltI i (ln l))
   (chk (leI 0 i) <|
   chk (ltI i (ln l)) <|
   chk (ltI (mulZ (addZ (ln out) (ln (numsOf (rd l i (bs []))))) 1) 140737488355328) <|
   spec_l21Joined_L3 fu fu1 l (addI .i64 i 1) (catL out (numsOf (rd l i (bs [])))))
   (some (bytesOf out))) := by kernel_rfl
theorem impl_texts_L6.eq (s : ByteArray) (x : List T_issi) (x_1 : Int) (x_2 : Int) (out : List T_s) (fu fu1 : Nat) : impl_texts_L6 fu (fu1 + 1) s x x_1 x_2 out =
  (brB (ltI x_2 x_1)
   (chk (leI 0 x_2) <|
   chk (ltI x_2 (ln x)) <|
   brB (ltI ((rd x x_2 (0, ((bs []), ((bs []), 0)))).1) 0)
    (some (([] : List ByteArray), true))
    (brB (ltI (sz s) ((rd x x_2 (0, ((bs []), ((bs []), 0)))).1))
     (some (([] : List ByteArray), true))
     (chk (leI 0 ((rd x x_2 (0, ((bs []), ((bs []), 0)))).1)) <|
     chk (leI ((rd x x_2 (0, ((bs []), ((bs []), 0)))).1) (sz s)) <|
     optB (strings_HasPrefix fu (subs s ((rd x x_2 (0, ((bs []), ((bs []), 0)))).1) (sz s)) (((rd x x_2 (0, ((bs []), ((bs []), 0)))).2).1)) fun r0 =>
     brB (notB r0)
      (some (([] : List ByteArray), true))
      (brB (bytesEq (((rd x x_2 (0, ((bs []), ((bs []), 0)))).2).1) ((((rd x x_2 (0, ((bs []), ((bs []), 0)))).2).2).1))
       (some (([] : List ByteArray), true))
       (brB (ltI ((((rd x x_2 (0, ((bs []), ((bs []), 0)))).2).2).2) 0)
        (some (([] : List ByteArray), true))
        (brB (ltI 1000000 ((((rd x x_2 (0, ((bs []), ((bs []), 0)))).2).2).2))
         (some (([] : List ByteArray), true))
         (impl_texts_J10 fu fu1 s x x_1 x_2 out ((rd x x_2 (0, ((bs []), ((bs []), 0)))).1) (((rd x x_2 (0, ((bs []), ((bs []), 0)))).2).1) ((((rd x x_2 (0, ((bs []), ((bs []), 0)))).2).2).1) ((((rd x x_2 (0, ((bs []), ((bs []), 0)))).2).2).2))))))))
   (some (out, false))) := by kernel_rfl
theorem spec_l01Write.eq (p : Int) (fu : Nat) : spec_l01Write (fu + 1) p =
  (optB (spec_l01IsPoint fu p) fun r0 =>
  brB (notB r0)
   (spec_l01Write_J3 fu 65533)
   (spec_l01Write_J3 fu p)) := by kernel_rfl
theorem spec_l01Src_twoNear_L23.eq (a : ByteArray) (b : ByteArray) (k : Int) (x : Int) (s : List T_y) (s_1 : Int) (s_2 : Int) (s_3 : Int) (l : List T_s) (fu fu1 fu2 : Nat) : spec_l01Src_twoNear_L23 fu fu1 (fu2 + 1) a b k x s s_1 s_2 s_3 l =
  (brB (ltI x (ln l))
   (chk (leI 0 x) <|
   chk (ltI x (ln l)) <|
   chk (leI (addZ (sz b) (sz (rd l x (bs [])))) 9223372036854775807) <|
   spec_l01Src_twoNear_L23 fu fu1 fu2 a (catS b (rd l x (bs []))) k (addI .i64 x 1) s s_1 s_2 s_3 l)
   (spec_l01Src_twoNear_L4 fu fu1 a b (subI .i64 k 1) s s_1 s_2 s_3)) := by kernel_rfl
theorem impl_read_L3.eq (s : ByteArray) (i : Int) (fu fu1 : Nat) : impl_read_L3 fu (fu1 + 1) s i =
  (brB (ltI i (sz s))
   (chk (leI 0 i) <|
   chk (leI i (sz s)) <|
   optB (unicode_utf8_DecodeRuneInString fu (subs s i (sz s))) fun r0 =>
   brB (eqI r0.1 65533)
    (chk (ltI (mulZ (addZ (ln ([] : List (Int × Int × Int × Bool))) (ln (((wrI .i64 r0.1), (i, ((addI .i64 i r0.2), (eqI r0.2 1)))) :: ([] : List (Int × Int × Int × Bool))))) 32) 140737488355328) <|
    impl_read_L3'1 fu fu1 s (addI .i64 i r0.2) (catL ([] : List (Int × Int × Int × Bool)) (((wrI .i64 r0.1), (i, ((addI .i64 i r0.2), (eqI r0.2 1)))) :: ([] : List (Int × Int × Int × Bool)))))
    (chk (ltI (mulZ (addZ (ln ([] : List (Int × Int × Int × Bool))) (ln (((wrI .i64 r0.1), (i, ((addI .i64 i r0.2), false))) :: ([] : List (Int × Int × Int × Bool))))) 32) 140737488355328) <|
    impl_read_L3'1 fu fu1 s (addI .i64 i r0.2) (catL ([] : List (Int × Int × Int × Bool)) (((wrI .i64 r0.1), (i, ((addI .i64 i r0.2), false))) :: ([] : List (Int × Int × Int × Bool))))))
   (some ([] : List (Int × Int × Int × Bool)))) := by kernel_rfl
theorem impl_onlyPoints_L3.eq (x : List T_iiib) (x_1 : Int) (x_2 : Int) (out : List T_i) (fu fu1 : Nat) : impl_onlyPoints_L3 fu (fu1 + 1) x x_1 x_2 out =
  (brB (ltI x_2 x_1)
   (chk (leI 0 x_2) <|
   chk (ltI x_2 (ln x)) <|
   chk (leI 0 x_2) <|
   chk (ltI x_2 (ln out)) <|
   impl_onlyPoints_L3 fu fu1 x x_1 (addI .i64 x_2 1) (setI out x_2 ((rd x x_2 (0, (0, (0, false)))).1)))
   (some out)) := by kernel_rfl
theorem impl_charCuts_L4.eq (l : List T_i) (x : List T_i) (x_1 : Int) (x_2 : Int) (out : List T_b) (picture : Bool) (bind : Bool) (flags : Int) (fu fu1 : Nat) : impl_charCuts_L4 fu (fu1 + 1) l x x_1 x_2 out picture bind flags =
  (brB (ltI x_2 x_1)
   (chk (leI 0 x_2) <|
   chk (ltI x_2 (ln x)) <|
   optB (impl_charClass fu (rd x x_2 0)) fun r0 =>
   brB (ltI 0 x_2)
    (chk (leI 0 (subI .i64 x_2 1)) <|
    chk (ltI (subI .i64 x_2 1) (ln l)) <|
    optB (impl_charClass fu (rd l (subI .i64 x_2 1) 0)) fun r1 =>
    optB (impl_charCuts_1 fu (rd l (subI .i64 x_2 1) 0) (rd x x_2 0) r0 r1 bind picture flags) fun r2 =>
    chk (leI 0 x_2) <|
    chk (ltI x_2 (ln out)) <|
    impl_charCuts_J11 fu fu1 l x x_1 x_2 (setI out x_2 r2.1) r2.2.2.2.2.2.2.1 r2.2.2.2.2.2.1 r2.2.2.2.2.2.2.2 r2.2.2.1 r2.2.2.2.1)
    (impl_charCuts_J11 fu fu1 l x x_1 x_2 out picture bind flags (rd x x_2 0) r0))
   (some out)) := by kernel_rfl
theorem impl_placesOf_L5.eq (n : Int) (cut : List T_b) (x : List T_iiib) (x_1 : Int) (x_2 : Int) (out : List T_i) (fu fu1 : Nat) : impl_placesOf_L5 fu (fu1 + 1) n cut x x_1 x_2 out =
  (brB (ltI x_2 x_1)
   (chk (leI 0 x_2) <|
   chk (ltI x_2 (ln x)) <|
   brB (ltI 0 x_2)
    (chk (leI 0 x_2) <|
    chk (ltI x_2 (ln cut)) <|
    brB (rd cut x_2 false)
     (chk (ltI (mulZ (addZ (ln out) (ln (((rd x x_2 (0, (0, (0, false)))).2).1 :: ([] : List Int)))) 8) 140737488355328) <|
     impl_placesOf_L5 fu fu1 n cut x x_1 (addI .i64 x_2 1) (catL out (((rd x x_2 (0, (0, (0, false)))).2).1 :: ([] : List Int))))
     (impl_placesOf_L5 fu fu1 n cut x x_1 (addI .i64 x_2 1) out))
    (impl_placesOf_L5 fu fu1 n cut x x_1 (addI .i64 x_2 1) out))
   (chk (ltI (mulZ (addZ (ln out) (ln (n :: ([] : List Int)))) 8) 140737488355328) <|
   some (catL out (n :: ([] : List Int))))) := by kernel_rfl
theorem impl_piecesOf_L3'1.eq (text : ByteArray) (cuts : List T_i) (i : Int) (out : List T_s) (fu fu1 : Nat) : impl_piecesOf_L3'1 fu (fu1 + 1) text cuts i out =
  (brB (ltI i (ln cuts))
   (chk (leI 0 (subI .i64 i 1)) <|
   chk (ltI (subI .i64 i 1) (ln cuts)) <|
   chk (leI 0 i) <|
   chk (ltI i (ln cuts)) <|
   chk (leI 0 (rd cuts (subI .i64 i 1) 0)) <|
   chk (leI (rd cuts (subI .i64 i 1) 0) (rd cuts i 0)) <|
   chk (leI (rd cuts i 0) (sz text)) <|
   chk (ltI (mulZ (addZ (ln out) (ln ((subs text (rd cuts (subI .i64 i 1) 0) (rd cuts i 0)) :: ([] : List ByteArray)))) 16) 140737488355328) <|
   impl_piecesOf_L3'1 fu fu1 text cuts (addI .i64 i 1) (catL out ((subs text (rd cuts (subI .i64 i 1) 0) (rd cuts i 0)) :: ([] : List ByteArray))))
   (some out)) := by kernel_rfl
theorem impl_kept_J9.eq (a : List T_s) (b : List T_s) (i : Int) (j : Int) (m : List (List T_i)) (fu fu1 fu2 : Nat) : impl_kept_J9 fu fu1 fu2 a b i j m =
  (chk (leI 0 i) <|
  chk (ltI i (ln a)) <|
  chk (leI 0 j) <|
  chk (ltI j (ln b)) <|
  brB (bytesEq (rd a i (bs [])) (rd b j (bs [])))
   (chk (leI 0 i) <|
   chk (ltI i (ln m)) <|
   chk (leI 0 (addI .i64 i 1)) <|
   chk (ltI (addI .i64 i 1) (ln m)) <|
   chk (leI 0 (addI .i64 j 1)) <|
   chk (ltI (addI .i64 j 1) (ln (rd m (addI .i64 i 1) ([] : List Int)))) <|
   chk (leI 0 j) <|
   chk (ltI j (ln (rd m i ([] : List Int)))) <|
   impl_kept_L7 fu fu1 fu2 a b i (subI .i64 j 1) (setI m i (setI (rd m i ([] : List Int)) j (addI .i64 (rd (rd m (addI .i64 i 1) ([] : List Int)) (addI .i64 j 1) 0) 1))))
   (chk (leI 0 i) <|
   chk (ltI i (ln m)) <|
   chk (leI 0 (addI .i64 i 1)) <|
   chk (ltI (addI .i64 i 1) (ln m)) <|
   chk (leI 0 j) <|
   chk (ltI j (ln (rd m (addI .i64 i 1) ([] : List Int)))) <|
   chk (leI 0 i) <|
   chk (ltI i (ln m)) <|
   chk (leI 0 (addI .i64 j 1)) <|
   chk (ltI (addI .i64 j 1) (ln (rd m i ([] : List Int)))) <|
   chk (leI 0 j) <|
   chk (ltI j (ln (rd m i ([] : List Int)))) <|
   impl_kept_L7 fu fu1 fu2 a b i (subI .i64 j 1) (setI m i (setI (rd m i ([] : List Int)) j (maxI (rd (rd m (addI .i64 i 1) ([] : List Int)) j 0) (rd (rd m i ([] : List Int)) (addI .i64 j 1) 0)))))) := by unfold impl_kept_J9; rw [joinAt_eq]; kernel_rfl
theorem impl_kept_J16.eq (a : List T_s) (b : List T_s) (i : Int) (j : Int) (m : List (List T_i)) (fu fu1 : Nat) : impl_kept_J16 fu fu1 a b i j m =
  (chk (leI 0 i) <|
  chk (ltI i (ln a)) <|
  chk (leI 0 j) <|
  chk (ltI j (ln b)) <|
  brB (bytesEq (rd a i (bs [])) (rd b j (bs [])))
   (chk (ltI (mulZ (addZ (ln ([] : List (Int × Int))) (ln ((i, j) :: ([] : List (Int × Int))))) 16) 140737488355328) <|
   impl_kept_L14'1 fu fu1 a b (addI .i64 i 1) (addI .i64 j 1) m (catL ([] : List (Int × Int)) ((i, j) :: ([] : List (Int × Int)))))
   (chk (leI 0 (addI .i64 i 1)) <|
   chk (ltI (addI .i64 i 1) (ln m)) <|
   chk (leI 0 j) <|
   chk (ltI j (ln (rd m (addI .i64 i 1) ([] : List Int)))) <|
   chk (leI 0 i) <|
   chk (ltI i (ln m)) <|
   chk (leI 0 (addI .i64 j 1)) <|
   chk (ltI (addI .i64 j 1) (ln (rd m i ([] : List Int)))) <|
   brB (leI (rd (rd m i ([] : List Int)) (addI .i64 j 1) 0) (rd (rd m (addI .i64 i 1) ([] : List Int)) j 0))
    (impl_kept_L14 fu fu1 a b (addI .i64 i 1) j m)
    (impl_kept_L14 fu fu1 a b i (addI .i64 j 1) m))) := by unfold impl_kept_J16; rw [joinAt_eq]; kernel_rfl
theorem spec_l01Next.eq (t : ByteArray) (at' : Int) (fu : Nat) : spec_l01Next (fu + 1) t at' =
  (chk (leI 0 at') <|
  chk (ltI at' (sz t)) <|
  brB (ltI (wrI .i64 (bt t at')) 128)
   (some ((wrI .i64 (bt t at')), (1, true)))
   (brB (leI 194 (wrI .i64 (bt t at')))
    (brB (ltI (wrI .i64 (bt t at')) 224)
     (chk (notB (eqI 32 0)) <|
     spec_l01Next_J16 fu t at' 1 (remI (wrI .i64 (bt t at')) 32))
     (brB (leI 224 (wrI .i64 (bt t at')))
      (brB (ltI (wrI .i64 (bt t at')) 240)
       (chk (notB (eqI 16 0)) <|
       spec_l01Next_J16 fu t at' 2 (remI (wrI .i64 (bt t at')) 16))
       (brB (leI 240 (wrI .i64 (bt t at')))
        (brB (ltI (wrI .i64 (bt t at')) 245)
         (chk (notB (eqI 8 0)) <|
         spec_l01Next_J16 fu t at' 3 (remI (wrI .i64 (bt t at')) 8))
         (some (65533, (1, false))))
        (some (65533, (1, false)))))
      (brB (leI 240 (wrI .i64 (bt t at')))
       (brB (ltI (wrI .i64 (bt t at')) 245)
        (chk (notB (eqI 8 0)) <|
        spec_l01Next_J16 fu t at' 3 (remI (wrI .i64 (bt t at')) 8))
        (some (65533, (1, false))))
       (some (65533, (1, false))))))
    (brB (leI 224 (wrI .i64 (bt t at')))
     (brB (ltI (wrI .i64 (bt t at')) 240)
      (chk (notB (eqI 16 0)) <|
      spec_l01Next_J16 fu t at' 2 (remI (wrI .i64 (bt t at')) 16))
      (brB (leI 240 (wrI .i64 (bt t at')))
       (brB (ltI (wrI .i64 (bt t at')) 245)
        (chk (notB (eqI 8 0)) <|
        spec_l01Next_J16 fu t at' 3 (remI (wrI .i64 (bt t at')) 8))
        (some (65533, (1, false))))
       (some (65533, (1, false)))))
     (brB (leI 240 (wrI .i64 (bt t at')))
      (brB (ltI (wrI .i64 (bt t at')) 245)
       (chk (notB (eqI 8 0)) <|
       spec_l01Next_J16 fu t at' 3 (remI (wrI .i64 (bt t at')) 8))
       (some (65533, (1, false))))
      (some (65533, (1, false))))))) := by kernel_rfl
theorem spec_l07RowOf_L3'1.eq (t : ByteArray) (i : Int) (x : List T_i) (x_1 : List T_i) (fu fu1 : Nat) : spec_l07RowOf_L3'1 fu (fu1 + 1) t i x x_1 =
  (brB (ltI i (sz t))
   (optB (spec_l01Next fu t i) fun r0 =>
   chk (ltI (mulZ (addZ (ln x) (ln (r0.1 :: ([] : List Int)))) 8) 140737488355328) <|
   chk (ltI (mulZ (addZ (ln x_1) (ln (i :: ([] : List Int)))) 8) 140737488355328) <|
   spec_l07RowOf_L3'1 fu fu1 t (addI .i64 i r0.2.1) (catL x (r0.1 :: ([] : List Int))) (catL x_1 (i :: ([] : List Int))))
   (chk (ltI (mulZ (addZ (ln x_1) (ln ((sz t) :: ([] : List Int)))) 8) 140737488355328) <|
   some (x, (catL x_1 ((sz t) :: ([] : List Int)))))) := by kernel_rfl
theorem spec_l07Char_J4.eq (l : List T_i) (i : Int) (left : Int) (right : Int) (x : Bool) (fu : Nat) : spec_l07Char_J4 fu l i left right x =
  (brB x
   (some false)
   (optB (spec_l07Control fu left) fun r0 =>
   brB r0
    (spec_l07Char_J6 fu l i left right true)
    (optB (spec_l07Control fu right) fun r1 =>
    spec_l07Char_J6 fu l i left right r1))) := by unfold spec_l07Char_J4; rw [joinAt_eq]; kernel_rfl
theorem spec_l21Kept_J10.eq (a : List T_s) (b : List T_s) (i : Int) (k : Int) (l : List (List T_i)) (fu fu1 fu2 : Nat) : spec_l21Kept_J10 fu fu1 fu2 a b i k l =
  (chk (leI 0 i) <|
  chk (ltI i (ln a)) <|
  chk (leI 0 k) <|
  chk (ltI k (ln b)) <|
  brB (bytesEq (rd a i (bs [])) (rd b k (bs [])))
   (chk (leI 0 i) <|
   chk (ltI i (ln l)) <|
   chk (leI 0 (addI .i64 i 1)) <|
   chk (ltI (addI .i64 i 1) (ln l)) <|
   chk (leI 0 (addI .i64 k 1)) <|
   chk (ltI (addI .i64 k 1) (ln (rd l (addI .i64 i 1) ([] : List Int)))) <|
   chk (leI 0 k) <|
   chk (ltI k (ln (rd l i ([] : List Int)))) <|
   spec_l21Kept_L7 fu fu1 fu2 a b i (subI .i64 k 1) (setI l i (setI (rd l i ([] : List Int)) k (addI .i64 (rd (rd l (addI .i64 i 1) ([] : List Int)) (addI .i64 k 1) 0) 1))))
   (chk (leI 0 (addI .i64 i 1)) <|
   chk (ltI (addI .i64 i 1) (ln l)) <|
   chk (leI 0 k) <|
   chk (ltI k (ln (rd l (addI .i64 i 1) ([] : List Int)))) <|
   chk (leI 0 i) <|
   chk (ltI i (ln l)) <|
   chk (leI 0 (addI .i64 k 1)) <|
   chk (ltI (addI .i64 k 1) (ln (rd l i ([] : List Int)))) <|
   brB (leI (rd (rd l i ([] : List Int)) (addI .i64 k 1) 0) (rd (rd l (addI .i64 i 1) ([] : List Int)) k 0))
    (chk (leI 0 i) <|
    chk (ltI i (ln l)) <|
    chk (leI 0 (addI .i64 i 1)) <|
    chk (ltI (addI .i64 i 1) (ln l)) <|
    chk (leI 0 k) <|
    chk (ltI k (ln (rd l (addI .i64 i 1) ([] : List Int)))) <|
    chk (leI 0 k) <|
    chk (ltI k (ln (rd l i ([] : List Int)))) <|
    spec_l21Kept_L7 fu fu1 fu2 a b i (subI .i64 k 1) (setI l i (setI (rd l i ([] : List Int)) k (rd (rd l (addI .i64 i 1) ([] : List Int)) k 0))))
    (chk (leI 0 i) <|
    chk (ltI i (ln l)) <|
    chk (leI 0 i) <|
    chk (ltI i (ln l)) <|
    chk (leI 0 (addI .i64 k 1)) <|
    chk (ltI (addI .i64 k 1) (ln (rd l i ([] : List Int)))) <|
    chk (leI 0 k) <|
    chk (ltI k (ln (rd l i ([] : List Int)))) <|
    spec_l21Kept_L7 fu fu1 fu2 a b i (subI .i64 k 1) (setI l i (setI (rd l i ([] : List Int)) k (rd (rd l i ([] : List Int)) (addI .i64 k 1) 0)))))) := by unfold spec_l21Kept_J10; rw [joinAt_eq]; kernel_rfl
theorem spec_l21Kept_J20.eq (a : List T_s) (b : List T_s) (k : Int) (i : Int) (x : Bool) (l : List (List T_i)) (out : List T_i) (fu fu1 : Nat) : spec_l21Kept_J20 fu fu1 a b k i x l out =
  (brB x
   (chk (ltI (mulZ (addZ (ln out) (ln (k :: ([] : List Int)))) 8) 140737488355328) <|
   spec_l21Kept_L17 fu fu1 a b (addI .i64 k 1) (addI .i64 i 1) l (catL out (k :: ([] : List Int))))
   (brB (eqI k (ln b))
    (chk (ltI (mulZ (addZ (ln out) (ln ((-1) :: ([] : List Int)))) 8) 140737488355328) <|
    spec_l21Kept_L17 fu fu1 a b k (addI .i64 i 1) l (catL out ((-1) :: ([] : List Int))))
    (chk (leI 0 (addI .i64 i 1)) <|
    chk (ltI (addI .i64 i 1) (ln l)) <|
    chk (leI 0 k) <|
    chk (ltI k (ln (rd l (addI .i64 i 1) ([] : List Int)))) <|
    chk (leI 0 i) <|
    chk (ltI i (ln l)) <|
    chk (leI 0 (addI .i64 k 1)) <|
    chk (ltI (addI .i64 k 1) (ln (rd l i ([] : List Int)))) <|
    brB (leI (rd (rd l i ([] : List Int)) (addI .i64 k 1) 0) (rd (rd l (addI .i64 i 1) ([] : List Int)) k 0))
     (chk (ltI (mulZ (addZ (ln out) (ln ((-1) :: ([] : List Int)))) 8) 140737488355328) <|
     spec_l21Kept_L17 fu fu1 a b k (addI .i64 i 1) l (catL out ((-1) :: ([] : List Int))))
     (spec_l21Kept_L17 fu fu1 a b (addI .i64 k 1) i l out)))) := by unfold spec_l21Kept_J20; rw [joinAt_eq]; kernel_rfl
theorem strings_HasPrefix.eq (s : ByteArray) (prefix' : ByteArray) (fu : Nat) : strings_HasPrefix (fu + 1) s prefix' =
  (optB (internal_stringslite_HasPrefix fu s prefix') fun r0 =>
  some r0) := by kernel_rfl
theorem impl_texts_J10.eq (s : ByteArray) (x : List T_issi) (x_1 : Int) (x_2 : Int) (out : List T_s) (x_3 : Int) (x_4 : ByteArray) (x_5 : ByteArray) (x_6 : Int) (fu fu1 : Nat) : impl_texts_J10 fu fu1 s x x_1 x_2 out x_3 x_4 x_5 x_6 =
  (optB (impl_do fu s x_3 x_4 x_5 x_6) fun r0 =>
  optB (impl_long fu r0) fun r1 =>
  brB r1
   (some (([] : List ByteArray), true))
   (chk (ltI (mulZ (addZ (ln out) (ln (r0 :: ([] : List ByteArray)))) 16) 140737488355328) <|
   impl_texts_L6 fu fu1 r0 x x_1 (addI .i64 x_2 1) (catL out (r0 :: ([] : List ByteArray))))) := by unfold impl_texts_J10; rw [joinAt_eq]; kernel_rfl
theorem spec_l01IsPoint.eq (p : Int) (fu : Nat) : spec_l01IsPoint (fu + 1) p =
  (brB (leI 0 p)
   (brB (leI p 1114111)
    (brB (ltI p 55296)
     (some true)
     (some (ltI 57343 p)))
    (some false))
   (some false)) := by kernel_rfl
theorem spec_l01Write_J3.eq (p : Int) (fu : Nat) : spec_l01Write_J3 fu p =
  (brB (ltI p 128)
   (some (bytesOf ((wrI .u8 p) :: ([] : List Int))))
   (brB (ltI p 2048)
    (chk (notB (eqI 64 0)) <|
    chk (notB (eqI 64 0)) <|
    some (bytesOf ((wrI .u8 (addI .i64 192 (quoI .i64 p 64))) :: ((wrI .u8 (addI .i64 128 (remI p 64))) :: ([] : List Int)))))
    (brB (ltI p 65536)
     (chk (notB (eqI 4096 0)) <|
     chk (notB (eqI 64 0)) <|
     chk (notB (eqI 64 0)) <|
     chk (notB (eqI 64 0)) <|
     some (bytesOf ((wrI .u8 (addI .i64 224 (quoI .i64 p 4096))) :: ((wrI .u8 (addI .i64 128 (remI (quoI .i64 p 64) 64))) :: ((wrI .u8 (addI .i64 128 (remI p 64))) :: ([] : List Int))))))
     (chk (notB (eqI 262144 0)) <|
     chk (notB (eqI 4096 0)) <|
     chk (notB (eqI 64 0)) <|
     chk (notB (eqI 64 0)) <|
     chk (notB (eqI 64 0)) <|
     chk (notB (eqI 64 0)) <|
     some (bytesOf ((wrI .u8 (addI .i64 240 (quoI .i64 p 262144))) :: ((wrI .u8 (addI .i64 128 (remI (quoI .i64 p 4096) 64))) :: ((wrI .u8 (addI .i64 128 (remI (quoI .i64 p 64) 64))) :: ((wrI .u8 (addI .i64 128 (remI p 64))) :: ([] : List Int)))))))))) := by unfold spec_l01Write_J3; rw [joinAt_eq]; kernel_rfl
theorem impl_read_L3'1.eq (s : ByteArray) (i : Int) (out : List T_iiib) (fu fu1 : Nat) : impl_read_L3'1 fu (fu1 + 1) s i out =
  (brB (ltI i (sz s))
   (chk (leI 0 i) <|
   chk (leI i (sz s)) <|
   optB (unicode_utf8_DecodeRuneInString fu (subs s i (sz s))) fun r0 =>
   brB (eqI r0.1 65533)
    (chk (ltI (mulZ (addZ (ln out) (ln (((wrI .i64 r0.1), (i, ((addI .i64 i r0.2), (eqI r0.2 1)))) :: ([] : List (Int × Int × Int × Bool))))) 32) 140737488355328) <|
    impl_read_L3'1 fu fu1 s (addI .i64 i r0.2) (catL out (((wrI .i64 r0.1), (i, ((addI .i64 i r0.2), (eqI r0.2 1)))) :: ([] : List (Int × Int × Int × Bool)))))
    (chk (ltI (mulZ (addZ (ln out) (ln (((wrI .i64 r0.1), (i, ((addI .i64 i r0.2), false))) :: ([] : List (Int × Int × Int × Bool))))) 32) 140737488355328) <|
    impl_read_L3'1 fu fu1 s (addI .i64 i r0.2) (catL out (((wrI .i64 r0.1), (i, ((addI .i64 i r0.2), false))) :: ([] : List (Int × Int × Int × Bool))))))
   (some out)) := by kernel_rfl
theorem impl_charClass.eq (p : Int) (fu : Nat) : impl_charClass (fu + 1) p =
  (optB (impl_Category fu p) fun r0 =>
  brB (eqI r0 1)
   (impl_charClass_J2 fu p true)
   (impl_charClass_J2 fu p (eqI p 7954))) := by kernel_rfl
theorem impl_charCuts_1.eq (x : Int) (x_1 : Int) (x_2 : Int) (x_3 : Int) (x_4 : Bool) (x_5 : Bool) (x_6 : Int) (fu : Nat) : impl_charCuts_1 (fu + 1) x x_1 x_2 x_3 x_4 x_5 x_6 =
  (brB (eqI x 13)
   (impl_charCuts_1_J2 fu (eqI x_1 10) x x_1 x_2 x_3 x_4 x_5 x_6)
   (impl_charCuts_1_J2 fu false x x_1 x_2 x_3 x_4 x_5 x_6)) := by kernel_rfl
theorem impl_charCuts_J11.eq (l : List T_i) (x : List T_i) (x_1 : Int) (x_2 : Int) (out : List T_b) (picture : Bool) (bind : Bool) (flags : Int) (p : Int) (c : Int) (fu fu1 : Nat) : impl_charCuts_J11 fu fu1 l x x_1 x_2 out picture bind flags p c =
  (brB (notB (eqI c 2))
   (impl_charCuts_J13 fu fu1 l x x_1 x_2 out (eqI c 8) bind flags p c)
   (impl_charCuts_J13 fu fu1 l x x_1 x_2 out picture bind flags p c)) := by unfold impl_charCuts_J11; rw [joinAt_eq]; kernel_rfl
theorem impl_kept_L14'1.eq (a : List T_s) (b : List T_s) (i : Int) (j : Int) (m : List (List T_i)) (out : List T_ii) (fu fu1 : Nat) : impl_kept_L14'1 fu (fu1 + 1) a b i j m out =
  (brB (ltI i (ln a))
   (brB (ltI j (ln b))
    (impl_kept_J16'1 fu fu1 a b i j m out)
    (some out))
   (some out)) := by kernel_rfl
theorem spec_l01Next_J16.eq (t : ByteArray) (at' : Int) (n : Int) (p : Int) (fu : Nat) : spec_l01Next_J16 fu t at' n p =
  (brB (leI (sz t) (addI .i64 at' n))
   (some (65533, (1, false)))
   (spec_l01Next_L19 fu fu t at' n p 1)) := by unfold spec_l01Next_J16; rw [joinAt_eq]; kernel_rfl
theorem spec_l07Control.eq (p : Int) (fu : Nat) : spec_l07Control (fu + 1) p =
  (optB (spec_l01Cat fu p) fun r0 =>
  brB (eqI r0 1)
   (some true)
   (some (eqI p 7954))) := by kernel_rfl
theorem spec_l07Char_J6.eq (l : List T_i) (i : Int) (left : Int) (right : Int) (x : Bool) (fu : Nat) : spec_l07Char_J6 fu l i left right x =
  (brB x
   (some true)
   (optB (spec_l07Syllable fu left right) fun r0 =>
   brB r0
    (some false)
    (optB (spec_l07Mark fu right) fun r1 =>
    brB r1
     (some false)
     (brB (leI 1536 right)
      (brB (leI right 1567)
       (optB (spec_l07Bound fu l (subI .i64 i 1)) fun r2 =>
       spec_l07Char_J10 fu l i left right r2)
       (spec_l07Char_J10 fu l i left right false))
      (spec_l07Char_J10 fu l i left right false))))) := by unfold spec_l07Char_J6; rw [joinAt_eq]; kernel_rfl
theorem internal_stringslite_HasPrefix.eq (s : ByteArray) (prefix' : ByteArray) (fu : Nat) : internal_stringslite_HasPrefix (fu + 1) s prefix' =
  (brB (leI (sz prefix') (sz s))
   (chk (leI 0 (sz prefix')) <|
   chk (leI (sz prefix') (sz s)) <|
   some (bytesEq (subs s 0 (sz prefix')) prefix'))
   (some false)) := by kernel_rfl
theorem impl_do.eq (s : ByteArray) (x : Int) (x_1 : ByteArray) (x_2 : ByteArray) (x_3 : Int) (fu : Nat) : impl_do (fu + 1) s x x_1 x_2 x_3 =
  (chk (leI 0 x) <|
  chk (leI x (sz s)) <|
  chk (leI (addZ (sz (subs s 0 x)) (sz x_2)) 9223372036854775807) <|
  chk (leI 0 (addI .i64 x (sz x_1))) <|
  chk (leI (addI .i64 x (sz x_1)) (sz s)) <|
  chk (leI (addZ (sz (catS (subs s 0 x) x_2)) (sz (subs s (addI .i64 x (sz x_1)) (sz s)))) 9223372036854775807) <|
  some (catS (catS (subs s 0 x) x_2) (subs s (addI .i64 x (sz x_1)) (sz s)))) := by kernel_rfl
theorem impl_Category.eq (p : Int) (fu : Nat) : impl_Category (fu + 1) p =
  (optB (impl_kind fu p) fun r0 =>
  some r0.1) := by kernel_rfl
theorem impl_charClass_J2.eq (p : Int) (x : Bool) (fu : Nat) : impl_charClass_J2 fu p x =
  (brB x
   (some 1)
   (optB (impl_isMark fu p) fun r0 =>
   brB r0
    (impl_charClass_J4 fu p true)
    (brB (eqI p 7936)
     (impl_charClass_J4 fu p true)
     (optB (impl_in fu p 7744 7748) fun r1 =>
     impl_charClass_J4 fu p r1)))) := by unfold impl_charClass_J2; rw [joinAt_eq]; kernel_rfl
theorem impl_charCuts_1_J2.eq (x : Bool) (x_1 : Int) (x_2 : Int) (x_3 : Int) (x_4 : Int) (x_5 : Bool) (x_6 : Bool) (x_7 : Int) (fu : Nat) : impl_charCuts_1_J2 fu x x_1 x_2 x_3 x_4 x_5 x_6 x_7 =
  (brB x
   (some (false, (x_1, (x_2, (x_3, (x_4, (x_5, (x_6, x_7))))))))
   (brB (eqI x_3 1)
    (impl_charCuts_1_J4 fu true x_1 x_2 x_3 x_4 x_5 x_6 x_7)
    (impl_charCuts_1_J4 fu (eqI x_4 1) x_1 x_2 x_3 x_4 x_5 x_6 x_7))) := by unfold impl_charCuts_1_J2; rw [joinAt_eq]; kernel_rfl
theorem impl_charCuts_J13.eq (l : List T_i) (x : List T_i) (x_1 : Int) (x_2 : Int) (out : List T_b) (picture : Bool) (bind : Bool) (flags : Int) (p : Int) (c : Int) (fu fu1 : Nat) : impl_charCuts_J13 fu fu1 l x x_1 x_2 out picture bind flags p c =
  (brB (eqI p 1584)
   (brB (eqI c 9)
    (impl_charCuts_J17 fu fu1 l x x_1 x_2 out picture true (addI .i64 flags 1))
    (impl_charCuts_J17 fu fu1 l x x_1 x_2 out picture true 0))
   (brB (eqI p 1585)
    (brB (eqI c 9)
     (impl_charCuts_J17 fu fu1 l x x_1 x_2 out picture bind (addI .i64 flags 1))
     (impl_charCuts_J17 fu fu1 l x x_1 x_2 out picture bind 0))
    (brB (eqI c 9)
     (impl_charCuts_J17 fu fu1 l x x_1 x_2 out picture false (addI .i64 flags 1))
     (impl_charCuts_J17 fu fu1 l x x_1 x_2 out picture false 0)))) := by unfold impl_charCuts_J13; rw [joinAt_eq]; kernel_rfl
theorem impl_kept_J16'1.eq (a : List T_s) (b : List T_s) (i : Int) (j : Int) (m : List (List T_i)) (out : List T_ii) (fu fu1 : Nat) : impl_kept_J16'1 fu fu1 a b i j m out =
  (chk (leI 0 i) <|
  chk (ltI i (ln a)) <|
  chk (leI 0 j) <|
  chk (ltI j (ln b)) <|
  brB (bytesEq (rd a i (bs [])) (rd b j (bs [])))
   (chk (ltI (mulZ (addZ (ln out) (ln ((i, j) :: ([] : List (Int × Int))))) 16) 140737488355328) <|
   impl_kept_L14'1 fu fu1 a b (addI .i64 i 1) (addI .i64 j 1) m (catL out ((i, j) :: ([] : List (Int × Int)))))
   (chk (leI 0 (addI .i64 i 1)) <|
   chk (ltI (addI .i64 i 1) (ln m)) <|
   chk (leI 0 j) <|
   chk (ltI j (ln (rd m (addI .i64 i 1) ([] : List Int)))) <|
   chk (leI 0 i) <|
   chk (ltI i (ln m)) <|
   chk (leI 0 (addI .i64 j 1)) <|
   chk (ltI (addI .i64 j 1) (ln (rd m i ([] : List Int)))) <|
   brB (leI (rd (rd m i ([] : List Int)) (addI .i64 j 1) 0) (rd (rd m (addI .i64 i 1) ([] : List Int)) j 0))
    (impl_kept_L14'1 fu fu1 a b (addI .i64 i 1) j m out)
    (impl_kept_L14'1 fu fu1 a b i (addI .i64 j 1) m out))) := by unfold impl_kept_J16'1; rw [joinAt_eq]; kernel_rfl
theorem spec_l01Next_L19.eq (t : ByteArray) (at' : Int) (n : Int) (p : Int) (i : Int) (fu fu1 : Nat) : spec_l01Next_L19 fu (fu1 + 1) t at' n p i =
  (brB (leI i n)
   (chk (leI 0 (addI .i64 at' i)) <|
   chk (ltI (addI .i64 at' i) (sz t)) <|
   brB (ltI (wrI .i64 (bt t (addI .i64 at' i))) 128)
    (some (65533, (1, false)))
    (brB (ltI 191 (wrI .i64 (bt t (addI .i64 at' i))))
     (some (65533, (1, false)))
     (chk (notB (eqI 64 0)) <|
     spec_l01Next_L19 fu fu1 t at' n (addI .i64 (mulI .i64 p 64) (remI (wrI .i64 (bt t (addI .i64 at' i))) 64)) (addI .i64 i 1))))
   (optB (spec_l01IsPoint fu p) fun r0 =>
   brB (notB r0)
    (some (65533, (1, false)))
    (optB (spec_l01Write fu p) fun r1 =>
    brB (notB (eqI (sz r1) (addI .i64 n 1)))
     (some (65533, (1, false)))
     (some (p, ((addI .i64 n 1), true)))))) := by kernel_rfl
theorem spec_l01Cat.eq (p : Int) (fu : Nat) : spec_l01Cat (fu + 1) p =
  (optB (spec_l01Known fu p) fun r0 =>
  some r0.1) := by kernel_rfl
theorem spec_l07Syllable.eq (a : Int) (b : Int) (fu : Nat) : spec_l07Syllable (fu + 1) a b =
  (optB (spec_l07Part fu a) fun r0 =>
  optB (spec_l07Part fu b) fun r1 =>
  brB (eqI r0 1)
   (brB (eqI r1 1)
    (some true)
    (brB (eqI r1 2)
     (some true)
     (brB (eqI r1 4)
      (some true)
      (some (eqI r1 5)))))
   (brB (eqI r0 2)
    (spec_l07Syllable_J8 fu r1 r0 (eqI r0 2))
    (spec_l07Syllable_J8 fu r1 r0 (eqI r0 4)))) := by kernel_rfl
theorem spec_l07Mark.eq (p : Int) (fu : Nat) : spec_l07Mark (fu + 1) p =
  (optB (spec_l01Cat fu p) fun r0 =>
  brB (eqI r0 3)
   (some true)
   (brB (eqI p 7936)
    (some true)
    (brB (leI 7744 p)
     (some (leI p 7748))
     (some false)))) := by kernel_rfl
theorem spec_l07Bound.eq (l : List T_i) (at' : Int) (fu : Nat) : spec_l07Bound (fu + 1) l at' =
  (spec_l07Bound_L1 fu fu l at') := by kernel_rfl
theorem spec_l07Char_J10.eq (l : List T_i) (i : Int) (left : Int) (right : Int) (x : Bool) (fu : Nat) : spec_l07Char_J10 fu l i left right x =
  (brB x
   (some false)
   (brB (eqI left 7936)
    (optB (spec_l07Picture fu right) fun r0 =>
    brB r0
     (spec_l07Char_L13 fu fu l (subI .i64 i 2))
     (optB (spec_l07Flag fu left) fun r1 =>
     brB r1
      (optB (spec_l07Flag fu right) fun r2 =>
      brB r2
       (optB (spec_l07Flags fu l (subI .i64 i 1)) fun r3 =>
       chk (notB (eqI 2 0)) <|
       some (eqI (remI r3 2) 0))
       (spec_l07Char_J18 fu))
      (spec_l07Char_J18 fu)))
    (optB (spec_l07Flag fu left) fun r0 =>
    brB r0
     (optB (spec_l07Flag fu right) fun r1 =>
     brB r1
      (optB (spec_l07Flags fu l (subI .i64 i 1)) fun r2 =>
      chk (notB (eqI 2 0)) <|
      some (eqI (remI r2 2) 0))
      (spec_l07Char_J18 fu))
     (spec_l07Char_J18 fu)))) := by unfold spec_l07Char_J10; rw [joinAt_eq]; kernel_rfl
theorem impl_kind.eq (p : Int) (fu : Nat) : impl_kind (fu + 1) p =
  (optB (impl_block fu p) fun r0 =>
  brB (ltI 0 r0.1)
   (chk (leI 0 8) <|
   brB (ltI r0.2 32)
    (some (4, (shrI .i64 r0.1 8)))
    (optB (impl_in fu r0.2 64 67) fun r1 =>
    brB r1
     (some (4, (shrI .i64 r0.1 8)))
     (brB (ltI r0.2 64)
      (some (5, (shrI .i64 r0.1 8)))
      (optB (impl_in fu r0.2 72 75) fun r2 =>
      brB r2
       (some (5, (shrI .i64 r0.1 8)))
       (optB (impl_in fu r0.2 96 97) fun r3 =>
       brB r3
        (some (5, (shrI .i64 r0.1 8)))
        (optB (impl_in fu r0.2 68 71) fun r4 =>
        brB r4
         (some (6, (shrI .i64 r0.1 8)))
         (optB (impl_in fu r0.2 80 89) fun r5 =>
         brB r5
          (some (8, (shrI .i64 r0.1 8)))
          (some (0, 0)))))))))
   (optB (impl_in fu p 0 31) fun r1 =>
   brB r1
    (impl_kind_J14 fu p true)
    (optB (impl_in fu p 127 159) fun r2 =>
    impl_kind_J14 fu p r2))) := by kernel_rfl
theorem impl_isMark.eq (p : Int) (fu : Nat) : impl_isMark (fu + 1) p =
  (optB (impl_Category fu p) fun r0 =>
  some (eqI r0 3)) := by kernel_rfl
theorem impl_charClass_J4.eq (p : Int) (x : Bool) (fu : Nat) : impl_charClass_J4 fu p x =
  (brB x
   (some 2)
   (optB (impl_in fu p 1792 1810) fun r0 =>
   brB r0
    (some 3)
    (optB (impl_in fu p 1824 1844) fun r1 =>
    brB r1
     (some 4)
     (optB (impl_in fu p 1857 1883) fun r2 =>
     brB r2
      (some 5)
      (optB (impl_isOpen fu p) fun r3 =>
      brB r3
       (some 6)
       (optB (impl_isSyllable fu p) fun r4 =>
       brB r4
        (some 7)
        (optB (impl_isPicture fu p) fun r5 =>
        brB r5
         (some 8)
         (optB (impl_in fu p 7760 7785) fun r6 =>
         brB r6
          (some 9)
          (some 0))))))))) := by unfold impl_charClass_J4; rw [joinAt_eq]; kernel_rfl
theorem impl_in.eq (p : Int) (a : Int) (b : Int) (fu : Nat) : impl_in (fu + 1) p a b =
  (brB (leI a p)
   (some (leI p b))
   (some false)) := by kernel_rfl
theorem impl_charCuts_1_J4.eq (x : Bool) (x_1 : Int) (x_2 : Int) (x_3 : Int) (x_4 : Int) (x_5 : Bool) (x_6 : Bool) (x_7 : Int) (fu : Nat) : impl_charCuts_1_J4 fu x x_1 x_2 x_3 x_4 x_5 x_6 x_7 =
  (brB x
   (some (true, (x_1, (x_2, (x_3, (x_4, (x_5, (x_6, x_7))))))))
   (brB (eqI x_4 3)
    (brB (eqI x_3 3)
     (impl_charCuts_1_J6 fu true x_1 x_2 x_3 x_4 x_5 x_6 x_7)
     (brB (eqI x_3 4)
      (impl_charCuts_1_J6 fu true x_1 x_2 x_3 x_4 x_5 x_6 x_7)
      (brB (eqI x_3 6)
       (impl_charCuts_1_J6 fu true x_1 x_2 x_3 x_4 x_5 x_6 x_7)
       (impl_charCuts_1_J6 fu (eqI x_3 7) x_1 x_2 x_3 x_4 x_5 x_6 x_7))))
    (impl_charCuts_1_J6 fu false x_1 x_2 x_3 x_4 x_5 x_6 x_7))) := by unfold impl_charCuts_1_J4; rw [joinAt_eq]; kernel_rfl
theorem impl_charCuts_J17.eq (l : List T_i) (x : List T_i) (x_1 : Int) (x_2 : Int) (out : List T_b) (picture : Bool) (bind : Bool) (flags : Int) (fu fu1 : Nat) : impl_charCuts_J17 fu fu1 l x x_1 x_2 out picture bind flags =
  (impl_charCuts_L4 fu fu1 l x x_1 (addI .i64 x_2 1) out picture bind flags) := by unfold impl_charCuts_J17; rw [joinAt_eq]; kernel_rfl
theorem spec_l01Known.eq (p : Int) (fu : Nat) : spec_l01Known (fu + 1) p =
  (brB (leI 512 p)
   (brB (ltI p 1280)
    (optB (spec_l01Cased fu) fun r0 =>
    spec_l01Known_L4 fu fu p 0 r0)
    (brB (leI 8192 p)
     (brB (ltI p 9728)
      (chk (notB (eqI 512 0)) <|
      brB (leI 416 (remI p 512))
       (some (0, 0))
       (brB (ltI (remI p 512) 208)
        (some (4, 1))
        (some (5, 1))))
      (optB (spec_l01Rows fu) fun r0 =>
      spec_l01Known_L18 fu fu p 0 r0))
     (optB (spec_l01Rows fu) fun r0 =>
     spec_l01Known_L18 fu fu p 0 r0)))
   (brB (leI 8192 p)
    (brB (ltI p 9728)
     (chk (notB (eqI 512 0)) <|
     brB (leI 416 (remI p 512))
      (some (0, 0))
      (brB (ltI (remI p 512) 208)
       (some (4, 1))
       (some (5, 1))))
     (optB (spec_l01Rows fu) fun r0 =>
     spec_l01Known_L18 fu fu p 0 r0))
    (optB (spec_l01Rows fu) fun r0 =>
    spec_l01Known_L18 fu fu p 0 r0))) := by kernel_rfl
theorem spec_l07Part.eq (p : Int) (fu : Nat) : spec_l07Part (fu + 1) p =
  (brB (leI 1792 p)
   (brB (leI p 1810)
    (some 1)
    (brB (leI 1824 p)
     (brB (leI p 1844)
      (some 2)
      (brB (leI 1857 p)
       (brB (leI p 1883)
        (some 3)
        (brB (leI 12288 p)
         (brB (leI p 23459)
          (chk (notB (eqI 28 0)) <|
          brB (eqI (remI (subI .i64 p 12288) 28) 0)
           (some 4)
           (brB (leI 12288 p)
            (brB (leI p 23459)
             (some 5)
             (spec_l07Part_J11 fu))
            (spec_l07Part_J11 fu)))
          (brB (leI 12288 p)
           (brB (leI p 23459)
            (some 5)
            (spec_l07Part_J11 fu))
           (spec_l07Part_J11 fu)))
         (brB (leI 12288 p)
          (brB (leI p 23459)
           (some 5)
           (spec_l07Part_J11 fu))
          (spec_l07Part_J11 fu))))
       (brB (leI 12288 p)
        (brB (leI p 23459)
         (chk (notB (eqI 28 0)) <|
         brB (eqI (remI (subI .i64 p 12288) 28) 0)
          (some 4)
          (brB (leI 12288 p)
           (brB (leI p 23459)
            (some 5)
            (spec_l07Part_J11 fu))
           (spec_l07Part_J11 fu)))
         (brB (leI 12288 p)
          (brB (leI p 23459)
           (some 5)
           (spec_l07Part_J11 fu))
          (spec_l07Part_J11 fu)))
        (brB (leI 12288 p)
         (brB (leI p 23459)
          (some 5)
          (spec_l07Part_J11 fu))
         (spec_l07Part_J11 fu)))))
     (brB (leI 1857 p)
      (brB (leI p 1883)
       (some 3)
       (brB (leI 12288 p)
        (brB (leI p 23459)
         (chk (notB (eqI 28 0)) <|
         brB (eqI (remI (subI .i64 p 12288) 28) 0)
          (some 4)
          (brB (leI 12288 p)
           (brB (leI p 23459)
            (some 5)
            (spec_l07Part_J11 fu))
           (spec_l07Part_J11 fu)))
         (brB (leI 12288 p)
          (brB (leI p 23459)
           (some 5)
           (spec_l07Part_J11 fu))
          (spec_l07Part_J11 fu)))
        (brB (leI 12288 p)
         (brB (leI p 23459)
          (some 5)
          (spec_l07Part_J11 fu))
         (spec_l07Part_J11 fu))))
      (brB (leI 12288 p)
       (brB (leI p 23459)
        (chk (notB (eqI 28 0)) <|
        brB (eqI (remI (subI .i64 p 12288) 28) 0)
         (some 4)
         (brB (leI 12288 p)
          (brB (leI p 23459)
           (some 5)
           (spec_l07Part_J11 fu))
          (spec_l07Part_J11 fu)))
        (brB (leI 12288 p)
         (brB (leI p 23459)
          (some 5)
          (spec_l07Part_J11 fu))
         (spec_l07Part_J11 fu)))
       (brB (leI 12288 p)
        (brB (leI p 23459)
         (some 5)
         (spec_l07Part_J11 fu))
        (spec_l07Part_J11 fu))))))
   (brB (leI 1824 p)
    (brB (leI p 1844)
     (some 2)
     (brB (leI 1857 p)
      (brB (leI p 1883)
       (some 3)
       (brB (leI 12288 p)
        (brB (leI p 23459)
         (chk (notB (eqI 28 0)) <|
         brB (eqI (remI (subI .i64 p 12288) 28) 0)
          (some 4)
          (brB (leI 12288 p)
           (brB (leI p 23459)
            (some 5)
            (spec_l07Part_J11 fu))
           (spec_l07Part_J11 fu)))
         (brB (leI 12288 p)
          (brB (leI p 23459)
           (some 5)
           (spec_l07Part_J11 fu))
          (spec_l07Part_J11 fu)))
        (brB (leI 12288 p)
         (brB (leI p 23459)
          (some 5)
          (spec_l07Part_J11 fu))
         (spec_l07Part_J11 fu))))
      (brB (leI 12288 p)
       (brB (leI p 23459)
        (chk (notB (eqI 28 0)) <|
        brB (eqI (remI (subI .i64 p 12288) 28) 0)
         (some 4)
         (brB (leI 12288 p)
          (brB (leI p 23459)
           (some 5)
           (spec_l07Part_J11 fu))
          (spec_l07Part_J11 fu)))
        (brB (leI 12288 p)
         (brB (leI p 23459)
          (some 5)
          (spec_l07Part_J11 fu))
         (spec_l07Part_J11 fu)))
       (brB (leI 12288 p)
        (brB (leI p 23459)
         (some 5)
         (spec_l07Part_J11 fu))
        (spec_l07Part_J11 fu)))))
    (brB (leI 1857 p)
     (brB (leI p 1883)
      (some 3)
      (brB (leI 12288 p)
       (brB (leI p 23459)
        (chk (notB (eqI 28 0)) <|
        brB (eqI (remI (subI .i64 p 12288) 28) 0)
         (some 4)
         (brB (leI 12288 p)
          (brB (leI p 23459)
           (some 5)
           (spec_l07Part_J11 fu))
          (spec_l07Part_J11 fu)))
        (brB (leI 12288 p)
         (brB (leI p 23459)
          (some 5)
          (spec_l07Part_J11 fu))
         (spec_l07Part_J11 fu)))
       (brB (leI 12288 p)
        (brB (leI p 23459)
         (some 5)
         (spec_l07Part_J11 fu))
        (spec_l07Part_J11 fu))))
     (brB (leI 12288 p)
      (brB (leI p 23459)
       (chk (notB (eqI 28 0)) <|
       brB (eqI (remI (subI .i64 p 12288) 28) 0)
        (some 4)
        (brB (leI 12288 p)
         (brB (leI p 23459)
          (some 5)
          (spec_l07Part_J11 fu))
         (spec_l07Part_J11 fu)))
       (brB (leI 12288 p)
        (brB (leI p 23459)
         (some 5)
         (spec_l07Part_J11 fu))
        (spec_l07Part_J11 fu)))
      (brB (leI 12288 p)
       (brB (leI p 23459)
        (some 5)
        (spec_l07Part_J11 fu))
       (spec_l07Part_J11 fu)))))) := by kernel_rfl
theorem spec_l07Syllable_J8.eq (y : Int) (x : Int) (x_1 : Bool) (fu : Nat) : spec_l07Syllable_J8 fu y x x_1 =
  (brB x_1
   (brB (eqI y 2)
    (some true)
    (some (eqI y 3)))
   (brB (eqI x 3)
    (brB (eqI x 3)
     (some (eqI y 3))
     (some false))
    (brB (eqI x 5)
     (some (eqI y 3))
     (some false)))) := by unfold spec_l07Syllable_J8; rw [joinAt_eq]; kernel_rfl
theorem spec_l07Bound_L1.eq (l : List T_i) (at' : Int) (fu fu1 : Nat) : spec_l07Bound_L1 fu (fu1 + 1) l at' =
  (brB (ltI 0 at')
   (chk (leI 0 at') <|
   chk (ltI at' (ln l)) <|
   brB (eqI (rd l at' 0) 1585)
    (spec_l07Bound_L1 fu fu1 l (subI .i64 at' 1))
    (chk (leI 0 at') <|
    chk (ltI at' (ln l)) <|
    some (eqI (rd l at' 0) 1584)))
   (chk (leI 0 at') <|
   chk (ltI at' (ln l)) <|
   some (eqI (rd l at' 0) 1584))) := by kernel_rfl
theorem spec_l07Picture.eq (p : Int) (fu : Nat) : spec_l07Picture (fu + 1) p =
  (brB (leI 7680 p)
   (some (leI p 7743))
   (some false)) := by kernel_rfl
theorem spec_l07Char_L13.eq (l : List T_i) (k : Int) (fu fu1 : Nat) : spec_l07Char_L13 fu (fu1 + 1) l k =
  (brB (leI 0 k)
   (chk (leI 0 k) <|
   chk (ltI k (ln l)) <|
   optB (spec_l07Mark fu (rd l k 0)) fun r0 =>
   brB r0
    (spec_l07Char_L13 fu fu1 l (subI .i64 k 1))
    (brB (ltI k 0)
     (some true)
     (chk (leI 0 k) <|
     chk (ltI k (ln l)) <|
     optB (spec_l07Picture fu (rd l k 0)) fun r1 =>
     some (notB r1))))
   (brB (ltI k 0)
    (some true)
    (chk (leI 0 k) <|
    chk (ltI k (ln l)) <|
    optB (spec_l07Picture fu (rd l k 0)) fun r0 =>
    some (notB r0)))) := by kernel_rfl
theorem spec_l07Flag.eq (p : Int) (fu : Nat) : spec_l07Flag (fu + 1) p =
  (brB (leI 7760 p)
   (some (leI p 7785))
   (some false)) := by kernel_rfl
theorem spec_l07Flags.eq (l : List T_i) (at' : Int) (fu : Nat) : spec_l07Flags (fu + 1) l at' =
  (spec_l07Flags_L2 fu fu l at' 0) := by kernel_rfl
theorem spec_l07Char_J18.eq (fu : Nat) : spec_l07Char_J18 fu =
  (some true) := by unfold spec_l07Char_J18; rw [joinAt_eq]; kernel_rfl
theorem impl_block.eq (p : Int) (fu : Nat) : impl_block (fu + 1) p =
  (brB (leI 512 p)
   (brB (ltI p 1280)
    (some ((andNotI .i64 p 255), (andI .i64 p 255)))
    (some (0, 0)))
   (some (0, 0))) := by kernel_rfl
theorem impl_kind_J14.eq (p : Int) (x : Bool) (fu : Nat) : impl_kind_J14 fu p x =
  (brB x
   (some (1, 0))
   (brB (eqI p 32)
    (impl_kind_J16 fu p true)
    (brB (eqI p 160)
     (impl_kind_J16 fu p true)
     (impl_kind_J16 fu p (eqI p 8064))))) := by unfold impl_kind_J14; rw [joinAt_eq]; kernel_rfl
theorem impl_isOpen.eq (p : Int) (fu : Nat) : impl_isOpen (fu + 1) p =
  (optB (impl_isSyllable fu p) fun r0 =>
  brB r0
   (chk (notB (eqI 28 0)) <|
   some (eqI (remI (subI .i64 p 12288) 28) 0))
   (some false)) := by kernel_rfl
theorem impl_isSyllable.eq (p : Int) (fu : Nat) : impl_isSyllable (fu + 1) p =
  (optB (impl_in fu p 12288 23459) fun r0 =>
  some r0) := by kernel_rfl
theorem impl_isPicture.eq (p : Int) (fu : Nat) : impl_isPicture (fu + 1) p =
  (optB (impl_in fu p 7680 7743) fun r0 =>
  some r0) := by kernel_rfl
theorem impl_charCuts_1_J6.eq (x : Bool) (x_1 : Int) (x_2 : Int) (x_3 : Int) (x_4 : Int) (x_5 : Bool) (x_6 : Bool) (x_7 : Int) (fu : Nat) : impl_charCuts_1_J6 fu x x_1 x_2 x_3 x_4 x_5 x_6 x_7 =
  (brB x
   (some (false, (x_1, (x_2, (x_3, (x_4, (x_5, (x_6, x_7))))))))
   (brB (eqI x_4 4)
    (brB (eqI x_3 4)
     (impl_charCuts_1_J8 fu true x_1 x_2 x_3 x_4 x_5 x_6 x_7)
     (impl_charCuts_1_J8 fu (eqI x_3 5) x_1 x_2 x_3 x_4 x_5 x_6 x_7))
    (brB (eqI x_4 6)
     (brB (eqI x_3 4)
      (impl_charCuts_1_J8 fu true x_1 x_2 x_3 x_4 x_5 x_6 x_7)
      (impl_charCuts_1_J8 fu (eqI x_3 5) x_1 x_2 x_3 x_4 x_5 x_6 x_7))
     (impl_charCuts_1_J8 fu false x_1 x_2 x_3 x_4 x_5 x_6 x_7)))) := by unfold impl_charCuts_1_J6; rw [joinAt_eq]; kernel_rfl
theorem spec_l01Cased.eq (fu : Nat) : spec_l01Cased (fu + 1) =
  (some ((0, (31, (4, 0))) :: ((32, (63, (5, 0))) :: ((64, (67, (4, 0))) :: ((68, (71, (6, 0))) :: ((72, (75, (5, 0))) :: ((80, (89, (8, 0))) :: ((96, (97, (5, 0))) :: ([] : List (Int × Int × Int × Int)))))))))) := by kernel_rfl
theorem spec_l01Known_L4.eq (p : Int) (i : Int) (rows : List T_iiii) (fu fu1 : Nat) : spec_l01Known_L4 fu (fu1 + 1) p i rows =
  (brB (ltI i (ln rows))
   (chk (notB (eqI 256 0)) <|
   chk (leI 0 i) <|
   chk (ltI i (ln rows)) <|
   brB (leI ((rd rows i (0, (0, (0, 0)))).1) (remI p 256))
    (chk (notB (eqI 256 0)) <|
    chk (leI 0 i) <|
    chk (ltI i (ln rows)) <|
    brB (leI (remI p 256) (((rd rows i (0, (0, (0, 0)))).2).1))
     (chk (leI 0 i) <|
     chk (ltI i (ln rows)) <|
     chk (notB (eqI 256 0)) <|
     some ((((rd rows i (0, (0, (0, 0)))).2).2).1, (quoI .i64 p 256)))
     (spec_l01Known_L4 fu fu1 p (addI .i64 i 1) rows))
    (spec_l01Known_L4 fu fu1 p (addI .i64 i 1) rows))
   (some (0, 0))) := by kernel_rfl
theorem spec_l01Rows.eq (fu : Nat) : spec_l01Rows (fu + 1) =
  (some ((0, (31, (1, 0))) :: ((32, (32, (2, 0))) :: ((48, (57, (8, 0))) :: ((65, (90, (4, 1))) :: ((97, (122, (5, 1))) :: ((33, (126, (9, 0))) :: ((127, (159, (1, 0))) :: ((160, (160, (2, 0))) :: ((173, (173, (11, 0))) :: ((161, (191, (10, 0))) :: ((1280, (1311, (7, 5))) :: ((1360, (1369, (8, 5))) :: ((1536, (1567, (7, 6))) :: ((1568, (1579, (3, 6))) :: ((1584, (1585, (3, 6))) :: ((1616, (1625, (8, 6))) :: ((1792, (1810, (7, 7))) :: ((1824, (1844, (7, 7))) :: ((1857, (1883, (7, 7))) :: ((2048, (2095, (7, 8))) :: ((4096, (4159, (3, 0))) :: ((7680, (7748, (10, 0))) :: ((7760, (7785, (10, 0))) :: ((7936, (7947, (11, 0))) :: ((7953, (7954, (11, 0))) :: ((8064, (8064, (2, 0))) :: ((9728, (9753, (4, 1))) :: ((9984, (10009, (10, 0))) :: ((10016, (10025, (8, 0))) :: ((10032, (10035, (10, 0))) :: ((12288, (23459, (7, 7))) :: ((24576, (26623, (7, 9))) :: ([] : List (Int × Int × Int × Int))))))))))))))))))))))))))))))))))) := by kernel_rfl
theorem spec_l01Known_L18.eq (p : Int) (i : Int) (rows : List T_iiii) (fu fu1 : Nat) : spec_l01Known_L18 fu (fu1 + 1) p i rows =
  (brB (ltI i (ln rows))
   (chk (leI 0 i) <|
   chk (ltI i (ln rows)) <|
   brB (leI ((rd rows i (0, (0, (0, 0)))).1) p)
    (chk (leI 0 i) <|
    chk (ltI i (ln rows)) <|
    brB (leI p (((rd rows i (0, (0, (0, 0)))).2).1))
     (chk (leI 0 i) <|
     chk (ltI i (ln rows)) <|
     chk (leI 0 i) <|
     chk (ltI i (ln rows)) <|
     some ((((rd rows i (0, (0, (0, 0)))).2).2).1, (((rd rows i (0, (0, (0, 0)))).2).2).2))
     (spec_l01Known_L18 fu fu1 p (addI .i64 i 1) rows))
    (spec_l01Known_L18 fu fu1 p (addI .i64 i 1) rows))
   (some (0, 0))) := by kernel_rfl
theorem spec_l07Part_J11.eq (fu : Nat) : spec_l07Part_J11 fu =
  (some 0) := by unfold spec_l07Part_J11; rw [joinAt_eq]; kernel_rfl
theorem spec_l07Flags_L2.eq (l : List T_i) (at' : Int) (n : Int) (fu fu1 : Nat) : spec_l07Flags_L2 fu (fu1 + 1) l at' n =
  (brB (leI 0 (subI .i64 at' n))
   (chk (leI 0 (subI .i64 at' n)) <|
   chk (ltI (subI .i64 at' n) (ln l)) <|
   optB (spec_l07Flag fu (rd l (subI .i64 at' n) 0)) fun r0 =>
   brB r0
    (spec_l07Flags_L2 fu fu1 l at' (addI .i64 n 1))
    (some n))
   (some n)) := by kernel_rfl
theorem impl_kind_J16.eq (p : Int) (x : Bool) (fu : Nat) : impl_kind_J16 fu p x =
  (brB x
   (some (2, 0))
   (optB (impl_in fu p 48 57) fun r0 =>
   brB r0
    (some (8, 0))
    (optB (impl_in fu p 65 90) fun r1 =>
    brB r1
     (some (4, 1))
     (optB (impl_in fu p 97 122) fun r2 =>
     brB r2
      (some (5, 1))
      (optB (impl_in fu p 33 126) fun r3 =>
      brB r3
       (some (9, 0))
       (brB (eqI p 173)
        (some (11, 0))
        (optB (impl_in fu p 161 191) fun r4 =>
        brB r4
         (some (10, 0))
         (optB (impl_in fu p 1280 1311) fun r5 =>
         brB r5
          (some (7, 5))
          (optB (impl_in fu p 1360 1369) fun r6 =>
          brB r6
           (some (8, 5))
           (optB (impl_in fu p 1536 1567) fun r7 =>
           brB r7
            (some (7, 6))
            (optB (impl_in fu p 1568 1579) fun r8 =>
            brB r8
             (impl_kind_J36 fu p true)
             (brB (eqI p 1584)
              (impl_kind_J36 fu p true)
              (impl_kind_J36 fu p (eqI p 1585)))))))))))))) := by unfold impl_kind_J16; rw [joinAt_eq]; kernel_rfl
theorem impl_charCuts_1_J8.eq (x : Bool) (x_1 : Int) (x_2 : Int) (x_3 : Int) (x_4 : Int) (x_5 : Bool) (x_6 : Bool) (x_7 : Int) (fu : Nat) : impl_charCuts_1_J8 fu x x_1 x_2 x_3 x_4 x_5 x_6 x_7 =
  (brB x
   (some (false, (x_1, (x_2, (x_3, (x_4, (x_5, (x_6, x_7))))))))
   (brB (eqI x_4 5)
    (impl_charCuts_1_J10 fu (eqI x_3 5) x_1 x_2 x_3 x_4 x_5 x_6 x_7)
    (brB (eqI x_4 7)
     (impl_charCuts_1_J10 fu (eqI x_3 5) x_1 x_2 x_3 x_4 x_5 x_6 x_7)
     (impl_charCuts_1_J10 fu false x_1 x_2 x_3 x_4 x_5 x_6 x_7)))) := by unfold impl_charCuts_1_J8; rw [joinAt_eq]; kernel_rfl
theorem impl_kind_J36.eq (p : Int) (x : Bool) (fu : Nat) : impl_kind_J36 fu p x =
  (brB x
   (some (3, 6))
   (optB (impl_in fu p 1616 1625) fun r0 =>
   brB r0
    (some (8, 6))
    (optB (impl_in fu p 1792 1810) fun r1 =>
    brB r1
     (impl_kind_J40 fu p true)
     (optB (impl_in fu p 1824 1844) fun r2 =>
     brB r2
      (impl_kind_J40 fu p true)
      (optB (impl_in fu p 1857 1883) fun r3 =>
      brB r3
       (impl_kind_J40 fu p true)
       (optB (impl_in fu p 12288 23459) fun r4 =>
       impl_kind_J40 fu p r4)))))) := by unfold impl_kind_J36; rw [joinAt_eq]; kernel_rfl
theorem impl_charCuts_1_J10.eq (x : Bool) (x_1 : Int) (x_2 : Int) (x_3 : Int) (x_4 : Int) (x_5 : Bool) (x_6 : Bool) (x_7 : Int) (fu : Nat) : impl_charCuts_1_J10 fu x x_1 x_2 x_3 x_4 x_5 x_6 x_7 =
  (brB x
   (some (false, (x_1, (x_2, (x_3, (x_4, (x_5, (x_6, x_7))))))))
   (brB (eqI x_3 2)
    (some (false, (x_1, (x_2, (x_3, (x_4, (x_5, (x_6, x_7))))))))
    (optB (impl_in fu x_2 1536 1567) fun r0 =>
    brB r0
     (brB x_5
      (some (false, (x_1, (x_2, (x_3, (x_4, (x_5, (x_6, x_7))))))))
      (brB (eqI x_1 7936)
       (brB (eqI x_3 8)
        (brB x_6
         (some (false, (x_1, (x_2, (x_3, (x_4, (x_5, (x_6, x_7))))))))
         (brB (eqI x_3 9)
          (brB (eqI x_4 9)
           (chk (notB (eqI 2 0)) <|
           brB (eqI (remI x_7 2) 1)
            (some (false, (x_1, (x_2, (x_3, (x_4, (x_5, (x_6, x_7))))))))
            (impl_charCuts_1_J19 fu x_1 x_2 x_3 x_4 x_5 x_6 x_7))
           (impl_charCuts_1_J19 fu x_1 x_2 x_3 x_4 x_5 x_6 x_7))
          (impl_charCuts_1_J19 fu x_1 x_2 x_3 x_4 x_5 x_6 x_7)))
        (brB (eqI x_3 9)
         (brB (eqI x_4 9)
          (chk (notB (eqI 2 0)) <|
          brB (eqI (remI x_7 2) 1)
           (some (false, (x_1, (x_2, (x_3, (x_4, (x_5, (x_6, x_7))))))))
           (impl_charCuts_1_J19 fu x_1 x_2 x_3 x_4 x_5 x_6 x_7))
          (impl_charCuts_1_J19 fu x_1 x_2 x_3 x_4 x_5 x_6 x_7))
         (impl_charCuts_1_J19 fu x_1 x_2 x_3 x_4 x_5 x_6 x_7)))
       (brB (eqI x_3 9)
        (brB (eqI x_4 9)
         (chk (notB (eqI 2 0)) <|
         brB (eqI (remI x_7 2) 1)
          (some (false, (x_1, (x_2, (x_3, (x_4, (x_5, (x_6, x_7))))))))
          (impl_charCuts_1_J19 fu x_1 x_2 x_3 x_4 x_5 x_6 x_7))
         (impl_charCuts_1_J19 fu x_1 x_2 x_3 x_4 x_5 x_6 x_7))
        (impl_charCuts_1_J19 fu x_1 x_2 x_3 x_4 x_5 x_6 x_7))))
     (brB (eqI x_1 7936)
      (brB (eqI x_3 8)
       (brB x_6
        (some (false, (x_1, (x_2, (x_3, (x_4, (x_5, (x_6, x_7))))))))
        (brB (eqI x_3 9)
         (brB (eqI x_4 9)
          (chk (notB (eqI 2 0)) <|
          brB (eqI (remI x_7 2) 1)
           (some (false, (x_1, (x_2, (x_3, (x_4, (x_5, (x_6, x_7))))))))
           (impl_charCuts_1_J19 fu x_1 x_2 x_3 x_4 x_5 x_6 x_7))
          (impl_charCuts_1_J19 fu x_1 x_2 x_3 x_4 x_5 x_6 x_7))
         (impl_charCuts_1_J19 fu x_1 x_2 x_3 x_4 x_5 x_6 x_7)))
       (brB (eqI x_3 9)
        (brB (eqI x_4 9)
         (chk (notB (eqI 2 0)) <|
         brB (eqI (remI x_7 2) 1)
          (some (false, (x_1, (x_2, (x_3, (x_4, (x_5, (x_6, x_7))))))))
          (impl_charCuts_1_J19 fu x_1 x_2 x_3 x_4 x_5 x_6 x_7))
         (impl_charCuts_1_J19 fu x_1 x_2 x_3 x_4 x_5 x_6 x_7))
        (impl_charCuts_1_J19 fu x_1 x_2 x_3 x_4 x_5 x_6 x_7)))
      (brB (eqI x_3 9)
       (brB (eqI x_4 9)
        (chk (notB (eqI 2 0)) <|
        brB (eqI (remI x_7 2) 1)
         (some (false, (x_1, (x_2, (x_3, (x_4, (x_5, (x_6, x_7))))))))
         (impl_charCuts_1_J19 fu x_1 x_2 x_3 x_4 x_5 x_6 x_7))
        (impl_charCuts_1_J19 fu x_1 x_2 x_3 x_4 x_5 x_6 x_7))
       (impl_charCuts_1_J19 fu x_1 x_2 x_3 x_4 x_5 x_6 x_7)))))) := by unfold impl_charCuts_1_J10; rw [joinAt_eq]; kernel_rfl
theorem impl_kind_J40.eq (p : Int) (x : Bool) (fu : Nat) : impl_kind_J40 fu p x =
  (brB x
   (some (7, 7))
   (optB (impl_in fu p 2048 2095) fun r0 =>
   brB r0
    (some (7, 8))
    (optB (impl_in fu p 4096 4159) fun r1 =>
    brB r1
     (some (3, 0))
     (optB (impl_in fu p 7680 7748) fun r2 =>
     brB r2
      (impl_kind_J46 fu p true)
      (optB (impl_in fu p 7760 7785) fun r3 =>
      impl_kind_J46 fu p r3))))) := by unfold impl_kind_J40; rw [joinAt_eq]; kernel_rfl
theorem impl_charCuts_1_J19.eq (x : Int) (x_1 : Int) (x_2 : Int) (x_3 : Int) (x_4 : Bool) (x_5 : Bool) (x_6 : Int) (fu : Nat) : impl_charCuts_1_J19 fu x x_1 x_2 x_3 x_4 x_5 x_6 =
  (some (true, (x, (x_1, (x_2, (x_3, (x_4, (x_5, x_6)))))))) := by unfold impl_charCuts_1_J19; rw [joinAt_eq]; kernel_rfl
theorem impl_kind_J46.eq (p : Int) (x : Bool) (fu : Nat) : impl_kind_J46 fu p x =
  (brB x
   (some (10, 0))
   (optB (impl_in fu p 7936 7947) fun r0 =>
   brB r0
    (impl_kind_J48 fu p true)
    (brB (eqI p 7953)
     (impl_kind_J48 fu p true)
     (impl_kind_J48 fu p (eqI p 7954))))) := by unfold impl_kind_J46; rw [joinAt_eq]; kernel_rfl
theorem impl_kind_J48.eq (p : Int) (x : Bool) (fu : Nat) : impl_kind_J48 fu p x =
  (brB x
   (some (11, 0))
   (optB (impl_in fu p 8192 9631) fun r0 =>
   brB r0
    (chk (notB (eqI 512 0)) <|
    brB (ltI (remI (subI .i64 p 8192) 512) 416)
     (chk (notB (eqI 512 0)) <|
     brB (ltI (remI (subI .i64 p 8192) 512) 208)
      (some (4, 1))
      (some (5, 1)))
     (optB (impl_in fu p 9728 9753) fun r1 =>
     brB r1
      (some (4, 1))
      (optB (impl_in fu p 9984 10009) fun r2 =>
      brB r2
       (some (10, 0))
       (optB (impl_in fu p 10032 10035) fun r3 =>
       brB r3
        (some (10, 0))
        (optB (impl_in fu p 10016 10025) fun r4 =>
        brB r4
         (some (8, 0))
         (optB (impl_in fu p 24576 26623) fun r5 =>
         brB r5
          (some (7, 9))
          (impl_kind_J61 fu)))))))
    (optB (impl_in fu p 9728 9753) fun r1 =>
    brB r1
     (some (4, 1))
     (optB (impl_in fu p 9984 10009) fun r2 =>
     brB r2
      (some (10, 0))
      (optB (impl_in fu p 10032 10035) fun r3 =>
      brB r3
       (some (10, 0))
       (optB (impl_in fu p 10016 10025) fun r4 =>
       brB r4
        (some (8, 0))
        (optB (impl_in fu p 24576 26623) fun r5 =>
        brB r5
         (some (7, 9))
         (impl_kind_J61 fu)))))))) := by unfold impl_kind_J48; rw [joinAt_eq]; kernel_rfl
theorem impl_kind_J61.eq (fu : Nat) : impl_kind_J61 fu =
  (some (0, 0)) := by unfold impl_kind_J61; rw [joinAt_eq]; kernel_rfl
end Go.Proofs.YtkkjkpliiinbjaaDoor.DF
