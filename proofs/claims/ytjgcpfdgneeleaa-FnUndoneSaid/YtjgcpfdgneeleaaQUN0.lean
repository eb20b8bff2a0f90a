/- What the functions compute: their equations, checked by the kernel. -/
import Derived.ProofKit
import Derived.Test.YtjgcpfdgneeleaaDUN
namespace Go.Proofs.Ytjgcpfdgneeleaa.UN
open Go.Eng
set_option maxRecDepth 100000
set_option maxHeartbeats 4000000
theorem laws_FnUndone.eq (code : List T_y) (fu : Nat) : laws_FnUndone (fu + 1) code =
  (brB (ltI 1048576 (ln code))
   (some true)
   (optB (spec_DrawDoStep fu code) fun r0 =>
   optB (spec_DoStep fu r0.1.1 r0.1.2.1 r0.1.2.2 r0.2.1 r0.2.2.1 r0.2.2.2.1 r0.2.2.2.2) fun r1 =>
   optB (impl_DoStep fu r0.1.1 r0.1.2.1 r0.1.2.2 r0.2.1 r0.2.2.1 r0.2.2.2.1 r0.2.2.2.2) fun r2 =>
   brB (notB (eqI r2.1 r1.1))
    (brB (eqI r2.1 r1.1)
     (some (bytesEq r2.2.2.2.2 r1.2.2.2.2))
     (some false))
    (brB (notB (bytesEq r2.2.2.2.2 r1.2.2.2.2))
     (brB (eqI r2.1 r1.1)
      (some (bytesEq r2.2.2.2.2 r1.2.2.2.2))
      (some false))
     (brB (notB (eqI r2.1 0))
      (brB (eqI r2.1 r1.1)
       (some (bytesEq r2.2.2.2.2 r1.2.2.2.2))
       (some false))
      (laws_FnUndone_J8 fu r0.2.2.2.2 r0.1.1 r0.1.2.2 r0.1.2.1 r1.1 r1.2.1 r1.2.2.2.1 r1.2.2.2.2 r1.2.2.1 r2.1 r2.2.1 r2.2.2.2.1 r2.2.2.2.2 r2.2.2.1))))) := by kernel_rfl
theorem spec_DrawDoStep.eq (code : List T_y) (fu : Nat) : spec_DrawDoStep (fu + 1) code =
  (optB (spec_l01Source fu code) fun r0 =>
  optB (spec_l01Src_anyHistory fu r0.1 r0.2.1 r0.2.2.1 r0.2.2.2) fun r1 =>
  optB (spec_TextAt fu r1.1.1 r1.1.2.1 r1.1.2.2 r1.1.2.2) fun r2 =>
  optB (spec_l01Src_n fu (addI .i64 (sz r2) 2) r1.2.1 r1.2.2.1 r1.2.2.2.1 r1.2.2.2.2) fun r3 =>
  optB (spec_l01Src_n fu 2 r3.2.1 r3.2.2.1 r3.2.2.2.1 r3.2.2.2.2) fun r4 =>
  optB (spec_l01Src_n fu 3 r4.2.1 r4.2.2.1 r4.2.2.2.1 r4.2.2.2.2) fun r5 =>
  optB (spec_l01Src_pick fu ((bs [120]) :: ((bs []) :: ((bs [97, 98]) :: ((bs [10]) :: ([] : List ByteArray))))) r5.2.1 r5.2.2.1 r5.2.2.2.1 r5.2.2.2.2) fun r6 =>
  brB (ltI 0 r1.1.2.2)
   (brB (leI r1.1.2.2 (ln r1.1.2.1))
    (optB (spec_l01Src_one fu 2 r6.2.1 r6.2.2.1 r6.2.2.2.1 r6.2.2.2.2) fun r7 =>
    brB r7.1
     (chk (leI 0 (subI .i64 r1.1.2.2 1)) <|
     chk (ltI (subI .i64 r1.1.2.2 1) (ln r1.1.2.1)) <|
     spec_DrawDoStep_J11 fu (addI .i64 ((rd r1.1.2.1 (subI .i64 r1.1.2.2 1) (0, ((bs []), ((bs []), 0)))).1) (sz ((((rd r1.1.2.1 (subI .i64 r1.1.2.2 1) (0, ((bs []), ((bs []), 0)))).2).2).1))) 0 r6.1 (bs []) 0 r7.2.1 r7.2.2.1 r7.2.2.2.1 r7.2.2.2.2 r1.1.1 r1.1.2.2 r1.1.2.1)
     (spec_DrawDoStep_J11 fu (subI .i64 r3.1 r4.1) r5.1 r6.1 (bs []) 0 r7.2.1 r7.2.2.1 r7.2.2.2.1 r7.2.2.2.2 r1.1.1 r1.1.2.2 r1.1.2.1))
    (spec_DrawDoStep_J11 fu (subI .i64 r3.1 r4.1) r5.1 r6.1 (bs []) 0 r6.2.1 r6.2.2.1 r6.2.2.2.1 r6.2.2.2.2 r1.1.1 r1.1.2.2 r1.1.2.1))
   (spec_DrawDoStep_J11 fu (subI .i64 r3.1 r4.1) r5.1 r6.1 (bs []) 0 r6.2.1 r6.2.2.1 r6.2.2.2.1 r6.2.2.2.2 r1.1.1 r1.1.2.2 r1.1.2.1)) := by kernel_rfl
theorem spec_DoStep.eq (h : ByteArray) (h_1 : List T_issi) (h_2 : Int) (at' : Int) (drop : Int) (put : ByteArray) (group : Int) (fu : Nat) : spec_DoStep (fu + 1) h h_1 h_2 at' drop put group =
  (brB (ltI 65536 (sz put))
   (some (2, ((bs []), (([] : List (Int × ByteArray × ByteArray × Int)), (0, (bs []))))))
   (optB (spec_HistoryFault fu h h_1 h_2) fun r0 =>
   brB (notB (eqI r0 0))
    (some (1, ((bs []), (([] : List (Int × ByteArray × ByteArray × Int)), (0, (bs []))))))
    (brB (ltI group 0)
     (some (1, ((bs []), (([] : List (Int × ByteArray × ByteArray × Int)), (0, (bs []))))))
     (brB (ltI 1000000 group)
      (some (1, ((bs []), (([] : List (Int × ByteArray × ByteArray × Int)), (0, (bs []))))))
      (optB (spec_l21Do fu h h_1 h_2 at' drop put group) fun r1 =>
      some (r1.1, (r1.2.1, (r1.2.2.1, (r1.2.2.2.1, r1.2.2.2.2))))))))) := by kernel_rfl
theorem impl_DoStep.eq (h : ByteArray) (h_1 : List T_issi) (h_2 : Int) (at' : Int) (drop : Int) (put : ByteArray) (group : Int) (fu : Nat) : impl_DoStep (fu + 1) h h_1 h_2 at' drop put group =
  (optB (impl_long fu put) fun r0 =>
  brB r0
   (some (2, ((bs []), (([] : List (Int × ByteArray × ByteArray × Int)), (0, (bs []))))))
   (optB (impl_texts fu h h_1 h_2) fun r1 =>
   brB r1.2
    (some (1, ((bs []), (([] : List (Int × ByteArray × ByteArray × Int)), (0, (bs []))))))
    (brB (ltI group 0)
     (some (1, ((bs []), (([] : List (Int × ByteArray × ByteArray × Int)), (0, (bs []))))))
     (brB (ltI 1000000 group)
      (some (1, ((bs []), (([] : List (Int × ByteArray × ByteArray × Int)), (0, (bs []))))))
      (impl_DoStep_J6 fu at' drop put group h h_1 h_2 0 (bs []) 0 (bs []) r1.2 r1.1))))) := by kernel_rfl
theorem laws_FnUndone_J8.eq (group : Int) (h : ByteArray) (h_1 : Int) (x : List T_issi) (want : Int) (want_1 : ByteArray) (want_2 : Int) (want_3 : ByteArray) (x_1 : List T_issi) (o : Int) (o_1 : ByteArray) (o_2 : Int) (o_3 : ByteArray) (x_2 : List T_issi) (fu : Nat) : laws_FnUndone_J8 fu group h h_1 x want want_1 want_2 want_3 x_1 o o_1 o_2 o_3 x_2 =
  (optB (impl_HistoryFault fu o_1 x_2 o_2) fun r0 =>
  brB (notB (eqI r0 0))
   (some false)
   (optB (impl_TextAt fu o_1 x_2 o_2 o_2) fun r1 =>
   brB (notB (bytesEq r1 o_3))
    (some false)
    (laws_FnUndone_J10 fu group h h_1 x want want_1 want_2 want_3 x_1 o o_1 o_2 o_3 x_2))) := by unfold laws_FnUndone_J8; rw [joinAt_eq]; kernel_rfl
theorem spec_l01Source.eq (code : List T_y) (fu : Nat) : spec_l01Source (fu + 1) code =
  (spec_l01Source_L3 fu fu code 0 code 0 88172645463325252 0) := by kernel_rfl
theorem spec_l01Src_anyHistory.eq (s : List T_y) (s_1 : Int) (s_2 : Int) (s_3 : Int) (fu : Nat) : spec_l01Src_anyHistory (fu + 1) s s_1 s_2 s_3 =
  (optB (spec_l01Src_history fu s s_1 s_2 s_3) fun r0 =>
  optB (spec_l01Src_one fu 8 r0.2.1 r0.2.2.1 r0.2.2.2.1 r0.2.2.2.2) fun r1 =>
  brB r1.1
   (optB (spec_l01Src_n fu 4 r1.2.1 r1.2.2.1 r1.2.2.2.1 r1.2.2.2.2) fun r2 =>
   brB (eqI r2.1 0)
    (optB (spec_l01Src_n fu 2 r2.2.1 r2.2.2.1 r2.2.2.2.1 r2.2.2.2.2) fun r3 =>
    chk (leI 0 r3.1) <|
    chk (ltI r3.1 (ln ((-1) :: ((addI .i64 (ln r0.1.2.1) 1) :: ([] : List Int))))) <|
    spec_l01Src_anyHistory_J13 fu r3.2.1 r3.2.2.1 r3.2.2.2.1 r3.2.2.2.2 (bs []) 0 r0.1.1 (rd ((-1) :: ((addI .i64 (ln r0.1.2.1) 1) :: ([] : List Int))) r3.1 0) r0.1.2.1)
    (brB (eqI r2.1 1)
     (optB (spec_l01Src_n fu 4 r2.2.1 r2.2.2.1 r2.2.2.2.1 r2.2.2.2.2) fun r3 =>
     optB (spec_l01Src_pick fu ((bs []) :: ((bs [120]) :: ([] : List ByteArray))) r3.2.1 r3.2.2.1 r3.2.2.2.1 r3.2.2.2.2) fun r4 =>
     optB (spec_l01Src_pick fu ((bs []) :: ((bs [120]) :: ((bs [121]) :: ([] : List ByteArray)))) r4.2.1 r4.2.2.1 r4.2.2.2.1 r4.2.2.2.2) fun r5 =>
     optB (spec_l01Src_n fu 3 r5.2.1 r5.2.2.1 r5.2.2.2.1 r5.2.2.2.2) fun r6 =>
     chk (leI 0 r6.1) <|
     chk (ltI r6.1 (ln (0 :: ((-1) :: (1000001 :: ([] : List Int)))))) <|
     chk (ltI (mulZ (addZ (ln r0.1.2.1) (ln (((subI .i64 r3.1 1), (r4.1, (r5.1, (rd (0 :: ((-1) :: (1000001 :: ([] : List Int)))) r6.1 0)))) :: ([] : List (Int × ByteArray × ByteArray × Int))))) 48) 140737488355328) <|
     spec_l01Src_anyHistory_J13 fu r6.2.1 r6.2.2.1 r6.2.2.2.1 r6.2.2.2.2 (bs []) 0 r0.1.1 r0.1.2.2 (catL r0.1.2.1 (((subI .i64 r3.1 1), (r4.1, (r5.1, (rd (0 :: ((-1) :: (1000001 :: ([] : List Int)))) r6.1 0)))) :: ([] : List (Int × ByteArray × ByteArray × Int)))))
     (brB (eqI r2.1 2)
      (chk (leI (addZ (sz r0.1.1) (sz (bs [113]))) 9223372036854775807) <|
      spec_l01Src_anyHistory_J13 fu r2.2.1 r2.2.2.1 r2.2.2.2.1 r2.2.2.2.2 (bs []) 0 (catS r0.1.1 (bs [113])) r0.1.2.2 r0.1.2.1)
      (brB (eqI r2.1 3)
       (spec_l01Src_anyHistory_L11 fu fu r2.2.1 r2.2.2.1 r2.2.2.2.1 r2.2.2.2.2 (bs []) 0 r0.1.1 r0.1.2.2 r0.1.2.1)
       (spec_l01Src_anyHistory_J13 fu r2.2.1 r2.2.2.1 r2.2.2.2.1 r2.2.2.2.2 (bs []) 0 r0.1.1 r0.1.2.2 r0.1.2.1)))))
   (spec_l01Src_anyHistory_J13 fu r1.2.1 r1.2.2.1 r1.2.2.2.1 r1.2.2.2.2 (bs []) 0 r0.1.1 r0.1.2.2 r0.1.2.1)) := by kernel_rfl
theorem spec_TextAt.eq (h : ByteArray) (h_1 : List T_issi) (h_2 : Int) (done : Int) (fu : Nat) : spec_TextAt (fu + 1) h h_1 h_2 done =
  (optB (spec_HistoryFault fu h h_1 h_2) fun r0 =>
  brB (notB (eqI r0 0))
   (some (bs []))
   (brB (ltI done 0)
    (some (bs []))
    (brB (ltI (ln h_1) done)
     (some (bs []))
     (optB (spec_l21Text fu h h_1 h_2 done) fun r1 =>
     some r1.1)))) := by kernel_rfl
theorem spec_l01Src_n.eq (most : Int) (s : List T_y) (s_1 : Int) (s_2 : Int) (s_3 : Int) (fu : Nat) : spec_l01Src_n (fu + 1) most s s_1 s_2 s_3 =
  (brB (leI most 1)
   (some (0, (s, (s_1, (s_2, s_3)))))
   (brB (ltI s_1 (ln s))
    (chk (leI 0 s_1) <|
    chk (ltI s_1 (ln s)) <|
    spec_l01Src_n_J7 fu most (wrI .u64 (rd s s_1 0)) s (addI .i64 s_1 1) s_2 s_3)
    (spec_l01Src_n_J7 fu most 0 s s_1 s_2 s_3))) := by kernel_rfl
theorem spec_l01Src_pick.eq (l : List T_s) (s : List T_y) (s_1 : Int) (s_2 : Int) (s_3 : Int) (fu : Nat) : spec_l01Src_pick (fu + 1) l s s_1 s_2 s_3 =
  (optB (spec_l01Src_n fu (ln l) s s_1 s_2 s_3) fun r0 =>
  chk (leI 0 r0.1) <|
  chk (ltI r0.1 (ln l)) <|
  some ((rd l r0.1 (bs [])), (r0.2.1, (r0.2.2.1, (r0.2.2.2.1, r0.2.2.2.2))))) := by kernel_rfl
theorem spec_l01Src_one.eq (of : Int) (s : List T_y) (s_1 : Int) (s_2 : Int) (s_3 : Int) (fu : Nat) : spec_l01Src_one (fu + 1) of s s_1 s_2 s_3 =
  (optB (spec_l01Src_n fu of s s_1 s_2 s_3) fun r0 =>
  some ((eqI r0.1 0), (r0.2.1, (r0.2.2.1, (r0.2.2.2.1, r0.2.2.2.2))))) := by kernel_rfl
theorem spec_DrawDoStep_J11.eq (at' : Int) (drop : Int) (put : ByteArray) (x : ByteArray) (x_1 : Int) (s : List T_y) (s_1 : Int) (s_2 : Int) (s_3 : Int) (h : ByteArray) (h_1 : Int) (x_2 : List T_issi) (fu : Nat) : spec_DrawDoStep_J11 fu at' drop put x x_1 s s_1 s_2 s_3 h h_1 x_2 =
  (optB (spec_l01Src_one fu 60 s s_1 s_2 s_3) fun r0 =>
  brB r0.1
   (optB (spec_l01Src_n fu 8 r0.2.1 r0.2.2.1 r0.2.2.2.1 r0.2.2.2.2) fun r1 =>
   optB (spec_l01Src_long fu (bs [122]) (addI .i64 65530 r1.1) r1.2.1 r1.2.2.1 r1.2.2.2.1 r1.2.2.2.2) fun r2 =>
   spec_DrawDoStep_J13 fu at' drop r2.1 x x_1 r2.2.1 r2.2.2.1 r2.2.2.2.1 r2.2.2.2.2 h h_1 x_2)
   (spec_DrawDoStep_J13 fu at' drop put x x_1 r0.2.1 r0.2.2.1 r0.2.2.2.1 r0.2.2.2.2 h h_1 x_2)) := by unfold spec_DrawDoStep_J11; rw [joinAt_eq]; kernel_rfl
theorem spec_HistoryFault.eq (h : ByteArray) (h_1 : List T_issi) (h_2 : Int) (fu : Nat) : spec_HistoryFault (fu + 1) h h_1 h_2 =
  (brB (ltI 300 (ln h_1))
   (some 1)
   (brB (ltI h_2 0)
    (some 1)
    (brB (ltI (ln h_1) h_2)
     (some 1)
     (spec_HistoryFault_L4 fu fu 0 h h_1 h_2)))) := by kernel_rfl
theorem spec_l21Do.eq (h : ByteArray) (h_1 : List T_issi) (h_2 : Int) (at' : Int) (drop : Int) (put : ByteArray) (group : Int) (fu : Nat) : spec_l21Do (fu + 1) h h_1 h_2 at' drop put group =
  (optB (spec_l21Text fu h h_1 h_2 h_2) fun r0 =>
  optB (spec_l20Within fu r0.1 at' drop) fun r1 =>
  brB (notB r1)
   (some (5, ((bs []), (([] : List (Int × ByteArray × ByteArray × Int)), (0, (bs []))))))
   (chk (leI 0 at') <|
   chk (leI at' (addI .i64 at' drop)) <|
   chk (leI (addI .i64 at' drop) (sz r0.1)) <|
   brB (bytesEq (subs r0.1 at' (addI .i64 at' drop)) put)
    (some (6, ((bs []), (([] : List (Int × ByteArray × ByteArray × Int)), (0, (bs []))))))
    (chk (leI 0 h_2) <|
    chk (leI h_2 (ln h_1)) <|
    chk (ltI (mulZ (addZ (ln ([] : List (Int × ByteArray × ByteArray × Int))) (ln (dropI (takeI h_1 h_2) 0))) 48) 140737488355328) <|
    brB (ltI 0 (ln (catL ([] : List (Int × ByteArray × ByteArray × Int)) (dropI (takeI h_1 h_2) 0))))
     (brB (ltI 0 group)
      (chk (leI 0 (subI .i64 (ln (catL ([] : List (Int × ByteArray × ByteArray × Int)) (dropI (takeI h_1 h_2) 0))) 1)) <|
      chk (ltI (subI .i64 (ln (catL ([] : List (Int × ByteArray × ByteArray × Int)) (dropI (takeI h_1 h_2) 0))) 1) (ln (catL ([] : List (Int × ByteArray × ByteArray × Int)) (dropI (takeI h_1 h_2) 0)))) <|
      brB (eqI ((((rd (catL ([] : List (Int × ByteArray × ByteArray × Int)) (dropI (takeI h_1 h_2) 0)) (subI .i64 (ln (catL ([] : List (Int × ByteArray × ByteArray × Int)) (dropI (takeI h_1 h_2) 0))) 1) (0, ((bs []), ((bs []), 0)))).2).2).2) group)
       (chk (leI 0 (subI .i64 (ln (catL ([] : List (Int × ByteArray × ByteArray × Int)) (dropI (takeI h_1 h_2) 0))) 1)) <|
       chk (ltI (subI .i64 (ln (catL ([] : List (Int × ByteArray × ByteArray × Int)) (dropI (takeI h_1 h_2) 0))) 1) (ln (catL ([] : List (Int × ByteArray × ByteArray × Int)) (dropI (takeI h_1 h_2) 0)))) <|
       brB (bytesEq (((rd (catL ([] : List (Int × ByteArray × ByteArray × Int)) (dropI (takeI h_1 h_2) 0)) (subI .i64 (ln (catL ([] : List (Int × ByteArray × ByteArray × Int)) (dropI (takeI h_1 h_2) 0))) 1) (0, ((bs []), ((bs []), 0)))).2).1) (bs []))
        (brB (bytesEq (subs r0.1 at' (addI .i64 at' drop)) (bs []))
         (chk (leI 0 (subI .i64 (ln (catL ([] : List (Int × ByteArray × ByteArray × Int)) (dropI (takeI h_1 h_2) 0))) 1)) <|
         chk (ltI (subI .i64 (ln (catL ([] : List (Int × ByteArray × ByteArray × Int)) (dropI (takeI h_1 h_2) 0))) 1) (ln (catL ([] : List (Int × ByteArray × ByteArray × Int)) (dropI (takeI h_1 h_2) 0)))) <|
         chk (leI 0 (subI .i64 (ln (catL ([] : List (Int × ByteArray × ByteArray × Int)) (dropI (takeI h_1 h_2) 0))) 1)) <|
         chk (ltI (subI .i64 (ln (catL ([] : List (Int × ByteArray × ByteArray × Int)) (dropI (takeI h_1 h_2) 0))) 1) (ln (catL ([] : List (Int × ByteArray × ByteArray × Int)) (dropI (takeI h_1 h_2) 0)))) <|
         spec_l21Do_J10 fu drop put r0.1 (ln (catL ([] : List (Int × ByteArray × ByteArray × Int)) (dropI (takeI h_1 h_2) 0))) (eqI at' (addI .i64 ((rd (catL ([] : List (Int × ByteArray × ByteArray × Int)) (dropI (takeI h_1 h_2) 0)) (subI .i64 (ln (catL ([] : List (Int × ByteArray × ByteArray × Int)) (dropI (takeI h_1 h_2) 0))) 1) (0, ((bs []), ((bs []), 0)))).1) (sz ((((rd (catL ([] : List (Int × ByteArray × ByteArray × Int)) (dropI (takeI h_1 h_2) 0)) (subI .i64 (ln (catL ([] : List (Int × ByteArray × ByteArray × Int)) (dropI (takeI h_1 h_2) 0))) 1) (0, ((bs []), ((bs []), 0)))).2).2).1)))) h h_1 h_2 0 (bs []) 0 (bs []) at' (subs r0.1 at' (addI .i64 at' drop)) put group (catL ([] : List (Int × ByteArray × ByteArray × Int)) (dropI (takeI h_1 h_2) 0)))
         (spec_l21Do_J10 fu drop put r0.1 (ln (catL ([] : List (Int × ByteArray × ByteArray × Int)) (dropI (takeI h_1 h_2) 0))) false h h_1 h_2 0 (bs []) 0 (bs []) at' (subs r0.1 at' (addI .i64 at' drop)) put group (catL ([] : List (Int × ByteArray × ByteArray × Int)) (dropI (takeI h_1 h_2) 0))))
        (spec_l21Do_J10 fu drop put r0.1 (ln (catL ([] : List (Int × ByteArray × ByteArray × Int)) (dropI (takeI h_1 h_2) 0))) false h h_1 h_2 0 (bs []) 0 (bs []) at' (subs r0.1 at' (addI .i64 at' drop)) put group (catL ([] : List (Int × ByteArray × ByteArray × Int)) (dropI (takeI h_1 h_2) 0))))
       (spec_l21Do_J10 fu drop put r0.1 (ln (catL ([] : List (Int × ByteArray × ByteArray × Int)) (dropI (takeI h_1 h_2) 0))) false h h_1 h_2 0 (bs []) 0 (bs []) at' (subs r0.1 at' (addI .i64 at' drop)) put group (catL ([] : List (Int × ByteArray × ByteArray × Int)) (dropI (takeI h_1 h_2) 0))))
      (spec_l21Do_J10 fu drop put r0.1 (ln (catL ([] : List (Int × ByteArray × ByteArray × Int)) (dropI (takeI h_1 h_2) 0))) false h h_1 h_2 0 (bs []) 0 (bs []) at' (subs r0.1 at' (addI .i64 at' drop)) put group (catL ([] : List (Int × ByteArray × ByteArray × Int)) (dropI (takeI h_1 h_2) 0))))
     (spec_l21Do_J10 fu drop put r0.1 (ln (catL ([] : List (Int × ByteArray × ByteArray × Int)) (dropI (takeI h_1 h_2) 0))) false h h_1 h_2 0 (bs []) 0 (bs []) at' (subs r0.1 at' (addI .i64 at' drop)) put group (catL ([] : List (Int × ByteArray × ByteArray × Int)) (dropI (takeI h_1 h_2) 0)))))) := by kernel_rfl
theorem impl_long.eq (s : ByteArray) (fu : Nat) : impl_long (fu + 1) s =
  (some (ltI 65536 (sz s))) := by kernel_rfl
theorem impl_texts.eq (h : ByteArray) (h_1 : List T_issi) (h_2 : Int) (fu : Nat) : impl_texts (fu + 1) h h_1 h_2 =
  (optB (impl_long fu h) fun r0 =>
  brB r0
   (some (([] : List ByteArray), true))
   (brB (ltI 300 (ln h_1))
    (some (([] : List ByteArray), true))
    (brB (ltI h_2 0)
     (some (([] : List ByteArray), true))
     (brB (ltI (ln h_1) h_2)
      (some (([] : List ByteArray), true))
      (impl_texts_L6 fu fu h h_1 (ln h_1) 0 (h :: ([] : List ByteArray))))))) := by kernel_rfl
theorem impl_DoStep_J6.eq (at' : Int) (drop : Int) (put : ByteArray) (group : Int) (h : ByteArray) (h_1 : List T_issi) (h_2 : Int) (x : Int) (x_1 : ByteArray) (x_2 : Int) (x_3 : ByteArray) (lNil : Bool) (l : List T_s) (fu : Nat) : impl_DoStep_J6 fu at' drop put group h h_1 h_2 x x_1 x_2 x_3 lNil l =
  (chk (leI 0 h_2) <|
  chk (ltI h_2 (ln l)) <|
  brB (ltI at' 0)
   (some (5, ((bs []), (([] : List (Int × ByteArray × ByteArray × Int)), (0, (bs []))))))
   (brB (ltI (sz (rd l h_2 (bs []))) at')
    (some (5, ((bs []), (([] : List (Int × ByteArray × ByteArray × Int)), (0, (bs []))))))
    (brB (ltI drop 0)
     (some (5, ((bs []), (([] : List (Int × ByteArray × ByteArray × Int)), (0, (bs []))))))
     (brB (ltI (subI .i64 (sz (rd l h_2 (bs []))) at') drop)
      (some (5, ((bs []), (([] : List (Int × ByteArray × ByteArray × Int)), (0, (bs []))))))
      (impl_DoStep_J10 fu at' drop put group (rd l h_2 (bs [])) h h_1 h_2 x x_1 x_2 x_3))))) := by unfold impl_DoStep_J6; rw [joinAt_eq]; kernel_rfl
theorem impl_HistoryFault.eq (h : ByteArray) (h_1 : List T_issi) (h_2 : Int) (fu : Nat) : impl_HistoryFault (fu + 1) h h_1 h_2 =
  (optB (impl_texts fu h h_1 h_2) fun r0 =>
  brB r0.2
   (some 1)
   (some 0)) := by kernel_rfl
theorem impl_TextAt.eq (h : ByteArray) (h_1 : List T_issi) (h_2 : Int) (done : Int) (fu : Nat) : impl_TextAt (fu + 1) h h_1 h_2 done =
  (optB (impl_texts fu h h_1 h_2) fun r0 =>
  brB (ltI done 0)
   (some (bs []))
   (brB (leI (ln r0.1) done)
    (some (bs []))
    (chk (leI 0 done) <|
    chk (ltI done (ln r0.1)) <|
    some (rd r0.1 done (bs []))))) := by kernel_rfl
theorem laws_FnUndone_J10.eq (group : Int) (h : ByteArray) (h_1 : Int) (x : List T_issi) (want : Int) (want_1 : ByteArray) (want_2 : Int) (want_3 : ByteArray) (x_1 : List T_issi) (o : Int) (o_1 : ByteArray) (o_2 : Int) (o_3 : ByteArray) (x_2 : List T_issi) (fu : Nat) : laws_FnUndone_J10 fu group h h_1 x want want_1 want_2 want_3 x_1 o o_1 o_2 o_3 x_2 =
  (optB (impl_Undo fu o_1 x_2 o_2) fun r0 =>
  brB (notB (eqI r0.1 0))
   (some false)
   (optB (spec_Undo fu want_1 x_1 want_2) fun r1 =>
   brB (notB (bytesEq r0.2.2.2.2 r1.2.2.2.2))
    (some false)
    (brB (eqI group 0)
     (optB (spec_TextAt fu h x h_1 h_1) fun r2 =>
     brB (notB (bytesEq r0.2.2.2.2 r2))
      (some false)
      (laws_FnUndone_J13 fu h h_1 x o o_1 o_2 o_3 x_2 r0.1 r0.2.1 r0.2.2.2.1 r0.2.2.2.2 r0.2.2.1))
     (laws_FnUndone_J13 fu h h_1 x o o_1 o_2 o_3 x_2 r0.1 r0.2.1 r0.2.2.2.1 r0.2.2.2.2 r0.2.2.1)))) := by unfold laws_FnUndone_J10; rw [joinAt_eq]; kernel_rfl
theorem spec_l01Source_L3.eq (code : List T_y) (i : Int) (s : List T_y) (s_1 : Int) (s_2 : Int) (s_3 : Int) (fu fu1 : Nat) : spec_l01Source_L3 fu (fu1 + 1) code i s s_1 s_2 s_3 =
  (brB (ltI i (ln code))
   (brB (ltI i 64)
    (chk (leI 0 i) <|
    chk (ltI i (ln code)) <|
    spec_l01Source_L3 fu fu1 code (addI .i64 i 1) s s_1 (mulI .u64 (xorI .u64 s_2 (wrI .u64 (rd code i 0))) 1099511628211) s_3)
    (chk (notB (eqI 20 0)) <|
    brB (ltI 12 (quoI .i64 (ln code) 20))
     (some (s, (s_1, (s_2, 12))))
     (some (s, (s_1, (s_2, (quoI .i64 (ln code) 20)))))))
   (chk (notB (eqI 20 0)) <|
   brB (ltI 12 (quoI .i64 (ln code) 20))
    (some (s, (s_1, (s_2, 12))))
    (some (s, (s_1, (s_2, (quoI .i64 (ln code) 20))))))) := by kernel_rfl
theorem spec_l01Src_history.eq (s : List T_y) (s_1 : Int) (s_2 : Int) (s_3 : Int) (fu : Nat) : spec_l01Src_history (fu + 1) s s_1 s_2 s_3 =
  (optB (spec_l01Src_ropeText fu s s_1 s_2 s_3) fun r0 =>
  optB (spec_l01Src_pick fu ((bs []) :: ((bs [97, 98, 99]) :: ((bs [111, 110, 101, 32, 116, 119, 111, 10]) :: (r0.1 :: ([] : List ByteArray))))) r0.2.1 r0.2.2.1 r0.2.2.2.1 r0.2.2.2.2) fun r1 =>
  brB (ltI 2000 (sz r1.1))
   (chk (leI 0 50) <|
   chk (leI 50 (sz r1.1)) <|
   optB (spec_l01Src_n fu 8 r1.2.1 r1.2.2.1 r1.2.2.2.1 r1.2.2.2.2) fun r2 =>
   spec_l01Src_history_L5 fu fu r2.1 r2.2.1 r2.2.2.1 r2.2.2.2.1 r2.2.2.2.2 (bs []) 0 (subs r1.1 0 50) 0)
   (optB (spec_l01Src_n fu 8 r1.2.1 r1.2.2.1 r1.2.2.2.1 r1.2.2.2.2) fun r2 =>
   spec_l01Src_history_L5 fu fu r2.1 r2.2.1 r2.2.2.1 r2.2.2.2.1 r2.2.2.2.2 (bs []) 0 r1.1 0)) := by kernel_rfl
theorem spec_l01Src_anyHistory_J13.eq (x : List T_y) (x_1 : Int) (x_2 : Int) (x_3 : Int) (x_4 : ByteArray) (x_5 : Int) (h : ByteArray) (h_1 : Int) (x_6 : List T_issi) (fu : Nat) : spec_l01Src_anyHistory_J13 fu x x_1 x_2 x_3 x_4 x_5 h h_1 x_6 =
  (some ((h, (x_6, h_1)), (x, (x_1, (x_2, x_3))))) := by unfold spec_l01Src_anyHistory_J13; rw [joinAt_eq]; kernel_rfl
theorem spec_l01Src_anyHistory_L11.eq (s : List T_y) (s_1 : Int) (s_2 : Int) (s_3 : Int) (x : ByteArray) (x_1 : Int) (h : ByteArray) (h_1 : Int) (x_2 : List T_issi) (fu fu1 : Nat) : spec_l01Src_anyHistory_L11 fu (fu1 + 1) s s_1 s_2 s_3 x x_1 h h_1 x_2 =
  (optB (spec_l01Src_n fu 3 s s_1 s_2 s_3) fun r0 =>
  brB (ltI (ln x_2) (addI .i64 299 r0.1))
   (chk (ltI (mulZ (addZ (ln x_2) (ln ((0, ((bs []), ((bs [120]), 0))) :: ([] : List (Int × ByteArray × ByteArray × Int))))) 48) 140737488355328) <|
   spec_l01Src_anyHistory_L11 fu fu1 r0.2.1 r0.2.2.1 r0.2.2.2.1 r0.2.2.2.2 x x_1 h h_1 (catL x_2 ((0, ((bs []), ((bs [120]), 0))) :: ([] : List (Int × ByteArray × ByteArray × Int)))))
   (spec_l01Src_anyHistory_J13 fu r0.2.1 r0.2.2.1 r0.2.2.2.1 r0.2.2.2.2 x x_1 h h_1 x_2)) := by kernel_rfl
theorem spec_l21Text.eq (h : ByteArray) (h_1 : List T_issi) (h_2 : Int) (done : Int) (fu : Nat) : spec_l21Text (fu + 1) h h_1 h_2 done =
  (spec_l21Text_L4 fu fu done h (leI (sz h) 65536) 0 h h_1 h_2) := by kernel_rfl
theorem spec_l01Src_n_J7.eq (most : Int) (v : Int) (s : List T_y) (s_1 : Int) (s_2 : Int) (s_3 : Int) (fu : Nat) : spec_l01Src_n_J7 fu most v s s_1 s_2 s_3 =
  (chk (leI 0 13) <|
  chk (leI 0 7) <|
  chk (leI 0 17) <|
  chk (leI 0 20) <|
  chk (notB (eqI (wrI .u64 most) 0)) <|
  some ((wrI .i64 (remI (addI .u64 v (shrI .u64 (xorI .u64 (xorI .u64 (xorI .u64 s_2 (shlI .u64 s_2 13)) (shrI .u64 (xorI .u64 s_2 (shlI .u64 s_2 13)) 7)) (shlI .u64 (xorI .u64 (xorI .u64 s_2 (shlI .u64 s_2 13)) (shrI .u64 (xorI .u64 s_2 (shlI .u64 s_2 13)) 7)) 17)) 20)) (wrI .u64 most))), (s, (s_1, ((xorI .u64 (xorI .u64 (xorI .u64 s_2 (shlI .u64 s_2 13)) (shrI .u64 (xorI .u64 s_2 (shlI .u64 s_2 13)) 7)) (shlI .u64 (xorI .u64 (xorI .u64 s_2 (shlI .u64 s_2 13)) (shrI .u64 (xorI .u64 s_2 (shlI .u64 s_2 13)) 7)) 17)), s_3))))) := by unfold spec_l01Src_n_J7; rw [joinAt_eq]; kernel_rfl
theorem spec_l01Src_long.eq (c : ByteArray) (n : Int) (s : List T_y) (s_1 : Int) (s_2 : Int) (s_3 : Int) (fu : Nat) : spec_l01Src_long (fu + 1) c n s s_1 s_2 s_3 =
  (spec_l01Src_long_L2 fu fu c n s s_1 s_2 s_3 ([] : List Int)) := by kernel_rfl
theorem spec_DrawDoStep_J13.eq (at' : Int) (drop : Int) (put : ByteArray) (x : ByteArray) (x_1 : Int) (s : List T_y) (s_1 : Int) (s_2 : Int) (s_3 : Int) (h : ByteArray) (h_1 : Int) (x_2 : List T_issi) (fu : Nat) : spec_DrawDoStep_J13 fu at' drop put x x_1 s s_1 s_2 s_3 h h_1 x_2 =
  (optB (spec_l01Src_n fu 6 s s_1 s_2 s_3) fun r0 =>
  chk (leI 0 r0.1) <|
  chk (ltI r0.1 (ln (0 :: (1 :: (2 :: (1000000 :: (1000001 :: ((-1) :: ([] : List Int))))))))) <|
  some ((h, (x_2, h_1)), (at', (drop, (put, (rd (0 :: (1 :: (2 :: (1000000 :: (1000001 :: ((-1) :: ([] : List Int))))))) r0.1 0)))))) := by unfold spec_DrawDoStep_J13; rw [joinAt_eq]; kernel_rfl
theorem spec_HistoryFault_L4.eq (i : Int) (h : ByteArray) (h_1 : List T_issi) (h_2 : Int) (fu fu1 : Nat) : spec_HistoryFault_L4 fu (fu1 + 1) i h h_1 h_2 =
  (brB (ltI i (ln h_1))
   (chk (leI 0 i) <|
   chk (ltI i (ln h_1)) <|
   brB (bytesEq (((rd h_1 i (0, ((bs []), ((bs []), 0)))).2).1) ((((rd h_1 i (0, ((bs []), ((bs []), 0)))).2).2).1))
    (some 1)
    (brB (ltI ((((rd h_1 i (0, ((bs []), ((bs []), 0)))).2).2).2) 0)
     (some 1)
     (brB (ltI 1000000 ((((rd h_1 i (0, ((bs []), ((bs []), 0)))).2).2).2))
      (some 1)
      (spec_HistoryFault_L4 fu fu1 (addI .i64 i 1) h h_1 h_2))))
   (optB (spec_l21Text fu h h_1 h_2 (ln h_1)) fun r0 =>
   brB (notB r0.2)
    (some 1)
    (some 0))) := by kernel_rfl
theorem spec_l20Within.eq (t : ByteArray) (at' : Int) (drop : Int) (fu : Nat) : spec_l20Within (fu + 1) t at' drop =
  (brB (leI 0 at')
   (brB (leI at' (sz t))
    (brB (leI 0 drop)
     (some (leI drop (subI .i64 (sz t) at')))
     (some false))
    (some false))
   (some false)) := by kernel_rfl
theorem spec_l21Do_J10.eq (drop : Int) (put : ByteArray) (t : ByteArray) (n : Int) (x : Bool) (h : ByteArray) (h_1 : List T_issi) (h_2 : Int) (x_1 : Int) (x_2 : ByteArray) (x_3 : Int) (x_4 : ByteArray) (s : Int) (s_1 : ByteArray) (s_2 : ByteArray) (s_3 : Int) (steps : List T_issi) (fu : Nat) : spec_l21Do_J10 fu drop put t n x h h_1 h_2 x_1 x_2 x_3 x_4 s s_1 s_2 s_3 steps =
  (brB x
   (chk (leI 0 (subI .i64 n 1)) <|
   chk (ltI (subI .i64 n 1) (ln steps)) <|
   chk (leI (addZ (sz ((((rd steps (subI .i64 n 1) (0, ((bs []), ((bs []), 0)))).2).2).1)) (sz put)) 9223372036854775807) <|
   chk (leI 0 (subI .i64 n 1)) <|
   chk (ltI (subI .i64 n 1) (ln steps)) <|
   spec_l21Do_J12 fu drop put t h h_1 h_2 x_1 x_2 x_3 x_4 (setI steps (subI .i64 n 1) ((rd steps (subI .i64 n 1) (0, ((bs []), ((bs []), 0)))).1, (((rd steps (subI .i64 n 1) (0, ((bs []), ((bs []), 0)))).2).1, ((catS ((((rd steps (subI .i64 n 1) (0, ((bs []), ((bs []), 0)))).2).2).1) put), (((rd steps (subI .i64 n 1) (0, ((bs []), ((bs []), 0)))).2).2).2)))))
   (chk (ltI (mulZ (addZ (ln steps) (ln ((s, (s_1, (s_2, s_3))) :: ([] : List (Int × ByteArray × ByteArray × Int))))) 48) 140737488355328) <|
   spec_l21Do_J12 fu drop put t h h_1 h_2 x_1 x_2 x_3 x_4 (catL steps ((s, (s_1, (s_2, s_3))) :: ([] : List (Int × ByteArray × ByteArray × Int)))))) := by unfold spec_l21Do_J10; rw [joinAt_eq]; kernel_rfl
theorem impl_texts_L6.eq (s : ByteArray) (x : List T_issi) (x_1 : Int) (x_2 : Int) (out : List T_s) (fu fu1 : Nat) : impl_texts_L6 fu (fu1 + 1) s x x_1 x_2 out =
  (brB (ltI x_2 x_1)
   (chk (leI 0 x_2) <|
   chk (ltI x_2 (ln x)) <|
   brB (ltI ((rd x x_2 (0, ((bs []), ((bs []), 0)))).1) 0)
    (some (([] : List ByteArray), true))
    (brB (ltI (sz s) ((rd x x_2 (0, ((bs []), ((bs []), 0)))).1))
     (some (([] : List ByteArray), true))
     (chk (leI 0 ((rd x x_2 (0, ((bs []), ((bs []), 0)))).1)) <|
     chk (leI ((rd x x_2 (0, ((bs []), ((bs []), 0)))).1) (sz s)) <|
     optB (strings_HasPrefix fu (subs s ((rd x x_2 (0, ((bs []), ((bs []), 0)))).1) (sz s)) (((rd x x_2 (0, ((bs []), ((bs []), 0)))).2).1)) fun r0 =>
     brB (notB r0)
      (some (([] : List ByteArray), true))
      (brB (bytesEq (((rd x x_2 (0, ((bs []), ((bs []), 0)))).2).1) ((((rd x x_2 (0, ((bs []), ((bs []), 0)))).2).2).1))
       (some (([] : List ByteArray), true))
       (brB (ltI ((((rd x x_2 (0, ((bs []), ((bs []), 0)))).2).2).2) 0)
        (some (([] : List ByteArray), true))
        (brB (ltI 1000000 ((((rd x x_2 (0, ((bs []), ((bs []), 0)))).2).2).2))
         (some (([] : List ByteArray), true))
         (impl_texts_J10 fu fu1 s x x_1 x_2 out ((rd x x_2 (0, ((bs []), ((bs []), 0)))).1) (((rd x x_2 (0, ((bs []), ((bs []), 0)))).2).1) ((((rd x x_2 (0, ((bs []), ((bs []), 0)))).2).2).1) ((((rd x x_2 (0, ((bs []), ((bs []), 0)))).2).2).2))))))))
   (some (out, false))) := by kernel_rfl
theorem impl_DoStep_J10.eq (at' : Int) (drop : Int) (put : ByteArray) (group : Int) (s : ByteArray) (h : ByteArray) (h_1 : List T_issi) (h_2 : Int) (x : Int) (x_1 : ByteArray) (x_2 : Int) (x_3 : ByteArray) (fu : Nat) : impl_DoStep_J10 fu at' drop put group s h h_1 h_2 x x_1 x_2 x_3 =
  (chk (leI 0 at') <|
  chk (leI at' (addI .i64 at' drop)) <|
  chk (leI (addI .i64 at' drop) (sz s)) <|
  brB (bytesEq (subs s at' (addI .i64 at' drop)) put)
   (some (6, ((bs []), (([] : List (Int × ByteArray × ByteArray × Int)), (0, (bs []))))))
   (chk (leI 0 h_2) <|
   chk (leI h_2 (ln h_1)) <|
   optB (slices_Clone_Step_Step fu (dropI (takeI h_1 h_2) 0)) fun r0 =>
   optB (impl_do fu s at' (subs s at' (addI .i64 at' drop)) put group) fun r1 =>
   brB (leI 0 (subI .i64 (ln r0) 1))
    (brB (ltI 0 group)
     (chk (leI 0 (subI .i64 (ln r0) 1)) <|
     chk (ltI (subI .i64 (ln r0) 1) (ln r0)) <|
     brB (eqI ((((rd r0 (subI .i64 (ln r0) 1) (0, ((bs []), ((bs []), 0)))).2).2).2) group)
      (brB (eqI drop 0)
       (chk (leI 0 (subI .i64 (ln r0) 1)) <|
       chk (ltI (subI .i64 (ln r0) 1) (ln r0)) <|
       brB (bytesEq (((rd r0 (subI .i64 (ln r0) 1) (0, ((bs []), ((bs []), 0)))).2).1) (bs []))
        (chk (leI 0 (subI .i64 (ln r0) 1)) <|
        chk (ltI (subI .i64 (ln r0) 1) (ln r0)) <|
        chk (leI 0 (subI .i64 (ln r0) 1)) <|
        chk (ltI (subI .i64 (ln r0) 1) (ln r0)) <|
        impl_DoStep_J17 fu put r1 (subI .i64 (ln r0) 1) (eqI at' (addI .i64 ((rd r0 (subI .i64 (ln r0) 1) (0, ((bs []), ((bs []), 0)))).1) (sz ((((rd r0 (subI .i64 (ln r0) 1) (0, ((bs []), ((bs []), 0)))).2).2).1)))) h h_1 h_2 x x_1 x_2 x_3 at' (subs s at' (addI .i64 at' drop)) put group r0)
        (impl_DoStep_J17 fu put r1 (subI .i64 (ln r0) 1) false h h_1 h_2 x x_1 x_2 x_3 at' (subs s at' (addI .i64 at' drop)) put group r0))
       (impl_DoStep_J17 fu put r1 (subI .i64 (ln r0) 1) false h h_1 h_2 x x_1 x_2 x_3 at' (subs s at' (addI .i64 at' drop)) put group r0))
      (impl_DoStep_J17 fu put r1 (subI .i64 (ln r0) 1) false h h_1 h_2 x x_1 x_2 x_3 at' (subs s at' (addI .i64 at' drop)) put group r0))
     (impl_DoStep_J17 fu put r1 (subI .i64 (ln r0) 1) false h h_1 h_2 x x_1 x_2 x_3 at' (subs s at' (addI .i64 at' drop)) put group r0))
    (impl_DoStep_J17 fu put r1 (subI .i64 (ln r0) 1) false h h_1 h_2 x x_1 x_2 x_3 at' (subs s at' (addI .i64 at' drop)) put group r0))) := by unfold impl_DoStep_J10; rw [joinAt_eq]; kernel_rfl
theorem impl_Undo.eq (h : ByteArray) (h_1 : List T_issi) (h_2 : Int) (fu : Nat) : impl_Undo (fu + 1) h h_1 h_2 =
  (optB (impl_texts fu h h_1 h_2) fun r0 =>
  brB r0.2
   (some (1, ((bs []), (([] : List (Int × ByteArray × ByteArray × Int)), (0, (bs []))))))
   (brB (eqI h_2 0)
    (some (5, ((bs []), (([] : List (Int × ByteArray × ByteArray × Int)), (0, (bs []))))))
    (chk (leI 0 (subI .i64 h_2 1)) <|
    chk (ltI (subI .i64 h_2 1) (ln h_1)) <|
    impl_Undo_L9 fu fu (subI .i64 h_2 1) ((((rd h_1 (subI .i64 h_2 1) (0, ((bs []), ((bs []), 0)))).2).2).2) h h_1 h_2 0 (bs []) 0 (bs []) r0.2 r0.1))) := by kernel_rfl
theorem spec_Undo.eq (h : ByteArray) (h_1 : List T_issi) (h_2 : Int) (fu : Nat) : spec_Undo (fu + 1) h h_1 h_2 =
  (optB (spec_l21Go fu h h_1 h_2 (-1)) fun r0 =>
  some (r0.1, (r0.2.1, (r0.2.2.1, (r0.2.2.2.1, r0.2.2.2.2))))) := by kernel_rfl
theorem laws_FnUndone_J13.eq (h : ByteArray) (h_1 : Int) (x : List T_issi) (o : Int) (o_1 : ByteArray) (o_2 : Int) (o_3 : ByteArray) (x_1 : List T_issi) (u : Int) (u_1 : ByteArray) (u_2 : Int) (u_3 : ByteArray) (x_2 : List T_issi) (fu : Nat) : laws_FnUndone_J13 fu h h_1 x o o_1 o_2 o_3 x_1 u u_1 u_2 u_3 x_2 =
  (optB (impl_Redo fu u_1 x_2 u_2) fun r0 =>
  brB (notB (eqI r0.1 0))
   (some false)
   (brB (notB (bytesEq r0.2.2.2.2 o_3))
    (some false)
    (laws_FnUndone_L18 fu fu 0 h h_1 x o o_1 o_2 o_3 x_1))) := by unfold laws_FnUndone_J13; rw [joinAt_eq]; kernel_rfl
theorem spec_l01Src_ropeText.eq (s : List T_y) (s_1 : Int) (s_2 : Int) (s_3 : Int) (fu : Nat) : spec_l01Src_ropeText (fu + 1) s s_1 s_2 s_3 =
  (optB (spec_l01Src_n fu (addI .i64 6 s_3) s s_1 s_2 s_3) fun r0 =>
  spec_l01Src_ropeText_L3 fu fu (bs []) r0.1 r0.2.1 r0.2.2.1 r0.2.2.2.1 r0.2.2.2.2) := by kernel_rfl
theorem spec_l01Src_history_L5.eq (k : Int) (s : List T_y) (s_1 : Int) (s_2 : Int) (s_3 : Int) (x : ByteArray) (x_1 : Int) (h : ByteArray) (h_1 : Int) (fu fu1 : Nat) : spec_l01Src_history_L5 fu (fu1 + 1) k s s_1 s_2 s_3 x x_1 h h_1 =
  (brB (ltI 0 k)
   (optB (spec_l21Text'1 fu h h_1 h_1) fun r0 =>
   optB (spec_l01Src_n fu (addI .i64 (sz r0.1) 1) s s_1 s_2 s_3) fun r1 =>
   optB (spec_l01Src_n fu 2 r1.2.1 r1.2.2.1 r1.2.2.2.1 r1.2.2.2.2) fun r2 =>
   optB (spec_l01Src_n fu (addI .i64 (subI .i64 (sz r0.1) r1.1) 1) r2.2.1 r2.2.2.1 r2.2.2.2.1 r2.2.2.2.2) fun r3 =>
   optB (spec_l01Src_one fu 2 r3.2.1 r3.2.2.1 r3.2.2.2.1 r3.2.2.2.2) fun r4 =>
   brB r4.1
    (brB (ltI 0 h_1)
     (none)
     (spec_l01Src_history_J14 fu fu1 k r1.1 (mulI .i64 r2.1 r3.1) r4.2.1 r4.2.2.1 r4.2.2.2.1 r4.2.2.2.2 x x_1 h h_1))
    (spec_l01Src_history_J14 fu fu1 k r1.1 (mulI .i64 r2.1 r3.1) r4.2.1 r4.2.2.1 r4.2.2.2.1 r4.2.2.2.2 x x_1 h h_1))
   (some ((h, (([] : List (Int × ByteArray × ByteArray × Int)), h_1)), (s, (s_1, (s_2, s_3)))))) := by kernel_rfl
theorem spec_l21Text_L4.eq (done : Int) (t : ByteArray) (ok : Bool) (i : Int) (h : ByteArray) (h_1 : List T_issi) (h_2 : Int) (fu fu1 : Nat) : spec_l21Text_L4 fu (fu1 + 1) done t ok i h h_1 h_2 =
  (brB (ltI i done)
   (brB ok
    (chk (leI 0 i) <|
    chk (ltI i (ln h_1)) <|
    optB (spec_l21Put fu t ((rd h_1 i (0, ((bs []), ((bs []), 0)))).1) (((rd h_1 i (0, ((bs []), ((bs []), 0)))).2).1) ((((rd h_1 i (0, ((bs []), ((bs []), 0)))).2).2).1) ((((rd h_1 i (0, ((bs []), ((bs []), 0)))).2).2).2)) fun r0 =>
    spec_l21Text_L4 fu fu1 done r0.1 r0.2 (addI .i64 i 1) h h_1 h_2)
    (some (t, ok)))
   (some (t, ok))) := by kernel_rfl
theorem spec_l01Src_long_L2.eq (c : ByteArray) (n : Int) (x : List T_y) (x_1 : Int) (x_2 : Int) (x_3 : Int) (b : List T_y) (fu fu1 : Nat) : spec_l01Src_long_L2 fu (fu1 + 1) c n x x_1 x_2 x_3 b =
  (brB (ltI (ln b) n)
   (chk (ltI (mulZ (addZ (ln b) (ln (numsOf c))) 1) 140737488355328) <|
   spec_l01Src_long_L2 fu fu1 c n x x_1 x_2 x_3 (catL b (numsOf c)))
   (chk (leI 0 n) <|
   chk (leI n (ln b)) <|
   some ((bytesOf (dropI (takeI b n) 0)), (x, (x_1, (x_2, x_3)))))) := by kernel_rfl
theorem spec_l21Do_J12.eq (drop : Int) (put : ByteArray) (t : ByteArray) (h : ByteArray) (h_1 : List T_issi) (h_2 : Int) (x : Int) (x_1 : ByteArray) (x_2 : Int) (x_3 : ByteArray) (steps : List T_issi) (fu : Nat) : spec_l21Do_J12 fu drop put t h h_1 h_2 x x_1 x_2 x_3 steps =
  (brB (ltI 300 (ln steps))
   (some (8, ((bs []), (([] : List (Int × ByteArray × ByteArray × Int)), (0, (bs []))))))
   (brB (ltI 65536 (addI .i64 (subI .i64 (sz t) drop) (sz put)))
    (some (8, ((bs []), (([] : List (Int × ByteArray × ByteArray × Int)), (0, (bs []))))))
    (optB (spec_l21Out fu h (ln steps) steps) fun r0 =>
    some (r0.1.1, (r0.1.2.1, (r0.1.2.2.1, (r0.1.2.2.2.1, r0.1.2.2.2.2))))))) := by unfold spec_l21Do_J12; rw [joinAt_eq]; kernel_rfl
theorem strings_HasPrefix.eq (s : ByteArray) (prefix' : ByteArray) (fu : Nat) : strings_HasPrefix (fu + 1) s prefix' =
  (optB (internal_stringslite_HasPrefix fu s prefix') fun r0 =>
  some r0) := by kernel_rfl
theorem impl_texts_J10.eq (s : ByteArray) (x : List T_issi) (x_1 : Int) (x_2 : Int) (out : List T_s) (x_3 : Int) (x_4 : ByteArray) (x_5 : ByteArray) (x_6 : Int) (fu fu1 : Nat) : impl_texts_J10 fu fu1 s x x_1 x_2 out x_3 x_4 x_5 x_6 =
  (optB (impl_do fu s x_3 x_4 x_5 x_6) fun r0 =>
  optB (impl_long fu r0) fun r1 =>
  brB r1
   (some (([] : List ByteArray), true))
   (chk (ltI (mulZ (addZ (ln out) (ln (r0 :: ([] : List ByteArray)))) 16) 140737488355328) <|
   impl_texts_L6 fu fu1 r0 x x_1 (addI .i64 x_2 1) (catL out (r0 :: ([] : List ByteArray))))) := by unfold impl_texts_J10; rw [joinAt_eq]; kernel_rfl
theorem impl_do.eq (s : ByteArray) (x : Int) (x_1 : ByteArray) (x_2 : ByteArray) (x_3 : Int) (fu : Nat) : impl_do (fu + 1) s x x_1 x_2 x_3 =
  (chk (leI 0 x) <|
  chk (leI x (sz s)) <|
  chk (leI (addZ (sz (subs s 0 x)) (sz x_2)) 9223372036854775807) <|
  chk (leI 0 (addI .i64 x (sz x_1))) <|
  chk (leI (addI .i64 x (sz x_1)) (sz s)) <|
  chk (leI (addZ (sz (catS (subs s 0 x) x_2)) (sz (subs s (addI .i64 x (sz x_1)) (sz s)))) 9223372036854775807) <|
  some (catS (catS (subs s 0 x) x_2) (subs s (addI .i64 x (sz x_1)) (sz s)))) := by kernel_rfl
theorem impl_DoStep_J17.eq (put : ByteArray) (text : ByteArray) (k : Int) (x : Bool) (h : ByteArray) (h_1 : List T_issi) (h_2 : Int) (x_1 : Int) (x_2 : ByteArray) (x_3 : Int) (x_4 : ByteArray) (x_5 : Int) (x_6 : ByteArray) (x_7 : ByteArray) (x_8 : Int) (steps : List T_issi) (fu : Nat) : impl_DoStep_J17 fu put text k x h h_1 h_2 x_1 x_2 x_3 x_4 x_5 x_6 x_7 x_8 steps =
  (brB x
   (chk (leI 0 k) <|
   chk (ltI k (ln steps)) <|
   chk (leI (addZ (sz ((((rd steps k (0, ((bs []), ((bs []), 0)))).2).2).1)) (sz put)) 9223372036854775807) <|
   chk (leI 0 k) <|
   chk (ltI k (ln steps)) <|
   impl_DoStep_J19 fu text h h_1 h_2 x_1 x_2 x_3 x_4 (setI steps k ((rd steps k (0, ((bs []), ((bs []), 0)))).1, (((rd steps k (0, ((bs []), ((bs []), 0)))).2).1, ((catS ((((rd steps k (0, ((bs []), ((bs []), 0)))).2).2).1) put), (((rd steps k (0, ((bs []), ((bs []), 0)))).2).2).2)))))
   (chk (ltI (mulZ (addZ (ln steps) (ln ((x_5, (x_6, (x_7, x_8))) :: ([] : List (Int × ByteArray × ByteArray × Int))))) 48) 140737488355328) <|
   impl_DoStep_J19 fu text h h_1 h_2 x_1 x_2 x_3 x_4 (catL steps ((x_5, (x_6, (x_7, x_8))) :: ([] : List (Int × ByteArray × ByteArray × Int)))))) := by unfold impl_DoStep_J17; rw [joinAt_eq]; kernel_rfl
theorem impl_Undo_L9.eq (n : Int) (g : Int) (h : ByteArray) (h_1 : List T_issi) (h_2 : Int) (x : Int) (x_1 : ByteArray) (x_2 : Int) (x_3 : ByteArray) (lNil : Bool) (l : List T_s) (fu fu1 : Nat) : impl_Undo_L9 fu (fu1 + 1) n g h h_1 h_2 x x_1 x_2 x_3 lNil l =
  (brB (ltI 0 g)
   (brB (ltI 0 n)
    (chk (leI 0 (subI .i64 n 1)) <|
    chk (ltI (subI .i64 n 1) (ln h_1)) <|
    brB (eqI ((((rd h_1 (subI .i64 n 1) (0, ((bs []), ((bs []), 0)))).2).2).2) g)
     (impl_Undo_L9 fu fu1 (subI .i64 n 1) g h h_1 h_2 x x_1 x_2 x_3 lNil l)
     (optB (slices_Clone_Step_Step fu h_1) fun r0 =>
     chk (leI 0 n) <|
     chk (ltI n (ln l)) <|
     some (0, (h, (r0, (n, (rd l n (bs []))))))))
    (optB (slices_Clone_Step_Step fu h_1) fun r0 =>
    chk (leI 0 n) <|
    chk (ltI n (ln l)) <|
    some (0, (h, (r0, (n, (rd l n (bs []))))))))
   (optB (slices_Clone_Step_Step fu h_1) fun r0 =>
   chk (leI 0 n) <|
   chk (ltI n (ln l)) <|
   some (0, (h, (r0, (n, (rd l n (bs [])))))))) := by kernel_rfl
theorem spec_l21Go.eq (h : ByteArray) (h_1 : List T_issi) (h_2 : Int) (by' : Int) (fu : Nat) : spec_l21Go (fu + 1) h h_1 h_2 by' =
  (optB (spec_HistoryFault fu h h_1 h_2) fun r0 =>
  brB (notB (eqI r0 0))
   (some (1, ((bs []), (([] : List (Int × ByteArray × ByteArray × Int)), (0, (bs []))))))
   (optB (spec_l21Move fu h h_1 h_2 by') fun r1 =>
   brB (notB r1.2)
    (some (5, ((bs []), (([] : List (Int × ByteArray × ByteArray × Int)), (0, (bs []))))))
    (optB (spec_l21Out'1 fu r1.1.1 r1.1.2.2 r1.1.2.1) fun r2 =>
    some (r2.1.1, (r2.1.2.1, (r2.1.2.2.1, (r2.1.2.2.2.1, r2.1.2.2.2.2))))))) := by kernel_rfl
theorem impl_Redo.eq (h : ByteArray) (h_1 : List T_issi) (h_2 : Int) (fu : Nat) : impl_Redo (fu + 1) h h_1 h_2 =
  (optB (impl_texts fu h h_1 h_2) fun r0 =>
  brB r0.2
   (some (1, ((bs []), (([] : List (Int × ByteArray × ByteArray × Int)), (0, (bs []))))))
   (brB (eqI h_2 (ln h_1))
    (some (5, ((bs []), (([] : List (Int × ByteArray × ByteArray × Int)), (0, (bs []))))))
    (chk (leI 0 h_2) <|
    chk (ltI h_2 (ln h_1)) <|
    impl_Redo_L9 fu fu (addI .i64 h_2 1) ((((rd h_1 h_2 (0, ((bs []), ((bs []), 0)))).2).2).2) h h_1 h_2 0 (bs []) 0 (bs []) r0.2 r0.1))) := by kernel_rfl
theorem laws_FnUndone_L18.eq (i : Int) (h : ByteArray) (h_1 : Int) (x : List T_issi) (now : Int) (now_1 : ByteArray) (now_2 : Int) (now_3 : ByteArray) (x_1 : List T_issi) (fu fu1 : Nat) : laws_FnUndone_L18 fu (fu1 + 1) i h h_1 x now now_1 now_2 now_3 x_1 =
  (brB (eqI now 0)
   (brB (leI i 300)
    (brB (eqI now_2 0)
     (brB (bytesEq now_3 h)
      (optB (impl_Undo fu now_1 x_1 now_2) fun r0 =>
      some (eqI r0.1 5))
      (some false))
     (optB (impl_Undo fu now_1 x_1 now_2) fun r0 =>
     laws_FnUndone_L18 fu fu1 (addI .i64 i 1) h h_1 x r0.1 r0.2.1 r0.2.2.2.1 r0.2.2.2.2 r0.2.2.1))
    (some false))
   (some false)) := by kernel_rfl
theorem spec_l01Src_ropeText_L3.eq (out : ByteArray) (k : Int) (s : List T_y) (s_1 : Int) (s_2 : Int) (s_3 : Int) (fu fu1 : Nat) : spec_l01Src_ropeText_L3 fu (fu1 + 1) out k s s_1 s_2 s_3 =
  (brB (ltI 0 k)
   (optB (spec_l01Write fu 512) fun r0 =>
   optB (spec_l01Write fu 24576) fun r1 =>
   optB (spec_l01Write fu 24577) fun r2 =>
   chk (leI (addZ (sz r1) (sz r2)) 9223372036854775807) <|
   optB (spec_l01Write fu 65536) fun r3 =>
   optB (spec_l01Src_pick fu ((bs [97, 98, 99, 100, 101, 102, 103, 104, 105, 106]) :: ((bs [10]) :: ((bs [120, 121]) :: (r0 :: ((catS r1 r2) :: ((bs [255]) :: ((bs [119, 111, 114, 100, 32]) :: ((bs [10, 10]) :: (r3 :: ((bs [48, 49, 50, 51, 52, 53, 54, 55, 56, 57, 48, 49, 50, 51, 52, 53, 54, 55, 56, 57, 48, 49, 50, 51, 52, 53, 54, 55, 56, 57, 48, 49, 50, 51, 52, 53, 54, 55, 56, 57]) :: ([] : List ByteArray))))))))))) s s_1 s_2 s_3) fun r4 =>
   chk (leI (addZ (sz out) (sz r4.1)) 9223372036854775807) <|
   spec_l01Src_ropeText_L3 fu fu1 (catS out r4.1) (subI .i64 k 1) r4.2.1 r4.2.2.1 r4.2.2.2.1 r4.2.2.2.2)
   (optB (spec_l01Src_one fu 60 s s_1 s_2 s_3) fun r0 =>
   brB r0.1
    (optB (spec_l01Src_n fu 5 r0.2.1 r0.2.2.1 r0.2.2.2.1 r0.2.2.2.2) fun r1 =>
    optB (spec_l01Src_long fu (bs [97, 98, 99, 10]) (addI .i64 65533 r1.1) r1.2.1 r1.2.2.1 r1.2.2.2.1 r1.2.2.2.2) fun r2 =>
    some (r2.1, (r2.2.1, (r2.2.2.1, (r2.2.2.2.1, r2.2.2.2.2)))))
    (some (out, (r0.2.1, (r0.2.2.1, (r0.2.2.2.1, r0.2.2.2.2))))))) := by kernel_rfl
theorem spec_l21Text'1.eq (h : ByteArray) (h_1 : Int) (done : Int) (fu : Nat) : spec_l21Text'1 (fu + 1) h h_1 done =
  (spec_l21Text_L4'1 fu fu done h (leI (sz h) 65536) 0 h h_1) := by kernel_rfl
theorem spec_l01Src_history_J14.eq (k : Int) (at' : Int) (drop : Int) (s : List T_y) (s_1 : Int) (s_2 : Int) (s_3 : Int) (x : ByteArray) (x_1 : Int) (h : ByteArray) (h_1 : Int) (fu fu1 : Nat) : spec_l01Src_history_J14 fu fu1 k at' drop s s_1 s_2 s_3 x x_1 h h_1 =
  (optB (spec_l01Write fu 512) fun r0 =>
  optB (spec_l01Src_pick fu ((bs [120]) :: ((bs [121, 122]) :: ((bs [10]) :: ((bs []) :: (r0 :: ([] : List ByteArray)))))) s s_1 s_2 s_3) fun r1 =>
  optB (spec_l01Src_n fu 3 r1.2.1 r1.2.2.1 r1.2.2.2.1 r1.2.2.2.2) fun r2 =>
  optB (spec_l21Do'1 fu h h_1 at' drop r1.1 r2.1) fun r3 =>
  brB (eqI r3.1 0)
   (spec_l01Src_history_J17 fu fu1 k r2.2.1 r2.2.2.1 r2.2.2.2.1 r2.2.2.2.2 x x_1 r3.2.1 r3.2.2.2.1 r3.2.2.1)
   (spec_l01Src_history_J17'1 fu fu1 k r2.2.1 r2.2.2.1 r2.2.2.2.1 r2.2.2.2.2 x x_1 h h_1)) := by unfold spec_l01Src_history_J14; rw [joinAt_eq]; kernel_rfl
theorem spec_l21Put.eq (t : ByteArray) (s : Int) (s_1 : ByteArray) (s_2 : ByteArray) (s_3 : Int) (fu : Nat) : spec_l21Put (fu + 1) t s s_1 s_2 s_3 =
  (optB (spec_l20Within fu t s (sz s_1)) fun r0 =>
  brB (notB r0)
   (some (t, false))
   (chk (leI 0 s) <|
   chk (leI s (addI .i64 s (sz s_1))) <|
   chk (leI (addI .i64 s (sz s_1)) (sz t)) <|
   brB (notB (bytesEq (subs t s (addI .i64 s (sz s_1))) s_1))
    (some (t, false))
    (chk (leI 0 s) <|
    chk (leI s (sz t)) <|
    chk (leI (addZ (sz (subs t 0 s)) (sz s_2)) 9223372036854775807) <|
    chk (leI 0 (addI .i64 s (sz s_1))) <|
    chk (leI (addI .i64 s (sz s_1)) (sz t)) <|
    chk (leI (addZ (sz (catS (subs t 0 s) s_2)) (sz (subs t (addI .i64 s (sz s_1)) (sz t)))) 9223372036854775807) <|
    some ((catS (catS (subs t 0 s) s_2) (subs t (addI .i64 s (sz s_1)) (sz t))), (leI (sz (catS (catS (subs t 0 s) s_2) (subs t (addI .i64 s (sz s_1)) (sz t)))) 65536))))) := by kernel_rfl
theorem spec_l21Out.eq (h : ByteArray) (h_1 : Int) (h_2 : List T_issi) (fu : Nat) : spec_l21Out (fu + 1) h h_1 h_2 =
  (optB (spec_l21Text fu h h_2 h_1 h_1) fun r0 =>
  some ((0, (h, (h_2, (h_1, r0.1)))), ())) := by kernel_rfl
theorem internal_stringslite_HasPrefix.eq (s : ByteArray) (prefix' : ByteArray) (fu : Nat) : internal_stringslite_HasPrefix (fu + 1) s prefix' =
  (brB (leI (sz prefix') (sz s))
   (chk (leI 0 (sz prefix')) <|
   chk (leI (sz prefix') (sz s)) <|
   some (bytesEq (subs s 0 (sz prefix')) prefix'))
   (some false)) := by kernel_rfl
theorem impl_DoStep_J19.eq (text : ByteArray) (h : ByteArray) (h_1 : List T_issi) (h_2 : Int) (x : Int) (x_1 : ByteArray) (x_2 : Int) (x_3 : ByteArray) (steps : List T_issi) (fu : Nat) : impl_DoStep_J19 fu text h h_1 h_2 x x_1 x_2 x_3 steps =
  (brB (ltI 300 (ln steps))
   (some (8, ((bs []), (([] : List (Int × ByteArray × ByteArray × Int)), (0, (bs []))))))
   (optB (impl_long fu text) fun r0 =>
   brB r0
    (some (8, ((bs []), (([] : List (Int × ByteArray × ByteArray × Int)), (0, (bs []))))))
    (some (0, (h, (steps, ((ln steps), text))))))) := by unfold impl_DoStep_J19; rw [joinAt_eq]; kernel_rfl
theorem spec_l21Move.eq (h : ByteArray) (h_1 : List T_issi) (h_2 : Int) (by' : Int) (fu : Nat) : spec_l21Move (fu + 1) h h_1 h_2 by' =
  (chk (ltI (mulZ (addZ (ln ([] : List (Int × ByteArray × ByteArray × Int))) (ln h_1)) 48) 140737488355328) <|
  optB (spec_l21Next fu h_2 by') fun r0 =>
  brB (ltI r0 0)
   (some ((h, ((catL ([] : List (Int × ByteArray × ByteArray × Int)) h_1), h_2)), false))
   (brB (leI (ln (catL ([] : List (Int × ByteArray × ByteArray × Int)) h_1)) r0)
    (some ((h, ((catL ([] : List (Int × ByteArray × ByteArray × Int)) h_1), h_2)), false))
    (chk (leI 0 r0) <|
    chk (ltI r0 (ln (catL ([] : List (Int × ByteArray × ByteArray × Int)) h_1))) <|
    spec_l21Move_L7 fu fu by' ((((rd (catL ([] : List (Int × ByteArray × ByteArray × Int)) h_1) r0 (0, ((bs []), ((bs []), 0)))).2).2).2) h (addI .i64 h_2 by') (catL ([] : List (Int × ByteArray × ByteArray × Int)) h_1) (bs []) 0))) := by kernel_rfl
theorem spec_l21Out'1.eq (h : ByteArray) (h_1 : Int) (h_2 : List T_issi) (fu : Nat) : spec_l21Out'1 (fu + 1) h h_1 h_2 =
  (optB (spec_l21Text fu h h_2 h_1 h_1) fun r0 =>
  some ((0, (h, (h_2, (h_1, r0.1)))), ())) := by kernel_rfl
theorem impl_Redo_L9.eq (n : Int) (g : Int) (h : ByteArray) (h_1 : List T_issi) (h_2 : Int) (x : Int) (x_1 : ByteArray) (x_2 : Int) (x_3 : ByteArray) (lNil : Bool) (l : List T_s) (fu fu1 : Nat) : impl_Redo_L9 fu (fu1 + 1) n g h h_1 h_2 x x_1 x_2 x_3 lNil l =
  (brB (ltI 0 g)
   (brB (ltI n (ln h_1))
    (chk (leI 0 n) <|
    chk (ltI n (ln h_1)) <|
    brB (eqI ((((rd h_1 n (0, ((bs []), ((bs []), 0)))).2).2).2) g)
     (impl_Redo_L9 fu fu1 (addI .i64 n 1) g h h_1 h_2 x x_1 x_2 x_3 lNil l)
     (optB (slices_Clone_Step_Step fu h_1) fun r0 =>
     chk (leI 0 n) <|
     chk (ltI n (ln l)) <|
     some (0, (h, (r0, (n, (rd l n (bs []))))))))
    (optB (slices_Clone_Step_Step fu h_1) fun r0 =>
    chk (leI 0 n) <|
    chk (ltI n (ln l)) <|
    some (0, (h, (r0, (n, (rd l n (bs []))))))))
   (optB (slices_Clone_Step_Step fu h_1) fun r0 =>
   chk (leI 0 n) <|
   chk (ltI n (ln l)) <|
   some (0, (h, (r0, (n, (rd l n (bs [])))))))) := by kernel_rfl
theorem spec_l01Write.eq (p : Int) (fu : Nat) : spec_l01Write (fu + 1) p =
  (optB (spec_l01IsPoint fu p) fun r0 =>
  brB (notB r0)
   (spec_l01Write_J3 fu 65533)
   (spec_l01Write_J3 fu p)) := by kernel_rfl
theorem spec_l21Text_L4'1.eq (done : Int) (t : ByteArray) (ok : Bool) (i : Int) (h : ByteArray) (h_1 : Int) (fu fu1 : Nat) : spec_l21Text_L4'1 fu (fu1 + 1) done t ok i h h_1 =
  (brB (ltI i done)
   (brB ok
    (none)
    (some (t, ok)))
   (some (t, ok))) := by kernel_rfl
theorem spec_l21Do'1.eq (h : ByteArray) (h_1 : Int) (at' : Int) (drop : Int) (put : ByteArray) (group : Int) (fu : Nat) : spec_l21Do'1 (fu + 1) h h_1 at' drop put group =
  (optB (spec_l21Text'1 fu h h_1 h_1) fun r0 =>
  optB (spec_l20Within fu r0.1 at' drop) fun r1 =>
  brB (notB r1)
   (some (5, ((bs []), (([] : List (Int × ByteArray × ByteArray × Int)), (0, (bs []))))))
   (chk (leI 0 at') <|
   chk (leI at' (addI .i64 at' drop)) <|
   chk (leI (addI .i64 at' drop) (sz r0.1)) <|
   brB (bytesEq (subs r0.1 at' (addI .i64 at' drop)) put)
    (some (6, ((bs []), (([] : List (Int × ByteArray × ByteArray × Int)), (0, (bs []))))))
    (chk (leI 0 h_1) <|
    chk (leI h_1 0) <|
    chk (ltI (mulZ (addZ (ln ([] : List (Int × ByteArray × ByteArray × Int))) (ln ([] : List (Int × ByteArray × ByteArray × Int)))) 48) 140737488355328) <|
    brB (ltI 0 (ln (catL ([] : List (Int × ByteArray × ByteArray × Int)) ([] : List (Int × ByteArray × ByteArray × Int)))))
     (brB (ltI 0 group)
      (chk (leI 0 (subI .i64 (ln (catL ([] : List (Int × ByteArray × ByteArray × Int)) ([] : List (Int × ByteArray × ByteArray × Int)))) 1)) <|
      chk (ltI (subI .i64 (ln (catL ([] : List (Int × ByteArray × ByteArray × Int)) ([] : List (Int × ByteArray × ByteArray × Int)))) 1) (ln (catL ([] : List (Int × ByteArray × ByteArray × Int)) ([] : List (Int × ByteArray × ByteArray × Int))))) <|
      brB (eqI ((((rd (catL ([] : List (Int × ByteArray × ByteArray × Int)) ([] : List (Int × ByteArray × ByteArray × Int))) (subI .i64 (ln (catL ([] : List (Int × ByteArray × ByteArray × Int)) ([] : List (Int × ByteArray × ByteArray × Int)))) 1) (0, ((bs []), ((bs []), 0)))).2).2).2) group)
       (chk (leI 0 (subI .i64 (ln (catL ([] : List (Int × ByteArray × ByteArray × Int)) ([] : List (Int × ByteArray × ByteArray × Int)))) 1)) <|
       chk (ltI (subI .i64 (ln (catL ([] : List (Int × ByteArray × ByteArray × Int)) ([] : List (Int × ByteArray × ByteArray × Int)))) 1) (ln (catL ([] : List (Int × ByteArray × ByteArray × Int)) ([] : List (Int × ByteArray × ByteArray × Int))))) <|
       brB (bytesEq (((rd (catL ([] : List (Int × ByteArray × ByteArray × Int)) ([] : List (Int × ByteArray × ByteArray × Int))) (subI .i64 (ln (catL ([] : List (Int × ByteArray × ByteArray × Int)) ([] : List (Int × ByteArray × ByteArray × Int)))) 1) (0, ((bs []), ((bs []), 0)))).2).1) (bs []))
        (brB (bytesEq (subs r0.1 at' (addI .i64 at' drop)) (bs []))
         (chk (leI 0 (subI .i64 (ln (catL ([] : List (Int × ByteArray × ByteArray × Int)) ([] : List (Int × ByteArray × ByteArray × Int)))) 1)) <|
         chk (ltI (subI .i64 (ln (catL ([] : List (Int × ByteArray × ByteArray × Int)) ([] : List (Int × ByteArray × ByteArray × Int)))) 1) (ln (catL ([] : List (Int × ByteArray × ByteArray × Int)) ([] : List (Int × ByteArray × ByteArray × Int))))) <|
         chk (leI 0 (subI .i64 (ln (catL ([] : List (Int × ByteArray × ByteArray × Int)) ([] : List (Int × ByteArray × ByteArray × Int)))) 1)) <|
         chk (ltI (subI .i64 (ln (catL ([] : List (Int × ByteArray × ByteArray × Int)) ([] : List (Int × ByteArray × ByteArray × Int)))) 1) (ln (catL ([] : List (Int × ByteArray × ByteArray × Int)) ([] : List (Int × ByteArray × ByteArray × Int))))) <|
         spec_l21Do_J10'1 fu drop put r0.1 (ln (catL ([] : List (Int × ByteArray × ByteArray × Int)) ([] : List (Int × ByteArray × ByteArray × Int)))) (eqI at' (addI .i64 ((rd (catL ([] : List (Int × ByteArray × ByteArray × Int)) ([] : List (Int × ByteArray × ByteArray × Int))) (subI .i64 (ln (catL ([] : List (Int × ByteArray × ByteArray × Int)) ([] : List (Int × ByteArray × ByteArray × Int)))) 1) (0, ((bs []), ((bs []), 0)))).1) (sz ((((rd (catL ([] : List (Int × ByteArray × ByteArray × Int)) ([] : List (Int × ByteArray × ByteArray × Int))) (subI .i64 (ln (catL ([] : List (Int × ByteArray × ByteArray × Int)) ([] : List (Int × ByteArray × ByteArray × Int)))) 1) (0, ((bs []), ((bs []), 0)))).2).2).1)))) h h_1 0 (bs []) 0 (bs []) at' (subs r0.1 at' (addI .i64 at' drop)) put group (catL ([] : List (Int × ByteArray × ByteArray × Int)) ([] : List (Int × ByteArray × ByteArray × Int))))
         (spec_l21Do_J10'1 fu drop put r0.1 (ln (catL ([] : List (Int × ByteArray × ByteArray × Int)) ([] : List (Int × ByteArray × ByteArray × Int)))) false h h_1 0 (bs []) 0 (bs []) at' (subs r0.1 at' (addI .i64 at' drop)) put group (catL ([] : List (Int × ByteArray × ByteArray × Int)) ([] : List (Int × ByteArray × ByteArray × Int)))))
        (spec_l21Do_J10'1 fu drop put r0.1 (ln (catL ([] : List (Int × ByteArray × ByteArray × Int)) ([] : List (Int × ByteArray × ByteArray × Int)))) false h h_1 0 (bs []) 0 (bs []) at' (subs r0.1 at' (addI .i64 at' drop)) put group (catL ([] : List (Int × ByteArray × ByteArray × Int)) ([] : List (Int × ByteArray × ByteArray × Int)))))
       (spec_l21Do_J10'1 fu drop put r0.1 (ln (catL ([] : List (Int × ByteArray × ByteArray × Int)) ([] : List (Int × ByteArray × ByteArray × Int)))) false h h_1 0 (bs []) 0 (bs []) at' (subs r0.1 at' (addI .i64 at' drop)) put group (catL ([] : List (Int × ByteArray × ByteArray × Int)) ([] : List (Int × ByteArray × ByteArray × Int)))))
      (spec_l21Do_J10'1 fu drop put r0.1 (ln (catL ([] : List (Int × ByteArray × ByteArray × Int)) ([] : List (Int × ByteArray × ByteArray × Int)))) false h h_1 0 (bs []) 0 (bs []) at' (subs r0.1 at' (addI .i64 at' drop)) put group (catL ([] : List (Int × ByteArray × ByteArray × Int)) ([] : List (Int × ByteArray × ByteArray × Int)))))
     (spec_l21Do_J10'1 fu drop put r0.1 (ln (catL ([] : List (Int × ByteArray × ByteArray × Int)) ([] : List (Int × ByteArray × ByteArray × Int)))) false h h_1 0 (bs []) 0 (bs []) at' (subs r0.1 at' (addI .i64 at' drop)) put group (catL ([] : List (Int × ByteArray × ByteArray × Int)) ([] : List (Int × ByteArray × ByteArray × Int))))))) := by kernel_rfl
theorem spec_l01Src_history_J17.eq (k : Int) (s : List T_y) (s_1 : Int) (s_2 : Int) (s_3 : Int) (x : ByteArray) (x_1 : Int) (h : ByteArray) (h_1 : Int) (x_2 : List T_issi) (fu fu1 : Nat) : spec_l01Src_history_J17 fu fu1 k s s_1 s_2 s_3 x x_1 h h_1 x_2 =
  (optB (spec_l01Src_one fu 4 s s_1 s_2 s_3) fun r0 =>
  brB r0.1
   (optB (spec_l01Src_n fu 2 r0.2.1 r0.2.2.1 r0.2.2.2.1 r0.2.2.2.2) fun r1 =>
   optB (spec_l21Move fu h x_2 h_1 (subI .i64 (mulI .i64 r1.1 2) 1)) fun r2 =>
   spec_l01Src_history_J6 fu fu1 k r1.2.1 r1.2.2.1 r1.2.2.2.1 r1.2.2.2.2 x x_1 r2.1.1 r2.1.2.2 r2.1.2.1)
   (spec_l01Src_history_J6 fu fu1 k r0.2.1 r0.2.2.1 r0.2.2.2.1 r0.2.2.2.2 x x_1 h h_1 x_2)) := by unfold spec_l01Src_history_J17; rw [joinAt_eq]; kernel_rfl
theorem spec_l01Src_history_J17'1.eq (k : Int) (s : List T_y) (s_1 : Int) (s_2 : Int) (s_3 : Int) (x : ByteArray) (x_1 : Int) (h : ByteArray) (h_1 : Int) (fu fu1 : Nat) : spec_l01Src_history_J17'1 fu fu1 k s s_1 s_2 s_3 x x_1 h h_1 =
  (optB (spec_l01Src_one fu 4 s s_1 s_2 s_3) fun r0 =>
  brB r0.1
   (optB (spec_l01Src_n fu 2 r0.2.1 r0.2.2.1 r0.2.2.2.1 r0.2.2.2.2) fun r1 =>
   optB (spec_l21Move'1 fu h h_1 (subI .i64 (mulI .i64 r1.1 2) 1)) fun r2 =>
   spec_l01Src_history_J6 fu fu1 k r1.2.1 r1.2.2.1 r1.2.2.2.1 r1.2.2.2.2 x x_1 r2.1.1 r2.1.2.2 r2.1.2.1)
   (spec_l01Src_history_J6'1 fu fu1 k r0.2.1 r0.2.2.1 r0.2.2.2.1 r0.2.2.2.2 x x_1 h h_1)) := by unfold spec_l01Src_history_J17'1; rw [joinAt_eq]; kernel_rfl
theorem spec_l21Next.eq (done : Int) (by' : Int) (fu : Nat) : spec_l21Next (fu + 1) done by' =
  (brB (ltI by' 0)
   (some (subI .i64 done 1))
   (some done)) := by kernel_rfl
theorem spec_l21Move_L7.eq (by' : Int) (group : Int) (h : ByteArray) (h_1 : Int) (x : List T_issi) (x_1 : ByteArray) (x_2 : Int) (fu fu1 : Nat) : spec_l21Move_L7 fu (fu1 + 1) by' group h h_1 x x_1 x_2 =
  (brB (ltI 0 group)
   (optB (spec_l21Next fu h_1 by') fun r0 =>
   brB (ltI r0 0)
    (some ((h, (x, h_1)), true))
    (brB (leI (ln x) r0)
     (some ((h, (x, h_1)), true))
     (chk (leI 0 r0) <|
     chk (ltI r0 (ln x)) <|
     brB (notB (eqI ((((rd x r0 (0, ((bs []), ((bs []), 0)))).2).2).2) group))
      (some ((h, (x, h_1)), true))
      (spec_l21Move_L7 fu fu1 by' group h (addI .i64 h_1 by') x x_1 x_2))))
   (some ((h, (x, h_1)), true))) := by kernel_rfl
theorem spec_l01IsPoint.eq (p : Int) (fu : Nat) : spec_l01IsPoint (fu + 1) p =
  (brB (leI 0 p)
   (brB (leI p 1114111)
    (brB (ltI p 55296)
     (some true)
     (some (ltI 57343 p)))
    (some false))
   (some false)) := by kernel_rfl
theorem spec_l01Write_J3.eq (p : Int) (fu : Nat) : spec_l01Write_J3 fu p =
  (brB (ltI p 128)
   (some (bytesOf ((wrI .u8 p) :: ([] : List Int))))
   (brB (ltI p 2048)
    (chk (notB (eqI 64 0)) <|
    chk (notB (eqI 64 0)) <|
    some (bytesOf ((wrI .u8 (addI .i64 192 (quoI .i64 p 64))) :: ((wrI .u8 (addI .i64 128 (remI p 64))) :: ([] : List Int)))))
    (brB (ltI p 65536)
     (chk (notB (eqI 4096 0)) <|
     chk (notB (eqI 64 0)) <|
     chk (notB (eqI 64 0)) <|
     chk (notB (eqI 64 0)) <|
     some (bytesOf ((wrI .u8 (addI .i64 224 (quoI .i64 p 4096))) :: ((wrI .u8 (addI .i64 128 (remI (quoI .i64 p 64) 64))) :: ((wrI .u8 (addI .i64 128 (remI p 64))) :: ([] : List Int))))))
     (chk (notB (eqI 262144 0)) <|
     chk (notB (eqI 4096 0)) <|
     chk (notB (eqI 64 0)) <|
     chk (notB (eqI 64 0)) <|
     chk (notB (eqI 64 0)) <|
     chk (notB (eqI 64 0)) <|
     some (bytesOf ((wrI .u8 (addI .i64 240 (quoI .i64 p 262144))) :: ((wrI .u8 (addI .i64 128 (remI (quoI .i64 p 4096) 64))) :: ((wrI .u8 (addI .i64 128 (remI (quoI .i64 p 64) 64))) :: ((wrI .u8 (addI .i64 128 (remI p 64))) :: ([] : List Int)))))))))) := by unfold spec_l01Write_J3; rw [joinAt_eq]; kernel_rfl
theorem spec_l21Do_J10'1.eq (drop : Int) (put : ByteArray) (t : ByteArray) (n : Int) (x : Bool) (h : ByteArray) (h_1 : Int) (x_1 : Int) (x_2 : ByteArray) (x_3 : Int) (x_4 : ByteArray) (s : Int) (s_1 : ByteArray) (s_2 : ByteArray) (s_3 : Int) (steps : List T_issi) (fu : Nat) : spec_l21Do_J10'1 fu drop put t n x h h_1 x_1 x_2 x_3 x_4 s s_1 s_2 s_3 steps =
  (brB x
   (chk (leI 0 (subI .i64 n 1)) <|
   chk (ltI (subI .i64 n 1) (ln steps)) <|
   chk (leI (addZ (sz ((((rd steps (subI .i64 n 1) (0, ((bs []), ((bs []), 0)))).2).2).1)) (sz put)) 9223372036854775807) <|
   chk (leI 0 (subI .i64 n 1)) <|
   chk (ltI (subI .i64 n 1) (ln steps)) <|
   spec_l21Do_J12'1 fu drop put t h h_1 x_1 x_2 x_3 x_4 (setI steps (subI .i64 n 1) ((rd steps (subI .i64 n 1) (0, ((bs []), ((bs []), 0)))).1, (((rd steps (subI .i64 n 1) (0, ((bs []), ((bs []), 0)))).2).1, ((catS ((((rd steps (subI .i64 n 1) (0, ((bs []), ((bs []), 0)))).2).2).1) put), (((rd steps (subI .i64 n 1) (0, ((bs []), ((bs []), 0)))).2).2).2)))))
   (chk (ltI (mulZ (addZ (ln steps) (ln ((s, (s_1, (s_2, s_3))) :: ([] : List (Int × ByteArray × ByteArray × Int))))) 48) 140737488355328) <|
   spec_l21Do_J12'1 fu drop put t h h_1 x_1 x_2 x_3 x_4 (catL steps ((s, (s_1, (s_2, s_3))) :: ([] : List (Int × ByteArray × ByteArray × Int)))))) := by unfold spec_l21Do_J10'1; rw [joinAt_eq]; kernel_rfl
theorem spec_l01Src_history_J6.eq (k : Int) (s : List T_y) (s_1 : Int) (s_2 : Int) (s_3 : Int) (x : ByteArray) (x_1 : Int) (h : ByteArray) (h_1 : Int) (x_2 : List T_issi) (fu fu1 : Nat) : spec_l01Src_history_J6 fu fu1 k s s_1 s_2 s_3 x x_1 h h_1 x_2 =
  (spec_l01Src_history_L5'1 fu fu1 (subI .i64 k 1) s s_1 s_2 s_3 x x_1 h h_1 x_2) := by unfold spec_l01Src_history_J6; rw [joinAt_eq]; kernel_rfl
theorem spec_l21Move'1.eq (h : ByteArray) (h_1 : Int) (by' : Int) (fu : Nat) : spec_l21Move'1 (fu + 1) h h_1 by' =
  (chk (ltI (mulZ (addZ (ln ([] : List (Int × ByteArray × ByteArray × Int))) (ln ([] : List (Int × ByteArray × ByteArray × Int)))) 48) 140737488355328) <|
  optB (spec_l21Next fu h_1 by') fun r0 =>
  brB (ltI r0 0)
   (some ((h, ((catL ([] : List (Int × ByteArray × ByteArray × Int)) ([] : List (Int × ByteArray × ByteArray × Int))), h_1)), false))
   (brB (leI (ln (catL ([] : List (Int × ByteArray × ByteArray × Int)) ([] : List (Int × ByteArray × ByteArray × Int)))) r0)
    (some ((h, ((catL ([] : List (Int × ByteArray × ByteArray × Int)) ([] : List (Int × ByteArray × ByteArray × Int))), h_1)), false))
    (chk (leI 0 r0) <|
    chk (ltI r0 (ln (catL ([] : List (Int × ByteArray × ByteArray × Int)) ([] : List (Int × ByteArray × ByteArray × Int))))) <|
    spec_l21Move_L7 fu fu by' ((((rd (catL ([] : List (Int × ByteArray × ByteArray × Int)) ([] : List (Int × ByteArray × ByteArray × Int))) r0 (0, ((bs []), ((bs []), 0)))).2).2).2) h (addI .i64 h_1 by') (catL ([] : List (Int × ByteArray × ByteArray × Int)) ([] : List (Int × ByteArray × ByteArray × Int))) (bs []) 0))) := by kernel_rfl
theorem spec_l01Src_history_J6'1.eq (k : Int) (s : List T_y) (s_1 : Int) (s_2 : Int) (s_3 : Int) (x : ByteArray) (x_1 : Int) (h : ByteArray) (h_1 : Int) (fu fu1 : Nat) : spec_l01Src_history_J6'1 fu fu1 k s s_1 s_2 s_3 x x_1 h h_1 =
  (spec_l01Src_history_L5 fu fu1 (subI .i64 k 1) s s_1 s_2 s_3 x x_1 h h_1) := by unfold spec_l01Src_history_J6'1; rw [joinAt_eq]; kernel_rfl
theorem spec_l21Do_J12'1.eq (drop : Int) (put : ByteArray) (t : ByteArray) (h : ByteArray) (h_1 : Int) (x : Int) (x_1 : ByteArray) (x_2 : Int) (x_3 : ByteArray) (steps : List T_issi) (fu : Nat) : spec_l21Do_J12'1 fu drop put t h h_1 x x_1 x_2 x_3 steps =
  (brB (ltI 300 (ln steps))
   (some (8, ((bs []), (([] : List (Int × ByteArray × ByteArray × Int)), (0, (bs []))))))
   (brB (ltI 65536 (addI .i64 (subI .i64 (sz t) drop) (sz put)))
    (some (8, ((bs []), (([] : List (Int × ByteArray × ByteArray × Int)), (0, (bs []))))))
    (optB (spec_l21Out fu h (ln steps) steps) fun r0 =>
    some (r0.1.1, (r0.1.2.1, (r0.1.2.2.1, (r0.1.2.2.2.1, r0.1.2.2.2.2))))))) := by unfold spec_l21Do_J12'1; rw [joinAt_eq]; kernel_rfl
theorem spec_l01Src_history_L5'1.eq (k : Int) (s : List T_y) (s_1 : Int) (s_2 : Int) (s_3 : Int) (x : ByteArray) (x_1 : Int) (h : ByteArray) (h_1 : Int) (x_2 : List T_issi) (fu fu1 : Nat) : spec_l01Src_history_L5'1 fu (fu1 + 1) k s s_1 s_2 s_3 x x_1 h h_1 x_2 =
  (brB (ltI 0 k)
   (optB (spec_l21Text fu h x_2 h_1 h_1) fun r0 =>
   optB (spec_l01Src_n fu (addI .i64 (sz r0.1) 1) s s_1 s_2 s_3) fun r1 =>
   optB (spec_l01Src_n fu 2 r1.2.1 r1.2.2.1 r1.2.2.2.1 r1.2.2.2.2) fun r2 =>
   optB (spec_l01Src_n fu (addI .i64 (subI .i64 (sz r0.1) r1.1) 1) r2.2.1 r2.2.2.1 r2.2.2.2.1 r2.2.2.2.2) fun r3 =>
   optB (spec_l01Src_one fu 2 r3.2.1 r3.2.2.1 r3.2.2.2.1 r3.2.2.2.2) fun r4 =>
   brB r4.1
    (brB (ltI 0 h_1)
     (chk (leI 0 (subI .i64 h_1 1)) <|
     chk (ltI (subI .i64 h_1 1) (ln x_2)) <|
     spec_l01Src_history_J14'1 fu fu1 k (addI .i64 ((rd x_2 (subI .i64 h_1 1) (0, ((bs []), ((bs []), 0)))).1) (sz ((((rd x_2 (subI .i64 h_1 1) (0, ((bs []), ((bs []), 0)))).2).2).1))) 0 r4.2.1 r4.2.2.1 r4.2.2.2.1 r4.2.2.2.2 x x_1 h h_1 x_2)
     (spec_l01Src_history_J14'1 fu fu1 k r1.1 (mulI .i64 r2.1 r3.1) r4.2.1 r4.2.2.1 r4.2.2.2.1 r4.2.2.2.2 x x_1 h h_1 x_2))
    (spec_l01Src_history_J14'1 fu fu1 k r1.1 (mulI .i64 r2.1 r3.1) r4.2.1 r4.2.2.1 r4.2.2.2.1 r4.2.2.2.2 x x_1 h h_1 x_2))
   (some ((h, (x_2, h_1)), (s, (s_1, (s_2, s_3)))))) := by kernel_rfl
theorem spec_l01Src_history_J14'1.eq (k : Int) (at' : Int) (drop : Int) (s : List T_y) (s_1 : Int) (s_2 : Int) (s_3 : Int) (x : ByteArray) (x_1 : Int) (h : ByteArray) (h_1 : Int) (x_2 : List T_issi) (fu fu1 : Nat) : spec_l01Src_history_J14'1 fu fu1 k at' drop s s_1 s_2 s_3 x x_1 h h_1 x_2 =
  (optB (spec_l01Write fu 512) fun r0 =>
  optB (spec_l01Src_pick fu ((bs [120]) :: ((bs [121, 122]) :: ((bs [10]) :: ((bs []) :: (r0 :: ([] : List ByteArray)))))) s s_1 s_2 s_3) fun r1 =>
  optB (spec_l01Src_n fu 3 r1.2.1 r1.2.2.1 r1.2.2.2.1 r1.2.2.2.2) fun r2 =>
  optB (spec_l21Do fu h x_2 h_1 at' drop r1.1 r2.1) fun r3 =>
  brB (eqI r3.1 0)
   (spec_l01Src_history_J17 fu fu1 k r2.2.1 r2.2.2.1 r2.2.2.2.1 r2.2.2.2.2 x x_1 r3.2.1 r3.2.2.2.1 r3.2.2.1)
   (spec_l01Src_history_J17 fu fu1 k r2.2.1 r2.2.2.1 r2.2.2.2.1 r2.2.2.2.2 x x_1 h h_1 x_2)) := by unfold spec_l01Src_history_J14'1; rw [joinAt_eq]; kernel_rfl
end Go.Proofs.Ytjgcpfdgneeleaa.UN
