/- What the functions compute: their equations, checked by the kernel. -/
import Derived.ProofKit
import Derived.Test.YtopbiepiceajnaaDD
namespace Go.Proofs.Ytopbiepiceajnaa.D
open Go.Eng
set_option maxRecDepth 100000
set_option maxHeartbeats 4000000
theorem laws_FnExactDoStep.eq (aH : ByteArray) (aH_1 : List T_issi) (aH_2 : Int) (aAt : Int) (aDrop : Int) (aPut : ByteArray) (aGroup : Int) (fu : Nat) : laws_FnExactDoStep (fu + 1) aH aH_1 aH_2 aAt aDrop aPut aGroup =
  (brB (ltI 1048576 (sz aPut))
   (some true)
   (optB (laws_szHistory fu aH aH_1 aH_2 1048576) fun r0 =>
   brB (ltI r0 0)
    (some true)
    (optB (laws_toHistory fu aH aH_1 aH_2) fun r1 =>
    optB (spec_DoStep fu r1.1 r1.2.1 r1.2.2 aAt aDrop aPut aGroup) fun r2 =>
    optB (laws_toHistory fu aH aH_1 aH_2) fun r3 =>
    optB (impl_DoStep fu r3.1 r3.2.1 r3.2.2 aAt aDrop aPut aGroup) fun r4 =>
    optB (laws_eqHistoryOut fu r4.1 r4.2.1 r4.2.2.1 r4.2.2.2.1 r4.2.2.2.2 r2.1 r2.2.1 r2.2.2.1 r2.2.2.2.1 r2.2.2.2.2) fun r5 =>
    brB (notB r5)
     (some false)
     (optB (laws_toHistory fu aH aH_1 aH_2) fun r6 =>
     optB (laws_eqHistory fu r3.1 r3.2.1 r3.2.2 r6.1 r6.2.1 r6.2.2) fun r7 =>
     brB (notB r7)
      (some false)
      (optB (laws_markHistory fu r3.1 r3.2.2 1 r3.2.1) fun r8 =>
      brB (ltI r8.1 0)
       (some false)
       (optB (laws_eqHistoryOut fu r4.1 r4.2.1 r4.2.2.1 r4.2.2.2.1 r4.2.2.2.2 r2.1 r2.2.1 r2.2.2.1 r2.2.2.2.1 r2.2.2.2.2) fun r9 =>
       brB (notB r9)
        (some false)
        (laws_FnExactDoStep_J18 fu aAt aDrop aPut aGroup aH aH_1 aH_2 r2.1 r2.2.1 r2.2.2.2.1 r2.2.2.2.2 r2.2.2.1 r4.1 r4.2.1 r4.2.2.2.1 r4.2.2.2.2 r4.2.2.1))))))) := by kernel_rfl
theorem laws_szHistory.eq (a : ByteArray) (a_1 : List T_issi) (a_2 : Int) (left : Int) (fu : Nat) : laws_szHistory (fu + 1) a a_1 a_2 left =
  (brB (ltI (subI .i64 left (sz a)) 0)
   (some (-1))
   (optB (laws_szStepS fu a_1 (subI .i64 left (sz a))) fun r0 =>
   brB (ltI r0 0)
    (some (-1))
    (some r0))) := by kernel_rfl
theorem laws_toHistory.eq (a : ByteArray) (a_1 : List T_issi) (a_2 : Int) (fu : Nat) : laws_toHistory (fu + 1) a a_1 a_2 =
  (optB (laws_toStepS fu a_1) fun r0 =>
  some (a, (r0, a_2))) := by kernel_rfl
theorem spec_DoStep.eq (h : ByteArray) (h_1 : List T_issi) (h_2 : Int) (at' : Int) (drop : Int) (put : ByteArray) (group : Int) (fu : Nat) : spec_DoStep (fu + 1) h h_1 h_2 at' drop put group =
  (brB (ltI 65536 (sz put))
   (some (2, ((bs []), (([] : List (Int × ByteArray × ByteArray × Int)), (0, (bs []))))))
   (optB (spec_HistoryFault fu h h_1 h_2) fun r0 =>
   brB (notB (eqI r0 0))
    (some (1, ((bs []), (([] : List (Int × ByteArray × ByteArray × Int)), (0, (bs []))))))
    (brB (ltI group 0)
     (some (1, ((bs []), (([] : List (Int × ByteArray × ByteArray × Int)), (0, (bs []))))))
     (brB (ltI 1000000 group)
      (some (1, ((bs []), (([] : List (Int × ByteArray × ByteArray × Int)), (0, (bs []))))))
      (optB (spec_l21Do fu h h_1 h_2 at' drop put group) fun r1 =>
      some (r1.1, (r1.2.1, (r1.2.2.1, (r1.2.2.2.1, r1.2.2.2.2))))))))) := by kernel_rfl
theorem impl_DoStep.eq (h : ByteArray) (h_1 : List T_issi) (h_2 : Int) (at' : Int) (drop : Int) (put : ByteArray) (group : Int) (fu : Nat) : impl_DoStep (fu + 1) h h_1 h_2 at' drop put group =
  (optB (impl_long fu put) fun r0 =>
  brB r0
   (some (2, ((bs []), (([] : List (Int × ByteArray × ByteArray × Int)), (0, (bs []))))))
   (optB (impl_texts fu h h_1 h_2) fun r1 =>
   brB r1.2
    (some (1, ((bs []), (([] : List (Int × ByteArray × ByteArray × Int)), (0, (bs []))))))
    (brB (ltI group 0)
     (some (1, ((bs []), (([] : List (Int × ByteArray × ByteArray × Int)), (0, (bs []))))))
     (brB (ltI 1000000 group)
      (some (1, ((bs []), (([] : List (Int × ByteArray × ByteArray × Int)), (0, (bs []))))))
      (impl_DoStep_J6 fu at' drop put group h h_1 h_2 0 (bs []) 0 (bs []) r1.2 r1.1))))) := by kernel_rfl
theorem laws_eqHistoryOut.eq (a : Int) (a_1 : ByteArray) (a_2 : List T_issi) (a_3 : Int) (a_4 : ByteArray) (b : Int) (b_1 : ByteArray) (b_2 : List T_issi) (b_3 : Int) (b_4 : ByteArray) (fu : Nat) : laws_eqHistoryOut (fu + 1) a a_1 a_2 a_3 a_4 b b_1 b_2 b_3 b_4 =
  (brB (notB (eqI a b))
   (some false)
   (optB (laws_eqHistory fu a_1 a_2 a_3 b_1 b_2 b_3) fun r0 =>
   brB (notB r0)
    (some false)
    (brB (notB (bytesEq a_4 b_4))
     (some false)
     (some true)))) := by kernel_rfl
theorem laws_eqHistory.eq (a : ByteArray) (a_1 : List T_issi) (a_2 : Int) (b : ByteArray) (b_1 : List T_issi) (b_2 : Int) (fu : Nat) : laws_eqHistory (fu + 1) a a_1 a_2 b b_1 b_2 =
  (brB (notB (bytesEq a b))
   (some false)
   (optB (laws_eqStepS fu a_1 b_1) fun r0 =>
   brB (notB r0)
    (some false)
    (brB (notB (eqI a_2 b_2))
     (some false)
     (some true)))) := by kernel_rfl
theorem laws_markHistory.eq (a : ByteArray) (a_1 : Int) (k : Int) (a_2 : List T_issi) (fu : Nat) : laws_markHistory (fu + 1) a a_1 k a_2 =
  (optB (laws_markStepS fu k a_2) fun r0 =>
  some (r0.1, r0.2)) := by kernel_rfl
theorem laws_FnExactDoStep_J18.eq (aAt : Int) (aDrop : Int) (aPut : ByteArray) (aGroup : Int) (aH : ByteArray) (aH_1 : List T_issi) (aH_2 : Int) (w0 : Int) (w0_1 : ByteArray) (w0_2 : Int) (w0_3 : ByteArray) (x : List T_issi) (g0 : Int) (g0_1 : ByteArray) (g0_2 : Int) (g0_3 : ByteArray) (x_1 : List T_issi) (fu : Nat) : laws_FnExactDoStep_J18 fu aAt aDrop aPut aGroup aH aH_1 aH_2 w0 w0_1 w0_2 w0_3 x g0 g0_1 g0_2 g0_3 x_1 =
  (optB (laws_markHistoryOut fu g0 g0_1 g0_2 g0_3 1 x_1) fun r0 =>
  optB (laws_heldHistoryOut fu g0 g0_1 r0.2 g0_2 g0_3 1) fun r1 =>
  brB (ltI r1 0)
   (some false)
   (brB (notB (eqI r1 r0.1))
    (some false)
    (optB (laws_toHistory fu aH aH_1 aH_2) fun r2 =>
    optB (impl_DoStep fu r2.1 r2.2.1 r2.2.2 aAt aDrop aPut aGroup) fun r3 =>
    optB (laws_eqHistoryOut fu r3.1 r3.2.1 r3.2.2.1 r3.2.2.2.1 r3.2.2.2.2 w0 w0_1 x w0_2 w0_3) fun r4 =>
    brB (notB r4)
     (some false)
     (optB (laws_heldHistoryOut fu g0 g0_1 r0.2 g0_2 g0_3 1) fun r5 =>
     brB (ltI r5 0)
      (some false)
      (brB (notB (eqI r5 r0.1))
       (some false)
       (some true)))))) := by unfold laws_FnExactDoStep_J18; rw [joinAt_eq]; kernel_rfl
theorem laws_szStepS.eq (a : List T_issi) (left : Int) (fu : Nat) : laws_szStepS (fu + 1) a left =
  (brB (ltI (subI .i64 left (ln a)) 0)
   (some (-1))
   (laws_szStepS_L5 fu fu a (subI .i64 left (ln a)) 0)) := by kernel_rfl
theorem laws_toStepS.eq (a : List T_issi) (fu : Nat) : laws_toStepS (fu + 1) a =
  (chk (leI 0 (ln a)) <|
  chk (leI (ln a) (ln a)) <|
  chk (ltI (mulZ (ln a) 48) 140737488355328) <|
  laws_toStepS_L3 fu fu a 0 (repI (ln a) (0, ((bs []), ((bs []), 0))))) := by kernel_rfl
theorem spec_HistoryFault.eq (h : ByteArray) (h_1 : List T_issi) (h_2 : Int) (fu : Nat) : spec_HistoryFault (fu + 1) h h_1 h_2 =
  (brB (ltI 300 (ln h_1))
   (some 1)
   (brB (ltI h_2 0)
    (some 1)
    (brB (ltI (ln h_1) h_2)
     (some 1)
     (spec_HistoryFault_L4 fu fu 0 h h_1 h_2)))) := by kernel_rfl
theorem spec_l21Do.eq (h : ByteArray) (h_1 : List T_issi) (h_2 : Int) (at' : Int) (drop : Int) (put : ByteArray) (group : Int) (fu : Nat) : spec_l21Do (fu + 1) h h_1 h_2 at' drop put group =
  (optB (spec_l21Text fu h h_1 h_2 h_2) fun r0 =>
  optB (spec_l20Within fu r0.1 at' drop) fun r1 =>
  brB (notB r1)
   (some (5, ((bs []), (([] : List (Int × ByteArray × ByteArray × Int)), (0, (bs []))))))
   (chk (leI 0 at') <|
   chk (leI at' (addI .i64 at' drop)) <|
   chk (leI (addI .i64 at' drop) (sz r0.1)) <|
   brB (bytesEq (subs r0.1 at' (addI .i64 at' drop)) put)
    (some (6, ((bs []), (([] : List (Int × ByteArray × ByteArray × Int)), (0, (bs []))))))
    (chk (leI 0 h_2) <|
    chk (leI h_2 (ln h_1)) <|
    chk (ltI (mulZ (addZ (ln ([] : List (Int × ByteArray × ByteArray × Int))) (ln (dropI (takeI h_1 h_2) 0))) 48) 140737488355328) <|
    brB (ltI 0 (ln (catL ([] : List (Int × ByteArray × ByteArray × Int)) (dropI (takeI h_1 h_2) 0))))
     (brB (ltI 0 group)
      (chk (leI 0 (subI .i64 (ln (catL ([] : List (Int × ByteArray × ByteArray × Int)) (dropI (takeI h_1 h_2) 0))) 1)) <|
      chk (ltI (subI .i64 (ln (catL ([] : List (Int × ByteArray × ByteArray × Int)) (dropI (takeI h_1 h_2) 0))) 1) (ln (catL ([] : List (Int × ByteArray × ByteArray × Int)) (dropI (takeI h_1 h_2) 0)))) <|
      brB (eqI ((((rd (catL ([] : List (Int × ByteArray × ByteArray × Int)) (dropI (takeI h_1 h_2) 0)) (subI .i64 (ln (catL ([] : List (Int × ByteArray × ByteArray × Int)) (dropI (takeI h_1 h_2) 0))) 1) (0, ((bs []), ((bs []), 0)))).2).2).2) group)
       (chk (leI 0 (subI .i64 (ln (catL ([] : List (Int × ByteArray × ByteArray × Int)) (dropI (takeI h_1 h_2) 0))) 1)) <|
       chk (ltI (subI .i64 (ln (catL ([] : List (Int × ByteArray × ByteArray × Int)) (dropI (takeI h_1 h_2) 0))) 1) (ln (catL ([] : List (Int × ByteArray × ByteArray × Int)) (dropI (takeI h_1 h_2) 0)))) <|
       brB (bytesEq (((rd (catL ([] : List (Int × ByteArray × ByteArray × Int)) (dropI (takeI h_1 h_2) 0)) (subI .i64 (ln (catL ([] : List (Int × ByteArray × ByteArray × Int)) (dropI (takeI h_1 h_2) 0))) 1) (0, ((bs []), ((bs []), 0)))).2).1) (bs []))
        (brB (bytesEq (subs r0.1 at' (addI .i64 at' drop)) (bs []))
         (chk (leI 0 (subI .i64 (ln (catL ([] : List (Int × ByteArray × ByteArray × Int)) (dropI (takeI h_1 h_2) 0))) 1)) <|
         chk (ltI (subI .i64 (ln (catL ([] : List (Int × ByteArray × ByteArray × Int)) (dropI (takeI h_1 h_2) 0))) 1) (ln (catL ([] : List (Int × ByteArray × ByteArray × Int)) (dropI (takeI h_1 h_2) 0)))) <|
         chk (leI 0 (subI .i64 (ln (catL ([] : List (Int × ByteArray × ByteArray × Int)) (dropI (takeI h_1 h_2) 0))) 1)) <|
         chk (ltI (subI .i64 (ln (catL ([] : List (Int × ByteArray × ByteArray × Int)) (dropI (takeI h_1 h_2) 0))) 1) (ln (catL ([] : List (Int × ByteArray × ByteArray × Int)) (dropI (takeI h_1 h_2) 0)))) <|
         spec_l21Do_J10 fu drop put r0.1 (ln (catL ([] : List (Int × ByteArray × ByteArray × Int)) (dropI (takeI h_1 h_2) 0))) (eqI at' (addI .i64 ((rd (catL ([] : List (Int × ByteArray × ByteArray × Int)) (dropI (takeI h_1 h_2) 0)) (subI .i64 (ln (catL ([] : List (Int × ByteArray × ByteArray × Int)) (dropI (takeI h_1 h_2) 0))) 1) (0, ((bs []), ((bs []), 0)))).1) (sz ((((rd (catL ([] : List (Int × ByteArray × ByteArray × Int)) (dropI (takeI h_1 h_2) 0)) (subI .i64 (ln (catL ([] : List (Int × ByteArray × ByteArray × Int)) (dropI (takeI h_1 h_2) 0))) 1) (0, ((bs []), ((bs []), 0)))).2).2).1)))) h h_1 h_2 0 (bs []) 0 (bs []) at' (subs r0.1 at' (addI .i64 at' drop)) put group (catL ([] : List (Int × ByteArray × ByteArray × Int)) (dropI (takeI h_1 h_2) 0)))
         (spec_l21Do_J10 fu drop put r0.1 (ln (catL ([] : List (Int × ByteArray × ByteArray × Int)) (dropI (takeI h_1 h_2) 0))) false h h_1 h_2 0 (bs []) 0 (bs []) at' (subs r0.1 at' (addI .i64 at' drop)) put group (catL ([] : List (Int × ByteArray × ByteArray × Int)) (dropI (takeI h_1 h_2) 0))))
        (spec_l21Do_J10 fu drop put r0.1 (ln (catL ([] : List (Int × ByteArray × ByteArray × Int)) (dropI (takeI h_1 h_2) 0))) false h h_1 h_2 0 (bs []) 0 (bs []) at' (subs r0.1 at' (addI .i64 at' drop)) put group (catL ([] : List (Int × ByteArray × ByteArray × Int)) (dropI (takeI h_1 h_2) 0))))
       (spec_l21Do_J10 fu drop put r0.1 (ln (catL ([] : List (Int × ByteArray × ByteArray × Int)) (dropI (takeI h_1 h_2) 0))) false h h_1 h_2 0 (bs []) 0 (bs []) at' (subs r0.1 at' (addI .i64 at' drop)) put group (catL ([] : List (Int × ByteArray × ByteArray × Int)) (dropI (takeI h_1 h_2) 0))))
      (spec_l21Do_J10 fu drop put r0.1 (ln (catL ([] : List (Int × ByteArray × ByteArray × Int)) (dropI (takeI h_1 h_2) 0))) false h h_1 h_2 0 (bs []) 0 (bs []) at' (subs r0.1 at' (addI .i64 at' drop)) put group (catL ([] : List (Int × ByteArray × ByteArray × Int)) (dropI (takeI h_1 h_2) 0))))
     (spec_l21Do_J10 fu drop put r0.1 (ln (catL ([] : List (Int × ByteArray × ByteArray × Int)) (dropI (takeI h_1 h_2) 0))) false h h_1 h_2 0 (bs []) 0 (bs []) at' (subs r0.1 at' (addI .i64 at' drop)) put group (catL ([] : List (Int × ByteArray × ByteArray × Int)) (dropI (takeI h_1 h_2) 0)))))) := by kernel_rfl
theorem impl_long.eq (s : ByteArray) (fu : Nat) : impl_long (fu + 1) s =
  (some (ltI 65536 (sz s))) := by kernel_rfl
theorem impl_texts.eq (h : ByteArray) (h_1 : List T_issi) (h_2 : Int) (fu : Nat) : impl_texts (fu + 1) h h_1 h_2 =
  (optB (impl_long fu h) fun r0 =>
  brB r0
   (some (([] : List ByteArray), true))
   (brB (ltI 300 (ln h_1))
    (some (([] : List ByteArray), true))
    (brB (ltI h_2 0)
     (some (([] : List ByteArray), true))
     (brB (ltI (ln h_1) h_2)
      (some (([] : List ByteArray), true))
      (impl_texts_L6 fu fu h h_1 (ln h_1) 0 (h :: ([] : List ByteArray))))))) := by kernel_rfl
theorem impl_DoStep_J6.eq (at' : Int) (drop : Int) (put : ByteArray) (group : Int) (h : ByteArray) (h_1 : List T_issi) (h_2 : Int) (x : Int) (x_1 : ByteArray) (x_2 : Int) (x_3 : ByteArray) (lNil : Bool) (l : List T_s) (fu : Nat) : impl_DoStep_J6 fu at' drop put group h h_1 h_2 x x_1 x_2 x_3 lNil l =
  (chk (leI 0 h_2) <|
  chk (ltI h_2 (ln l)) <|
  brB (ltI at' 0)
   (some (5, ((bs []), (([] : List (Int × ByteArray × ByteArray × Int)), (0, (bs []))))))
   (brB (ltI (sz (rd l h_2 (bs []))) at')
    (some (5, ((bs []), (([] : List (Int × ByteArray × ByteArray × Int)), (0, (bs []))))))
    (brB (ltI drop 0)
     (some (5, ((bs []), (([] : List (Int × ByteArray × ByteArray × Int)), (0, (bs []))))))
     (brB (ltI (subI .i64 (sz (rd l h_2 (bs []))) at') drop)
      (some (5, ((bs []), (([] : List (Int × ByteArray × ByteArray × Int)), (0, (bs []))))))
      (impl_DoStep_J10 fu at' drop put group (rd l h_2 (bs [])) h h_1 h_2 x x_1 x_2 x_3))))) := by unfold impl_DoStep_J6; rw [joinAt_eq]; kernel_rfl
theorem laws_eqStepS.eq (a : List T_issi) (b : List T_issi) (fu : Nat) : laws_eqStepS (fu + 1) a b =
  (brB (notB (eqI (ln a) (ln b)))
   (some false)
   (laws_eqStepS_L4 fu fu a b 0)) := by kernel_rfl
theorem laws_markStepS.eq (k : Int) (a : List T_issi) (fu : Nat) : laws_markStepS (fu + 1) k a =
  (laws_markStepS_L2 fu fu k 0 a) := by kernel_rfl
theorem laws_markHistoryOut.eq (a : Int) (a_1 : ByteArray) (a_2 : Int) (a_3 : ByteArray) (k : Int) (a_4 : List T_issi) (fu : Nat) : laws_markHistoryOut (fu + 1) a a_1 a_2 a_3 k a_4 =
  (optB (laws_markHistory fu a_1 a_2 k a_4) fun r0 =>
  some (r0.1, r0.2)) := by kernel_rfl
theorem laws_heldHistoryOut.eq (a : Int) (a_1 : ByteArray) (a_2 : List T_issi) (a_3 : Int) (a_4 : ByteArray) (k : Int) (fu : Nat) : laws_heldHistoryOut (fu + 1) a a_1 a_2 a_3 a_4 k =
  (optB (laws_heldHistory fu a_1 a_2 a_3 k) fun r0 =>
  brB (ltI r0 0)
   (some (-1))
   (some r0)) := by kernel_rfl
theorem laws_szStepS_L5.eq (a : List T_issi) (left : Int) (i : Int) (fu fu1 : Nat) : laws_szStepS_L5 fu (fu1 + 1) a left i =
  (brB (ltI i (ln a))
   (chk (leI 0 i) <|
   chk (ltI i (ln a)) <|
   optB (laws_szStep fu ((rd a i (0, ((bs []), ((bs []), 0)))).1) (((rd a i (0, ((bs []), ((bs []), 0)))).2).1) ((((rd a i (0, ((bs []), ((bs []), 0)))).2).2).1) ((((rd a i (0, ((bs []), ((bs []), 0)))).2).2).2) left) fun r0 =>
   brB (ltI r0 0)
    (some (-1))
    (laws_szStepS_L5 fu fu1 a r0 (addI .i64 i 1)))
   (some left)) := by kernel_rfl
theorem laws_toStepS_L3.eq (a : List T_issi) (i : Int) (out : List T_issi) (fu fu1 : Nat) : laws_toStepS_L3 fu (fu1 + 1) a i out =
  (brB (ltI i (ln a))
   (chk (leI 0 i) <|
   chk (ltI i (ln a)) <|
   optB (laws_toStep fu ((rd a i (0, ((bs []), ((bs []), 0)))).1) (((rd a i (0, ((bs []), ((bs []), 0)))).2).1) ((((rd a i (0, ((bs []), ((bs []), 0)))).2).2).1) ((((rd a i (0, ((bs []), ((bs []), 0)))).2).2).2)) fun r0 =>
   chk (leI 0 i) <|
   chk (ltI i (ln out)) <|
   laws_toStepS_L3 fu fu1 a (addI .i64 i 1) (setI out i (r0.1, (r0.2.1, (r0.2.2.1, r0.2.2.2)))))
   (some out)) := by kernel_rfl
theorem spec_HistoryFault_L4.eq (i : Int) (h : ByteArray) (h_1 : List T_issi) (h_2 : Int) (fu fu1 : Nat) : spec_HistoryFault_L4 fu (fu1 + 1) i h h_1 h_2 =
  (brB (ltI i (ln h_1))
   (chk (leI 0 i) <|
   chk (ltI i (ln h_1)) <|
   brB (bytesEq (((rd h_1 i (0, ((bs []), ((bs []), 0)))).2).1) ((((rd h_1 i (0, ((bs []), ((bs []), 0)))).2).2).1))
    (some 1)
    (brB (ltI ((((rd h_1 i (0, ((bs []), ((bs []), 0)))).2).2).2) 0)
     (some 1)
     (brB (ltI 1000000 ((((rd h_1 i (0, ((bs []), ((bs []), 0)))).2).2).2))
      (some 1)
      (spec_HistoryFault_L4 fu fu1 (addI .i64 i 1) h h_1 h_2))))
   (optB (spec_l21Text fu h h_1 h_2 (ln h_1)) fun r0 =>
   brB (notB r0.2)
    (some 1)
    (some 0))) := by kernel_rfl
theorem spec_l21Text.eq (h : ByteArray) (h_1 : List T_issi) (h_2 : Int) (done : Int) (fu : Nat) : spec_l21Text (fu + 1) h h_1 h_2 done =
  (spec_l21Text_L4 fu fu done h (leI (sz h) 65536) 0 h h_1 h_2) := by kernel_rfl
theorem spec_l20Within.eq (t : ByteArray) (at' : Int) (drop : Int) (fu : Nat) : spec_l20Within (fu + 1) t at' drop =
  (brB (leI 0 at')
   (brB (leI at' (sz t))
    (brB (leI 0 drop)
     (some (leI drop (subI .i64 (sz t) at')))
     (some false))
    (some false))
   (some false)) := by kernel_rfl
theorem spec_l21Do_J10.eq (drop : Int) (put : ByteArray) (t : ByteArray) (n : Int) (x : Bool) (h : ByteArray) (h_1 : List T_issi) (h_2 : Int) (x_1 : Int) (x_2 : ByteArray) (x_3 : Int) (x_4 : ByteArray) (s : Int) (s_1 : ByteArray) (s_2 : ByteArray) (s_3 : Int) (steps : List T_issi) (fu : Nat) : spec_l21Do_J10 fu drop put t n x h h_1 h_2 x_1 x_2 x_3 x_4 s s_1 s_2 s_3 steps =
  (brB x
   (chk (leI 0 (subI .i64 n 1)) <|
   chk (ltI (subI .i64 n 1) (ln steps)) <|
   chk (leI (addZ (sz ((((rd steps (subI .i64 n 1) (0, ((bs []), ((bs []), 0)))).2).2).1)) (sz put)) 9223372036854775807) <|
   chk (leI 0 (subI .i64 n 1)) <|
   chk (ltI (subI .i64 n 1) (ln steps)) <|
   spec_l21Do_J12 fu drop put t h h_1 h_2 x_1 x_2 x_3 x_4 (setI steps (subI .i64 n 1) ((rd steps (subI .i64 n 1) (0, ((bs []), ((bs []), 0)))).1, (((rd steps (subI .i64 n 1) (0, ((bs []), ((bs []), 0)))).2).1, ((catS ((((rd steps (subI .i64 n 1) (0, ((bs []), ((bs []), 0)))).2).2).1) put), (((rd steps (subI .i64 n 1) (0, ((bs []), ((bs []), 0)))).2).2).2)))))
   (chk (ltI (mulZ (addZ (ln steps) (ln ((s, (s_1, (s_2, s_3))) :: ([] : List (Int × ByteArray × ByteArray × Int))))) 48) 140737488355328) <|
   spec_l21Do_J12 fu drop put t h h_1 h_2 x_1 x_2 x_3 x_4 (catL steps ((s, (s_1, (s_2, s_3))) :: ([] : List (Int × ByteArray × ByteArray × Int)))))) := by unfold spec_l21Do_J10; rw [joinAt_eq]; kernel_rfl
theorem impl_texts_L6.eq (s : ByteArray) (x : List T_issi) (x_1 : Int) (x_2 : Int) (out : List T_s) (fu fu1 : Nat) : impl_texts_L6 fu (fu1 + 1) s x x_1 x_2 out =
  (brB (ltI x_2 x_1)
   (chk (leI 0 x_2) <|
   chk (ltI x_2 (ln x)) <|
   brB (ltI ((rd x x_2 (0, ((bs []), ((bs []), 0)))).1) 0)
    (some (([] : List ByteArray), true))
    (brB (ltI (sz s) ((rd x x_2 (0, ((bs []), ((bs []), 0)))).1))
     (some (([] : List ByteArray), true))
     (chk (leI 0 ((rd x x_2 (0, ((bs []), ((bs []), 0)))).1)) <|
     chk (leI ((rd x x_2 (0, ((bs []), ((bs []), 0)))).1) (sz s)) <|
     optB (strings_HasPrefix fu (subs s ((rd x x_2 (0, ((bs []), ((bs []), 0)))).1) (sz s)) (((rd x x_2 (0, ((bs []), ((bs []), 0)))).2).1)) fun r0 =>
     brB (notB r0)
      (some (([] : List ByteArray), true))
      (brB (bytesEq (((rd x x_2 (0, ((bs []), ((bs []), 0)))).2).1) ((((rd x x_2 (0, ((bs []), ((bs []), 0)))).2).2).1))
       (some (([] : List ByteArray), true))
       (brB (ltI ((((rd x x_2 (0, ((bs []), ((bs []), 0)))).2).2).2) 0)
        (some (([] : List ByteArray), true))
        (brB (ltI 1000000 ((((rd x x_2 (0, ((bs []), ((bs []), 0)))).2).2).2))
         (some (([] : List ByteArray), true))
         (impl_texts_J10 fu fu1 s x x_1 x_2 out ((rd x x_2 (0, ((bs []), ((bs []), 0)))).1) (((rd x x_2 (0, ((bs []), ((bs []), 0)))).2).1) ((((rd x x_2 (0, ((bs []), ((bs []), 0)))).2).2).1) ((((rd x x_2 (0, ((bs []), ((bs []), 0)))).2).2).2))))))))
   (some (out, false))) := by kernel_rfl
theorem impl_DoStep_J10.eq (at' : Int) (drop : Int) (put : ByteArray) (group : Int) (s : ByteArray) (h : ByteArray) (h_1 : List T_issi) (h_2 : Int) (x : Int) (x_1 : ByteArray) (x_2 : Int) (x_3 : ByteArray) (fu : Nat) : impl_DoStep_J10 fu at' drop put group s h h_1 h_2 x x_1 x_2 x_3 =
  (chk (leI 0 at') <|
  chk (leI at' (addI .i64 at' drop)) <|
  chk (leI (addI .i64 at' drop) (sz s)) <|
  brB (bytesEq (subs s at' (addI .i64 at' drop)) put)
   (some (6, ((bs []), (([] : List (Int × ByteArray × ByteArray × Int)), (0, (bs []))))))
   (chk (leI 0 h_2) <|
   chk (leI h_2 (ln h_1)) <|
   optB (slices_Clone_Step_Step fu (dropI (takeI h_1 h_2) 0)) fun r0 =>
   optB (impl_do fu s at' (subs s at' (addI .i64 at' drop)) put group) fun r1 =>
   brB (leI 0 (subI .i64 (ln r0) 1))
    (brB (ltI 0 group)
     (chk (leI 0 (subI .i64 (ln r0) 1)) <|
     chk (ltI (subI .i64 (ln r0) 1) (ln r0)) <|
     brB (eqI ((((rd r0 (subI .i64 (ln r0) 1) (0, ((bs []), ((bs []), 0)))).2).2).2) group)
      (brB (eqI drop 0)
       (chk (leI 0 (subI .i64 (ln r0) 1)) <|
       chk (ltI (subI .i64 (ln r0) 1) (ln r0)) <|
       brB (bytesEq (((rd r0 (subI .i64 (ln r0) 1) (0, ((bs []), ((bs []), 0)))).2).1) (bs []))
        (chk (leI 0 (subI .i64 (ln r0) 1)) <|
        chk (ltI (subI .i64 (ln r0) 1) (ln r0)) <|
        chk (leI 0 (subI .i64 (ln r0) 1)) <|
        chk (ltI (subI .i64 (ln r0) 1) (ln r0)) <|
        impl_DoStep_J17 fu put r1 (subI .i64 (ln r0) 1) (eqI at' (addI .i64 ((rd r0 (subI .i64 (ln r0) 1) (0, ((bs []), ((bs []), 0)))).1) (sz ((((rd r0 (subI .i64 (ln r0) 1) (0, ((bs []), ((bs []), 0)))).2).2).1)))) h h_1 h_2 x x_1 x_2 x_3 at' (subs s at' (addI .i64 at' drop)) put group r0)
        (impl_DoStep_J17 fu put r1 (subI .i64 (ln r0) 1) false h h_1 h_2 x x_1 x_2 x_3 at' (subs s at' (addI .i64 at' drop)) put group r0))
       (impl_DoStep_J17 fu put r1 (subI .i64 (ln r0) 1) false h h_1 h_2 x x_1 x_2 x_3 at' (subs s at' (addI .i64 at' drop)) put group r0))
      (impl_DoStep_J17 fu put r1 (subI .i64 (ln r0) 1) false h h_1 h_2 x x_1 x_2 x_3 at' (subs s at' (addI .i64 at' drop)) put group r0))
     (impl_DoStep_J17 fu put r1 (subI .i64 (ln r0) 1) false h h_1 h_2 x x_1 x_2 x_3 at' (subs s at' (addI .i64 at' drop)) put group r0))
    (impl_DoStep_J17 fu put r1 (subI .i64 (ln r0) 1) false h h_1 h_2 x x_1 x_2 x_3 at' (subs s at' (addI .i64 at' drop)) put group r0))) := by unfold impl_DoStep_J10; rw [joinAt_eq]; kernel_rfl
theorem laws_eqStepS_L4.eq (a : List T_issi) (b : List T_issi) (i : Int) (fu fu1 : Nat) : laws_eqStepS_L4 fu (fu1 + 1) a b i =
  (brB (ltI i (ln a))
   (chk (leI 0 i) <|
   chk (ltI i (ln a)) <|
   chk (leI 0 i) <|
   chk (ltI i (ln b)) <|
   optB (laws_eqStep fu ((rd a i (0, ((bs []), ((bs []), 0)))).1) (((rd a i (0, ((bs []), ((bs []), 0)))).2).1) ((((rd a i (0, ((bs []), ((bs []), 0)))).2).2).1) ((((rd a i (0, ((bs []), ((bs []), 0)))).2).2).2) ((rd b i (0, ((bs []), ((bs []), 0)))).1) (((rd b i (0, ((bs []), ((bs []), 0)))).2).1) ((((rd b i (0, ((bs []), ((bs []), 0)))).2).2).1) ((((rd b i (0, ((bs []), ((bs []), 0)))).2).2).2)) fun r0 =>
   brB (notB r0)
    (some false)
    (laws_eqStepS_L4 fu fu1 a b (addI .i64 i 1)))
   (some true)) := by kernel_rfl
theorem laws_markStepS_L2.eq (k : Int) (i : Int) (a : List T_issi) (fu fu1 : Nat) : laws_markStepS_L2 fu (fu1 + 1) k i a =
  (brB (ltI i (ln a))
   (chk (leI 0 i) <|
   chk (ltI i (ln a)) <|
   optB (laws_markText fu (addI .i64 k 1)) fun r0 =>
   chk (leI 0 i) <|
   chk (ltI i (ln (setI a i (k, (rd a i (0, ((bs []), ((bs []), 0)))).2)))) <|
   optB (laws_markText fu (addI .i64 (addI .i64 k 1) 1)) fun r1 =>
   chk (leI 0 i) <|
   chk (ltI i (ln (setI (setI a i (k, (rd a i (0, ((bs []), ((bs []), 0)))).2)) i ((rd (setI a i (k, (rd a i (0, ((bs []), ((bs []), 0)))).2)) i (0, ((bs []), ((bs []), 0)))).1, (r0, ((rd (setI a i (k, (rd a i (0, ((bs []), ((bs []), 0)))).2)) i (0, ((bs []), ((bs []), 0)))).2).2))))) <|
   chk (leI 0 i) <|
   chk (ltI i (ln (setI (setI (setI a i (k, (rd a i (0, ((bs []), ((bs []), 0)))).2)) i ((rd (setI a i (k, (rd a i (0, ((bs []), ((bs []), 0)))).2)) i (0, ((bs []), ((bs []), 0)))).1, (r0, ((rd (setI a i (k, (rd a i (0, ((bs []), ((bs []), 0)))).2)) i (0, ((bs []), ((bs []), 0)))).2).2))) i ((rd (setI (setI a i (k, (rd a i (0, ((bs []), ((bs []), 0)))).2)) i ((rd (setI a i (k, (rd a i (0, ((bs []), ((bs []), 0)))).2)) i (0, ((bs []), ((bs []), 0)))).1, (r0, ((rd (setI a i (k, (rd a i (0, ((bs []), ((bs []), 0)))).2)) i (0, ((bs []), ((bs []), 0)))).2).2))) i (0, ((bs []), ((bs []), 0)))).1, (((rd (setI (setI a i (k, (rd a i (0, ((bs []), ((bs []), 0)))).2)) i ((rd (setI a i (k, (rd a i (0, ((bs []), ((bs []), 0)))).2)) i (0, ((bs []), ((bs []), 0)))).1, (r0, ((rd (setI a i (k, (rd a i (0, ((bs []), ((bs []), 0)))).2)) i (0, ((bs []), ((bs []), 0)))).2).2))) i (0, ((bs []), ((bs []), 0)))).2).1, (r1, (((rd (setI (setI a i (k, (rd a i (0, ((bs []), ((bs []), 0)))).2)) i ((rd (setI a i (k, (rd a i (0, ((bs []), ((bs []), 0)))).2)) i (0, ((bs []), ((bs []), 0)))).1, (r0, ((rd (setI a i (k, (rd a i (0, ((bs []), ((bs []), 0)))).2)) i (0, ((bs []), ((bs []), 0)))).2).2))) i (0, ((bs []), ((bs []), 0)))).2).2).2)))))) <|
   laws_markStepS_L2 fu fu1 (addI .i64 (addI .i64 (addI .i64 (addI .i64 k 1) 1) 1) 1) (addI .i64 i 1) (setI (setI (setI (setI a i (k, (rd a i (0, ((bs []), ((bs []), 0)))).2)) i ((rd (setI a i (k, (rd a i (0, ((bs []), ((bs []), 0)))).2)) i (0, ((bs []), ((bs []), 0)))).1, (r0, ((rd (setI a i (k, (rd a i (0, ((bs []), ((bs []), 0)))).2)) i (0, ((bs []), ((bs []), 0)))).2).2))) i ((rd (setI (setI a i (k, (rd a i (0, ((bs []), ((bs []), 0)))).2)) i ((rd (setI a i (k, (rd a i (0, ((bs []), ((bs []), 0)))).2)) i (0, ((bs []), ((bs []), 0)))).1, (r0, ((rd (setI a i (k, (rd a i (0, ((bs []), ((bs []), 0)))).2)) i (0, ((bs []), ((bs []), 0)))).2).2))) i (0, ((bs []), ((bs []), 0)))).1, (((rd (setI (setI a i (k, (rd a i (0, ((bs []), ((bs []), 0)))).2)) i ((rd (setI a i (k, (rd a i (0, ((bs []), ((bs []), 0)))).2)) i (0, ((bs []), ((bs []), 0)))).1, (r0, ((rd (setI a i (k, (rd a i (0, ((bs []), ((bs []), 0)))).2)) i (0, ((bs []), ((bs []), 0)))).2).2))) i (0, ((bs []), ((bs []), 0)))).2).1, (r1, (((rd (setI (setI a i (k, (rd a i (0, ((bs []), ((bs []), 0)))).2)) i ((rd (setI a i (k, (rd a i (0, ((bs []), ((bs []), 0)))).2)) i (0, ((bs []), ((bs []), 0)))).1, (r0, ((rd (setI a i (k, (rd a i (0, ((bs []), ((bs []), 0)))).2)) i (0, ((bs []), ((bs []), 0)))).2).2))) i (0, ((bs []), ((bs []), 0)))).2).2).2)))) i ((rd (setI (setI (setI a i (k, (rd a i (0, ((bs []), ((bs []), 0)))).2)) i ((rd (setI a i (k, (rd a i (0, ((bs []), ((bs []), 0)))).2)) i (0, ((bs []), ((bs []), 0)))).1, (r0, ((rd (setI a i (k, (rd a i (0, ((bs []), ((bs []), 0)))).2)) i (0, ((bs []), ((bs []), 0)))).2).2))) i ((rd (setI (setI a i (k, (rd a i (0, ((bs []), ((bs []), 0)))).2)) i ((rd (setI a i (k, (rd a i (0, ((bs []), ((bs []), 0)))).2)) i (0, ((bs []), ((bs []), 0)))).1, (r0, ((rd (setI a i (k, (rd a i (0, ((bs []), ((bs []), 0)))).2)) i (0, ((bs []), ((bs []), 0)))).2).2))) i (0, ((bs []), ((bs []), 0)))).1, (((rd (setI (setI a i (k, (rd a i (0, ((bs []), ((bs []), 0)))).2)) i ((rd (setI a i (k, (rd a i (0, ((bs []), ((bs []), 0)))).2)) i (0, ((bs []), ((bs []), 0)))).1, (r0, ((rd (setI a i (k, (rd a i (0, ((bs []), ((bs []), 0)))).2)) i (0, ((bs []), ((bs []), 0)))).2).2))) i (0, ((bs []), ((bs []), 0)))).2).1, (r1, (((rd (setI (setI a i (k, (rd a i (0, ((bs []), ((bs []), 0)))).2)) i ((rd (setI a i (k, (rd a i (0, ((bs []), ((bs []), 0)))).2)) i (0, ((bs []), ((bs []), 0)))).1, (r0, ((rd (setI a i (k, (rd a i (0, ((bs []), ((bs []), 0)))).2)) i (0, ((bs []), ((bs []), 0)))).2).2))) i (0, ((bs []), ((bs []), 0)))).2).2).2)))) i (0, ((bs []), ((bs []), 0)))).1, (((rd (setI (setI (setI a i (k, (rd a i (0, ((bs []), ((bs []), 0)))).2)) i ((rd (setI a i (k, (rd a i (0, ((bs []), ((bs []), 0)))).2)) i (0, ((bs []), ((bs []), 0)))).1, (r0, ((rd (setI a i (k, (rd a i (0, ((bs []), ((bs []), 0)))).2)) i (0, ((bs []), ((bs []), 0)))).2).2))) i ((rd (setI (setI a i (k, (rd a i (0, ((bs []), ((bs []), 0)))).2)) i ((rd (setI a i (k, (rd a i (0, ((bs []), ((bs []), 0)))).2)) i (0, ((bs []), ((bs []), 0)))).1, (r0, ((rd (setI a i (k, (rd a i (0, ((bs []), ((bs []), 0)))).2)) i (0, ((bs []), ((bs []), 0)))).2).2))) i (0, ((bs []), ((bs []), 0)))).1, (((rd (setI (setI a i (k, (rd a i (0, ((bs []), ((bs []), 0)))).2)) i ((rd (setI a i (k, (rd a i (0, ((bs []), ((bs []), 0)))).2)) i (0, ((bs []), ((bs []), 0)))).1, (r0, ((rd (setI a i (k, (rd a i (0, ((bs []), ((bs []), 0)))).2)) i (0, ((bs []), ((bs []), 0)))).2).2))) i (0, ((bs []), ((bs []), 0)))).2).1, (r1, (((rd (setI (setI a i (k, (rd a i (0, ((bs []), ((bs []), 0)))).2)) i ((rd (setI a i (k, (rd a i (0, ((bs []), ((bs []), 0)))).2)) i (0, ((bs []), ((bs []), 0)))).1, (r0, ((rd (setI a i (k, (rd a i (0, ((bs []), ((bs []), 0)))).2)) i (0, ((bs []), ((bs []), 0)))).2).2))) i (0, ((bs []), ((bs []), 0)))).2).2).2)))) i (0, ((bs []), ((bs []), 0)))).2).1, ((((rd (setI (setI (setI a i (k, (rd a i (0, ((bs []), ((bs []), 0)))).2)) i ((rd (setI a i (k, (rd a i (0, ((bs []), ((bs []), 0)))).2)) i (0, ((bs []), ((bs []), 0)))).1, (r0, ((rd (setI a i (k, (rd a i (0, ((bs []), ((bs []), 0)))).2)) i (0, ((bs []), ((bs []), 0)))).2).2))) i ((rd (setI (setI a i (k, (rd a i (0, ((bs []), ((bs []), 0)))).2)) i ((rd (setI a i (k, (rd a i (0, ((bs []), ((bs []), 0)))).2)) i (0, ((bs []), ((bs []), 0)))).1, (r0, ((rd (setI a i (k, (rd a i (0, ((bs []), ((bs []), 0)))).2)) i (0, ((bs []), ((bs []), 0)))).2).2))) i (0, ((bs []), ((bs []), 0)))).1, (((rd (setI (setI a i (k, (rd a i (0, ((bs []), ((bs []), 0)))).2)) i ((rd (setI a i (k, (rd a i (0, ((bs []), ((bs []), 0)))).2)) i (0, ((bs []), ((bs []), 0)))).1, (r0, ((rd (setI a i (k, (rd a i (0, ((bs []), ((bs []), 0)))).2)) i (0, ((bs []), ((bs []), 0)))).2).2))) i (0, ((bs []), ((bs []), 0)))).2).1, (r1, (((rd (setI (setI a i (k, (rd a i (0, ((bs []), ((bs []), 0)))).2)) i ((rd (setI a i (k, (rd a i (0, ((bs []), ((bs []), 0)))).2)) i (0, ((bs []), ((bs []), 0)))).1, (r0, ((rd (setI a i (k, (rd a i (0, ((bs []), ((bs []), 0)))).2)) i (0, ((bs []), ((bs []), 0)))).2).2))) i (0, ((bs []), ((bs []), 0)))).2).2).2)))) i (0, ((bs []), ((bs []), 0)))).2).2).1, (addI .i64 (addI .i64 (addI .i64 k 1) 1) 1))))))
   (some (k, a))) := by kernel_rfl
theorem laws_heldHistory.eq (a : ByteArray) (a_1 : List T_issi) (a_2 : Int) (k : Int) (fu : Nat) : laws_heldHistory (fu + 1) a a_1 a_2 k =
  (optB (laws_heldStepS fu a_1 k) fun r0 =>
  brB (ltI r0 0)
   (some (-1))
   (some r0)) := by kernel_rfl
theorem laws_szStep.eq (a : Int) (a_1 : ByteArray) (a_2 : ByteArray) (a_3 : Int) (left : Int) (fu : Nat) : laws_szStep (fu + 1) a a_1 a_2 a_3 left =
  (brB (ltI (subI .i64 left (sz a_1)) 0)
   (some (-1))
   (brB (ltI (subI .i64 (subI .i64 left (sz a_1)) (sz a_2)) 0)
    (some (-1))
    (some (subI .i64 (subI .i64 left (sz a_1)) (sz a_2))))) := by kernel_rfl
theorem laws_toStep.eq (a : Int) (a_1 : ByteArray) (a_2 : ByteArray) (a_3 : Int) (fu : Nat) : laws_toStep (fu + 1) a a_1 a_2 a_3 =
  (some (a, (a_1, (a_2, a_3)))) := by kernel_rfl
theorem spec_l21Text_L4.eq (done : Int) (t : ByteArray) (ok : Bool) (i : Int) (h : ByteArray) (h_1 : List T_issi) (h_2 : Int) (fu fu1 : Nat) : spec_l21Text_L4 fu (fu1 + 1) done t ok i h h_1 h_2 =
  (brB (ltI i done)
   (brB ok
    (chk (leI 0 i) <|
    chk (ltI i (ln h_1)) <|
    optB (spec_l21Put fu t ((rd h_1 i (0, ((bs []), ((bs []), 0)))).1) (((rd h_1 i (0, ((bs []), ((bs []), 0)))).2).1) ((((rd h_1 i (0, ((bs []), ((bs []), 0)))).2).2).1) ((((rd h_1 i (0, ((bs []), ((bs []), 0)))).2).2).2)) fun r0 =>
    spec_l21Text_L4 fu fu1 done r0.1 r0.2 (addI .i64 i 1) h h_1 h_2)
    (some (t, ok)))
   (some (t, ok))) := by kernel_rfl
theorem spec_l21Do_J12.eq (drop : Int) (put : ByteArray) (t : ByteArray) (h : ByteArray) (h_1 : List T_issi) (h_2 : Int) (x : Int) (x_1 : ByteArray) (x_2 : Int) (x_3 : ByteArray) (steps : List T_issi) (fu : Nat) : spec_l21Do_J12 fu drop put t h h_1 h_2 x x_1 x_2 x_3 steps =
  (brB (ltI 300 (ln steps))
   (some (8, ((bs []), (([] : List (Int × ByteArray × ByteArray × Int)), (0, (bs []))))))
   (brB (ltI 65536 (addI .i64 (subI .i64 (sz t) drop) (sz put)))
    (some (8, ((bs []), (([] : List (Int × ByteArray × ByteArray × Int)), (0, (bs []))))))
    (optB (spec_l21Out fu h (ln steps) steps) fun r0 =>
    some (r0.1.1, (r0.1.2.1, (r0.1.2.2.1, (r0.1.2.2.2.1, r0.1.2.2.2.2))))))) := by unfold spec_l21Do_J12; rw [joinAt_eq]; kernel_rfl
theorem strings_HasPrefix.eq (s : ByteArray) (prefix' : ByteArray) (fu : Nat) : strings_HasPrefix (fu + 1) s prefix' =
  (optB (internal_stringslite_HasPrefix fu s prefix') fun r0 =>
  some r0) := by kernel_rfl
theorem impl_texts_J10.eq (s : ByteArray) (x : List T_issi) (x_1 : Int) (x_2 : Int) (out : List T_s) (x_3 : Int) (x_4 : ByteArray) (x_5 : ByteArray) (x_6 : Int) (fu fu1 : Nat) : impl_texts_J10 fu fu1 s x x_1 x_2 out x_3 x_4 x_5 x_6 =
  (optB (impl_do fu s x_3 x_4 x_5 x_6) fun r0 =>
  optB (impl_long fu r0) fun r1 =>
  brB r1
   (some (([] : List ByteArray), true))
   (chk (ltI (mulZ (addZ (ln out) (ln (r0 :: ([] : List ByteArray)))) 16) 140737488355328) <|
   impl_texts_L6 fu fu1 r0 x x_1 (addI .i64 x_2 1) (catL out (r0 :: ([] : List ByteArray))))) := by unfold impl_texts_J10; rw [joinAt_eq]; kernel_rfl
theorem impl_do.eq (s : ByteArray) (x : Int) (x_1 : ByteArray) (x_2 : ByteArray) (x_3 : Int) (fu : Nat) : impl_do (fu + 1) s x x_1 x_2 x_3 =
  (chk (leI 0 x) <|
  chk (leI x (sz s)) <|
  chk (leI (addZ (sz (subs s 0 x)) (sz x_2)) 9223372036854775807) <|
  chk (leI 0 (addI .i64 x (sz x_1))) <|
  chk (leI (addI .i64 x (sz x_1)) (sz s)) <|
  chk (leI (addZ (sz (catS (subs s 0 x) x_2)) (sz (subs s (addI .i64 x (sz x_1)) (sz s)))) 9223372036854775807) <|
  some (catS (catS (subs s 0 x) x_2) (subs s (addI .i64 x (sz x_1)) (sz s)))) := by kernel_rfl
theorem impl_DoStep_J17.eq (put : ByteArray) (text : ByteArray) (k : Int) (x : Bool) (h : ByteArray) (h_1 : List T_issi) (h_2 : Int) (x_1 : Int) (x_2 : ByteArray) (x_3 : Int) (x_4 : ByteArray) (x_5 : Int) (x_6 : ByteArray) (x_7 : ByteArray) (x_8 : Int) (steps : List T_issi) (fu : Nat) : impl_DoStep_J17 fu put text k x h h_1 h_2 x_1 x_2 x_3 x_4 x_5 x_6 x_7 x_8 steps =
  (brB x
   (chk (leI 0 k) <|
   chk (ltI k (ln steps)) <|
   chk (leI (addZ (sz ((((rd steps k (0, ((bs []), ((bs []), 0)))).2).2).1)) (sz put)) 9223372036854775807) <|
   chk (leI 0 k) <|
   chk (ltI k (ln steps)) <|
   impl_DoStep_J19 fu text h h_1 h_2 x_1 x_2 x_3 x_4 (setI steps k ((rd steps k (0, ((bs []), ((bs []), 0)))).1, (((rd steps k (0, ((bs []), ((bs []), 0)))).2).1, ((catS ((((rd steps k (0, ((bs []), ((bs []), 0)))).2).2).1) put), (((rd steps k (0, ((bs []), ((bs []), 0)))).2).2).2)))))
   (chk (ltI (mulZ (addZ (ln steps) (ln ((x_5, (x_6, (x_7, x_8))) :: ([] : List (Int × ByteArray × ByteArray × Int))))) 48) 140737488355328) <|
   impl_DoStep_J19 fu text h h_1 h_2 x_1 x_2 x_3 x_4 (catL steps ((x_5, (x_6, (x_7, x_8))) :: ([] : List (Int × ByteArray × ByteArray × Int)))))) := by unfold impl_DoStep_J17; rw [joinAt_eq]; kernel_rfl
theorem laws_eqStep.eq (a : Int) (a_1 : ByteArray) (a_2 : ByteArray) (a_3 : Int) (b : Int) (b_1 : ByteArray) (b_2 : ByteArray) (b_3 : Int) (fu : Nat) : laws_eqStep (fu + 1) a a_1 a_2 a_3 b b_1 b_2 b_3 =
  (brB (notB (eqI a b))
   (some false)
   (brB (notB (bytesEq a_1 b_1))
    (some false)
    (brB (notB (bytesEq a_2 b_2))
     (some false)
     (brB (notB (eqI a_3 b_3))
      (some false)
      (some true))))) := by kernel_rfl
theorem laws_markText.eq (k : Int) (fu : Nat) : laws_markText (fu + 1) k =
  (brB (leI k 0)
   (some (bs [109, 48]))
   (laws_markText_L4 fu fu k (bs []))) := by kernel_rfl
theorem laws_heldStepS.eq (a : List T_issi) (k : Int) (fu : Nat) : laws_heldStepS (fu + 1) a k =
  (laws_heldStepS_L2 fu fu a k 0) := by kernel_rfl
theorem spec_l21Put.eq (t : ByteArray) (s : Int) (s_1 : ByteArray) (s_2 : ByteArray) (s_3 : Int) (fu : Nat) : spec_l21Put (fu + 1) t s s_1 s_2 s_3 =
  (optB (spec_l20Within fu t s (sz s_1)) fun r0 =>
  brB (notB r0)
   (some (t, false))
   (chk (leI 0 s) <|
   chk (leI s (addI .i64 s (sz s_1))) <|
   chk (leI (addI .i64 s (sz s_1)) (sz t)) <|
   brB (notB (bytesEq (subs t s (addI .i64 s (sz s_1))) s_1))
    (some (t, false))
    (chk (leI 0 s) <|
    chk (leI s (sz t)) <|
    chk (leI (addZ (sz (subs t 0 s)) (sz s_2)) 9223372036854775807) <|
    chk (leI 0 (addI .i64 s (sz s_1))) <|
    chk (leI (addI .i64 s (sz s_1)) (sz t)) <|
    chk (leI (addZ (sz (catS (subs t 0 s) s_2)) (sz (subs t (addI .i64 s (sz s_1)) (sz t)))) 9223372036854775807) <|
    some ((catS (catS (subs t 0 s) s_2) (subs t (addI .i64 s (sz s_1)) (sz t))), (leI (sz (catS (catS (subs t 0 s) s_2) (subs t (addI .i64 s (sz s_1)) (sz t)))) 65536))))) := by kernel_rfl
theorem spec_l21Out.eq (h : ByteArray) (h_1 : Int) (h_2 : List T_issi) (fu : Nat) : spec_l21Out (fu + 1) h h_1 h_2 =
  (optB (spec_l21Text fu h h_2 h_1 h_1) fun r0 =>
  some ((0, (h, (h_2, (h_1, r0.1)))), ())) := by kernel_rfl
theorem internal_stringslite_HasPrefix.eq (s : ByteArray) (prefix' : ByteArray) (fu : Nat) : internal_stringslite_HasPrefix (fu + 1) s prefix' =
  (brB (leI (sz prefix') (sz s))
   (chk (leI 0 (sz prefix')) <|
   chk (leI (sz prefix') (sz s)) <|
   some (bytesEq (subs s 0 (sz prefix')) prefix'))
   (some false)) := by kernel_rfl
theorem impl_DoStep_J19.eq (text : ByteArray) (h : ByteArray) (h_1 : List T_issi) (h_2 : Int) (x : Int) (x_1 : ByteArray) (x_2 : Int) (x_3 : ByteArray) (steps : List T_issi) (fu : Nat) : impl_DoStep_J19 fu text h h_1 h_2 x x_1 x_2 x_3 steps =
  (brB (ltI 300 (ln steps))
   (some (8, ((bs []), (([] : List (Int × ByteArray × ByteArray × Int)), (0, (bs []))))))
   (optB (impl_long fu text) fun r0 =>
   brB r0
    (some (8, ((bs []), (([] : List (Int × ByteArray × ByteArray × Int)), (0, (bs []))))))
    (some (0, (h, (steps, ((ln steps), text))))))) := by unfold impl_DoStep_J19; rw [joinAt_eq]; kernel_rfl
theorem laws_markText_L4.eq (k : Int) (out : ByteArray) (fu fu1 : Nat) : laws_markText_L4 fu (fu1 + 1) k out =
  (brB (ltI 0 k)
   (chk (notB (eqI 10 0)) <|
   chk (leI (addZ (sz (bytesOf ((wrI .u8 (addI .i64 48 (remI k 10))) :: ([] : List Int)))) (sz out)) 9223372036854775807) <|
   chk (notB (eqI 10 0)) <|
   laws_markText_L4 fu fu1 (quoI .i64 k 10) (catS (bytesOf ((wrI .u8 (addI .i64 48 (remI k 10))) :: ([] : List Int))) out))
   (chk (leI (addZ (sz (bs [109])) (sz out)) 9223372036854775807) <|
   some (catS (bs [109]) out))) := by kernel_rfl
theorem laws_heldStepS_L2.eq (a : List T_issi) (k : Int) (i : Int) (fu fu1 : Nat) : laws_heldStepS_L2 fu (fu1 + 1) a k i =
  (brB (ltI i (ln a))
   (chk (leI 0 i) <|
   chk (ltI i (ln a)) <|
   brB (notB (eqI ((rd a i (0, ((bs []), ((bs []), 0)))).1) k))
    (some (-1))
    (chk (leI 0 i) <|
    chk (ltI i (ln a)) <|
    optB (laws_markText fu (addI .i64 k 1)) fun r0 =>
    brB (notB (bytesEq (((rd a i (0, ((bs []), ((bs []), 0)))).2).1) r0))
     (some (-1))
     (chk (leI 0 i) <|
     chk (ltI i (ln a)) <|
     optB (laws_markText fu (addI .i64 (addI .i64 k 1) 1)) fun r1 =>
     brB (notB (bytesEq ((((rd a i (0, ((bs []), ((bs []), 0)))).2).2).1) r1))
      (some (-1))
      (chk (leI 0 i) <|
      chk (ltI i (ln a)) <|
      brB (notB (eqI ((((rd a i (0, ((bs []), ((bs []), 0)))).2).2).2) (addI .i64 (addI .i64 (addI .i64 k 1) 1) 1)))
       (some (-1))
       (laws_heldStepS_L2 fu fu1 a (addI .i64 (addI .i64 (addI .i64 (addI .i64 k 1) 1) 1) 1) (addI .i64 i 1))))))
   (some k)) := by kernel_rfl
end Go.Proofs.Ytopbiepiceajnaa.D
