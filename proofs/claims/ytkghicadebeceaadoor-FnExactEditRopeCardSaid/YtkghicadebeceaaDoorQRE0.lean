/- What the functions compute: their equations, checked by the kernel. -/
import Derived.ProofKit
import Derived.Test.YtkghicadebeceaaDoorDRE
namespace Go.Proofs.YtkghicadebeceaaDoor.RE
open Go.Eng
set_option maxRecDepth 100000
set_option maxHeartbeats 4000000
theorem laws_FnExactRopeFault.eq (aR : List T_siiii) (aR_1 : List T_sib) (fu : Nat) : laws_FnExactRopeFault (fu + 1) aR aR_1 =
  (optB (laws_szRope fu aR aR_1 1048576) fun r0 =>
  brB (ltI r0 0)
   (some true)
   (optB (laws_toRope fu aR aR_1) fun r1 =>
   optB (spec_RopeFault fu r1.1 r1.2) fun r2 =>
   optB (laws_toRope fu aR aR_1) fun r3 =>
   optB (impl_RopeFault fu r3.1 r3.2) fun r4 =>
   brB (notB (eqI r4 r2))
    (some false)
    (optB (laws_toRope fu aR aR_1) fun r5 =>
    optB (laws_eqRope fu r3.1 r3.2 r5.1 r5.2) fun r6 =>
    brB (notB r6)
     (some false)
     (some true)))) := by kernel_rfl
theorem laws_FnExactRopeText.eq (aR : List T_siiii) (aR_1 : List T_sib) (fu : Nat) : laws_FnExactRopeText (fu + 1) aR aR_1 =
  (optB (laws_szRope fu aR aR_1 1048576) fun r0 =>
  brB (ltI r0 0)
   (some true)
   (optB (laws_toRope fu aR aR_1) fun r1 =>
   optB (spec_RopeText fu r1.1 r1.2) fun r2 =>
   optB (laws_toRope fu aR aR_1) fun r3 =>
   optB (impl_RopeText fu r3.1 r3.2) fun r4 =>
   brB (notB (bytesEq r4 r2))
    (some false)
    (optB (laws_toRope fu aR aR_1) fun r5 =>
    optB (laws_eqRope fu r3.1 r3.2 r5.1 r5.2) fun r6 =>
    brB (notB r6)
     (some false)
     (some true)))) := by kernel_rfl
theorem laws_FnExactLineAt.eq (aR : List T_siiii) (aR_1 : List T_sib) (aAt : Int) (fu : Nat) : laws_FnExactLineAt (fu + 1) aR aR_1 aAt =
  (optB (laws_szRope fu aR aR_1 1048576) fun r0 =>
  brB (ltI r0 0)
   (some true)
   (optB (laws_toRope fu aR aR_1) fun r1 =>
   optB (spec_LineAt fu r1.1 r1.2 aAt) fun r2 =>
   optB (laws_toRope fu aR aR_1) fun r3 =>
   optB (impl_LineAt fu r3.1 r3.2 aAt) fun r4 =>
   brB (notB (eqI r4 r2))
    (some false)
    (optB (laws_toRope fu aR aR_1) fun r5 =>
    optB (laws_eqRope fu r3.1 r3.2 r5.1 r5.2) fun r6 =>
    brB (notB r6)
     (some false)
     (some true)))) := by kernel_rfl
theorem laws_FnExactPiece.eq (aR : List T_siiii) (aR_1 : List T_sib) (aFrom : Int) (aTo : Int) (fu : Nat) : laws_FnExactPiece (fu + 1) aR aR_1 aFrom aTo =
  (optB (laws_szRope fu aR aR_1 1048576) fun r0 =>
  brB (ltI r0 0)
   (some true)
   (optB (laws_toRope fu aR aR_1) fun r1 =>
   optB (spec_Piece fu r1.1 r1.2 aFrom aTo) fun r2 =>
   optB (laws_toRope fu aR aR_1) fun r3 =>
   optB (impl_Piece fu r3.1 r3.2 aFrom aTo) fun r4 =>
   brB (notB (bytesEq r4 r2))
    (some false)
    (optB (laws_toRope fu aR aR_1) fun r5 =>
    optB (laws_eqRope fu r3.1 r3.2 r5.1 r5.2) fun r6 =>
    brB (notB r6)
     (some false)
     (some true)))) := by kernel_rfl
theorem laws_FnExactPlaceOfLine.eq (aR : List T_siiii) (aR_1 : List T_sib) (aLine : Int) (fu : Nat) : laws_FnExactPlaceOfLine (fu + 1) aR aR_1 aLine =
  (optB (laws_szRope fu aR aR_1 1048576) fun r0 =>
  brB (ltI r0 0)
   (some true)
   (optB (laws_toRope fu aR aR_1) fun r1 =>
   optB (spec_PlaceOfLine fu r1.1 r1.2 aLine) fun r2 =>
   optB (laws_toRope fu aR aR_1) fun r3 =>
   optB (impl_PlaceOfLine fu r3.1 r3.2 aLine) fun r4 =>
   brB (notB (eqI r4 r2))
    (some false)
    (optB (laws_toRope fu aR aR_1) fun r5 =>
    optB (laws_eqRope fu r3.1 r3.2 r5.1 r5.2) fun r6 =>
    brB (notB r6)
     (some false)
     (some true)))) := by kernel_rfl
theorem laws_FnExactEditRope.eq (aR : List T_siiii) (aR_1 : List T_sib) (aEdits : List T_iis) (fu : Nat) : laws_FnExactEditRope (fu + 1) aR aR_1 aEdits =
  (optB (laws_szRope fu aR aR_1 1048576) fun r0 =>
  brB (ltI r0 0)
   (some true)
   (optB (laws_szRopeEditS fu aEdits r0) fun r1 =>
   brB (ltI r1 0)
    (some true)
    (optB (laws_toRope fu aR aR_1) fun r2 =>
    optB (laws_toRopeEditS fu aEdits) fun r3 =>
    optB (spec_EditRope fu r2.1 r2.2 r3) fun r4 =>
    optB (laws_toRope fu aR aR_1) fun r5 =>
    optB (laws_toRopeEditS fu aEdits) fun r6 =>
    optB (impl_EditRope fu r5.1 r5.2 r6) fun r7 =>
    optB (laws_eqRopeOut fu r7.1 r7.2.1 r7.2.2 r4.1 r4.2.1 r4.2.2) fun r8 =>
    brB (notB r8)
     (some false)
     (optB (laws_toRope fu aR aR_1) fun r9 =>
     optB (laws_eqRope fu r5.1 r5.2 r9.1 r9.2) fun r10 =>
     brB (notB r10)
      (some false)
      (optB (laws_toRopeEditS fu aEdits) fun r11 =>
      optB (laws_eqRopeEditS fu r6 r11) fun r12 =>
      brB (notB r12)
       (some false)
       (optB (laws_markRope fu 1 r5.1 r5.2) fun r13 =>
       optB (laws_markRopeEditS fu r13.1 r6) fun r14 =>
       brB (ltI r14.1 0)
        (some false)
        (optB (laws_eqRopeOut fu r7.1 r7.2.1 r7.2.2 r4.1 r4.2.1 r4.2.2) fun r15 =>
        brB (notB r15)
         (some false)
         (laws_FnExactEditRope_J23 fu aEdits aR aR_1 r4.1 r4.2.1 r4.2.2 r7.1 r7.2.1 r7.2.2)))))))) := by kernel_rfl
theorem laws_szRope.eq (a : List T_siiii) (a_1 : List T_sib) (left : Int) (fu : Nat) : laws_szRope (fu + 1) a a_1 left =
  (optB (laws_szRopeNodeS fu a left) fun r0 =>
  brB (ltI r0 0)
   (some (-1))
   (optB (laws_szMarkS fu a_1 r0) fun r1 =>
   brB (ltI r1 0)
    (some (-1))
    (some r1))) := by kernel_rfl
theorem laws_toRope.eq (a : List T_siiii) (a_1 : List T_sib) (fu : Nat) : laws_toRope (fu + 1) a a_1 =
  (optB (laws_toRopeNodeS fu a) fun r0 =>
  optB (laws_toMarkS fu a_1) fun r1 =>
  some (r0, r1)) := by kernel_rfl
theorem spec_RopeFault.eq (r : List T_siiii) (r_1 : List T_sib) (fu : Nat) : spec_RopeFault (fu + 1) r r_1 =
  (optB (spec_l20Text fu r) fun r0 =>
  brB (ltI 65536 (sz r0))
   (some 1)
   (brB (ltI 100 (ln r_1))
    (some 1)
    (optB (spec_l20Build fu r0 ([] : List (ByteArray × Int × Int × Int × Int))) fun r1 =>
    brB (notB (eqI (ln r1.1) (ln r)))
     (some 1)
     (spec_RopeFault_L8 fu fu r0 0 r r_1 r1.1)))) := by kernel_rfl
theorem impl_RopeFault.eq (r : List T_siiii) (r_1 : List T_sib) (fu : Nat) : impl_RopeFault (fu + 1) r r_1 =
  (optB (impl_ropeText fu r r_1) fun r0 =>
  optB (impl_long fu r0) fun r1 =>
  brB r1
   (some 1)
   (optB (impl_marksRight fu r_1 (sz r0)) fun r2 =>
   brB (notB r2)
    (some 1)
    (optB (impl_ropeOf fu r0 ([] : List (ByteArray × Int × Bool))) fun r3 =>
    optB (slices_Equal_RopeNode_RopeNode fu r3.1.1 r) fun r4 =>
    brB (notB r4)
     (some 1)
     (some 0)))) := by kernel_rfl
theorem laws_eqRope.eq (a : List T_siiii) (a_1 : List T_sib) (b : List T_siiii) (b_1 : List T_sib) (fu : Nat) : laws_eqRope (fu + 1) a a_1 b b_1 =
  (optB (laws_eqRopeNodeS fu a b) fun r0 =>
  brB (notB r0)
   (some false)
   (optB (laws_eqMarkS fu a_1 b_1) fun r1 =>
   brB (notB r1)
    (some false)
    (some true))) := by kernel_rfl
theorem spec_RopeText.eq (r : List T_siiii) (r_1 : List T_sib) (fu : Nat) : spec_RopeText (fu + 1) r r_1 =
  (optB (spec_RopeFault fu r r_1) fun r0 =>
  brB (notB (eqI r0 0))
   (some (bs []))
   (optB (spec_l20Text fu r) fun r1 =>
   some r1)) := by kernel_rfl
theorem impl_RopeText.eq (r : List T_siiii) (r_1 : List T_sib) (fu : Nat) : impl_RopeText (fu + 1) r r_1 =
  (optB (impl_RopeFault fu r r_1) fun r0 =>
  brB (notB (eqI r0 0))
   (some (bs []))
   (optB (impl_ropeText fu r r_1) fun r1 =>
   some r1)) := by kernel_rfl
theorem spec_LineAt.eq (r : List T_siiii) (r_1 : List T_sib) (at' : Int) (fu : Nat) : spec_LineAt (fu + 1) r r_1 at' =
  (optB (spec_RopeText fu r r_1) fun r0 =>
  optB (spec_RopeFault fu r r_1) fun r1 =>
  brB (notB (eqI r1 0))
   (some (-1))
   (brB (ltI at' 0)
    (some (-1))
    (brB (ltI (sz r0) at')
     (some (-1))
     (chk (leI 0 at') <|
     chk (leI at' (sz r0)) <|
     optB (spec_l20Ends fu (subs r0 0 at')) fun r2 =>
     some r2)))) := by kernel_rfl
theorem impl_LineAt.eq (r : List T_siiii) (r_1 : List T_sib) (at' : Int) (fu : Nat) : impl_LineAt (fu + 1) r r_1 at' =
  (optB (impl_RopeFault fu r r_1) fun r0 =>
  brB (notB (eqI r0 0))
   (some (-1))
   (optB (impl_ropeText fu r r_1) fun r1 =>
   brB (ltI at' 0)
    (some (-1))
    (brB (ltI (sz r1) at')
     (some (-1))
     (chk (leI 0 at') <|
     chk (leI at' (sz r1)) <|
     optB (strings_Count fu (subs r1 0 at') (bs [10])) fun r2 =>
     some r2)))) := by kernel_rfl
theorem spec_Piece.eq (r : List T_siiii) (r_1 : List T_sib) (from' : Int) (to : Int) (fu : Nat) : spec_Piece (fu + 1) r r_1 from' to =
  (optB (spec_RopeText fu r r_1) fun r0 =>
  brB (ltI from' 0)
   (some (bs []))
   (brB (ltI to from')
    (some (bs []))
    (brB (ltI (sz r0) to)
     (some (bs []))
     (chk (leI 0 from') <|
     chk (leI from' to) <|
     chk (leI to (sz r0)) <|
     some (subs r0 from' to))))) := by kernel_rfl
theorem impl_Piece.eq (r : List T_siiii) (r_1 : List T_sib) (from' : Int) (to : Int) (fu : Nat) : impl_Piece (fu + 1) r r_1 from' to =
  (optB (impl_RopeText fu r r_1) fun r0 =>
  brB (ltI from' 0)
   (some (bs []))
   (brB (ltI to from')
    (some (bs []))
    (brB (ltI (sz r0) to)
     (some (bs []))
     (chk (leI 0 from') <|
     chk (leI from' to) <|
     chk (leI to (sz r0)) <|
     some (subs r0 from' to))))) := by kernel_rfl
theorem spec_PlaceOfLine.eq (r : List T_siiii) (r_1 : List T_sib) (line : Int) (fu : Nat) : spec_PlaceOfLine (fu + 1) r r_1 line =
  (optB (spec_RopeFault fu r r_1) fun r0 =>
  brB (notB (eqI r0 0))
   (some (-1))
   (brB (ltI line 0)
    (some (-1))
    (optB (spec_l20Text fu r) fun r1 =>
    brB (eqI line 0)
     (some 0)
     (spec_PlaceOfLine_L7 fu fu line r1 0)))) := by kernel_rfl
theorem impl_PlaceOfLine.eq (r : List T_siiii) (r_1 : List T_sib) (line : Int) (fu : Nat) : impl_PlaceOfLine (fu + 1) r r_1 line =
  (optB (impl_RopeFault fu r r_1) fun r0 =>
  brB (notB (eqI r0 0))
   (some (-1))
   (optB (impl_ropeText fu r r_1) fun r1 =>
   brB (eqI line 0)
    (some 0)
    (impl_PlaceOfLine_L7 fu fu line r1 (sz r1) 0))) := by kernel_rfl
theorem laws_szRopeEditS.eq (a : List T_iis) (left : Int) (fu : Nat) : laws_szRopeEditS (fu + 1) a left =
  (brB (ltI (subI .i64 left (ln a)) 0)
   (some (-1))
   (laws_szRopeEditS_L5 fu fu a (subI .i64 left (ln a)) 0)) := by kernel_rfl
theorem laws_toRopeEditS.eq (a : List T_iis) (fu : Nat) : laws_toRopeEditS (fu + 1) a =
  (chk (leI 0 (ln a)) <|
  chk (leI (ln a) (ln a)) <|
  chk (ltI (mulZ (ln a) 32) 140737488355328) <|
  laws_toRopeEditS_L3 fu fu a 0 (repI (ln a) (0, (0, (bs []))))) := by kernel_rfl
theorem spec_EditRope.eq (r : List T_siiii) (r_1 : List T_sib) (edits : List T_iis) (fu : Nat) : spec_EditRope (fu + 1) r r_1 edits =
  (brB (ltI 1000 (ln edits))
   (some (2, (([] : List (ByteArray × Int × Int × Int × Int)), ([] : List (ByteArray × Int × Bool)))))
   (optB (spec_RopeFault fu r r_1) fun r0 =>
   brB (notB (eqI r0 0))
    (some (1, (([] : List (ByteArray × Int × Int × Int × Int)), ([] : List (ByteArray × Int × Bool)))))
    (optB (spec_l20Edit fu r r_1 edits) fun r1 =>
    some (r1.1, (r1.2.1, r1.2.2))))) := by kernel_rfl
theorem impl_EditRope.eq (r : List T_siiii) (r_1 : List T_sib) (edits : List T_iis) (fu : Nat) : impl_EditRope (fu + 1) r r_1 edits =
  (brB (ltI 1000 (ln edits))
   (some (2, (([] : List (ByteArray × Int × Int × Int × Int)), ([] : List (ByteArray × Int × Bool)))))
   (optB (impl_RopeFault fu r r_1) fun r0 =>
   brB (notB (eqI r0 0))
    (some (1, (([] : List (ByteArray × Int × Int × Int × Int)), ([] : List (ByteArray × Int × Bool)))))
    (optB (impl_ropeText fu r r_1) fun r1 =>
    optB (slices_Clone_Mark_Mark fu r_1) fun r2 =>
    impl_EditRope_L7 fu fu r1 edits (ln edits) 0 0 r2))) := by kernel_rfl
theorem laws_eqRopeOut.eq (a : Int) (a_1 : List T_siiii) (a_2 : List T_sib) (b : Int) (b_1 : List T_siiii) (b_2 : List T_sib) (fu : Nat) : laws_eqRopeOut (fu + 1) a a_1 a_2 b b_1 b_2 =
  (brB (notB (eqI a b))
   (some false)
   (optB (laws_eqRope fu a_1 a_2 b_1 b_2) fun r0 =>
   brB (notB r0)
    (some false)
    (some true))) := by kernel_rfl
theorem laws_eqRopeEditS.eq (a : List T_iis) (b : List T_iis) (fu : Nat) : laws_eqRopeEditS (fu + 1) a b =
  (brB (notB (eqI (ln a) (ln b)))
   (some false)
   (laws_eqRopeEditS_L4 fu fu a b 0)) := by kernel_rfl
theorem laws_markRope.eq (k : Int) (a : List T_siiii) (a_1 : List T_sib) (fu : Nat) : laws_markRope (fu + 1) k a a_1 =
  (optB (laws_markRopeNodeS fu k a) fun r0 =>
  optB (laws_markMarkS fu r0.1 a_1) fun r1 =>
  some (r1.1, (r0.2, r1.2))) := by kernel_rfl
theorem laws_markRopeEditS.eq (k : Int) (a : List T_iis) (fu : Nat) : laws_markRopeEditS (fu + 1) k a =
  (laws_markRopeEditS_L2 fu fu k 0 a) := by kernel_rfl
theorem laws_FnExactEditRope_J23.eq (aEdits : List T_iis) (aR : List T_siiii) (aR_1 : List T_sib) (w0 : Int) (x : List T_siiii) (x_1 : List T_sib) (g0 : Int) (x_2 : List T_siiii) (x_3 : List T_sib) (fu : Nat) : laws_FnExactEditRope_J23 fu aEdits aR aR_1 w0 x x_1 g0 x_2 x_3 =
  (optB (laws_markRopeOut fu g0 1 x_2 x_3) fun r0 =>
  optB (laws_heldRopeOut fu g0 r0.2.1 r0.2.2 1) fun r1 =>
  brB (ltI r1 0)
   (some false)
   (brB (notB (eqI r1 r0.1))
    (some false)
    (optB (laws_toRope fu aR aR_1) fun r2 =>
    optB (laws_toRopeEditS fu aEdits) fun r3 =>
    optB (impl_EditRope fu r2.1 r2.2 r3) fun r4 =>
    optB (laws_eqRopeOut fu r4.1 r4.2.1 r4.2.2 w0 x x_1) fun r5 =>
    brB (notB r5)
     (some false)
     (optB (laws_heldRopeOut fu g0 r0.2.1 r0.2.2 1) fun r6 =>
     brB (ltI r6 0)
      (some false)
      (brB (notB (eqI r6 r0.1))
       (some false)
       (some true)))))) := by unfold laws_FnExactEditRope_J23; rw [joinAt_eq]; kernel_rfl
theorem laws_szRopeNodeS.eq (a : List T_siiii) (left : Int) (fu : Nat) : laws_szRopeNodeS (fu + 1) a left =
  (brB (ltI (subI .i64 left (ln a)) 0)
   (some (-1))
   (laws_szRopeNodeS_L5 fu fu a (subI .i64 left (ln a)) 0)) := by kernel_rfl
theorem laws_szMarkS.eq (a : List T_sib) (left : Int) (fu : Nat) : laws_szMarkS (fu + 1) a left =
  (brB (ltI (subI .i64 left (ln a)) 0)
   (some (-1))
   (laws_szMarkS_L5 fu fu a (subI .i64 left (ln a)) 0)) := by kernel_rfl
theorem laws_toRopeNodeS.eq (a : List T_siiii) (fu : Nat) : laws_toRopeNodeS (fu + 1) a =
  (chk (leI 0 (ln a)) <|
  chk (leI (ln a) (ln a)) <|
  chk (ltI (mulZ (ln a) 48) 140737488355328) <|
  laws_toRopeNodeS_L3 fu fu a 0 (repI (ln a) ((bs []), (0, (0, (0, 0)))))) := by kernel_rfl
theorem laws_toMarkS.eq (a : List T_sib) (fu : Nat) : laws_toMarkS (fu + 1) a =
  (chk (leI 0 (ln a)) <|
  chk (leI (ln a) (ln a)) <|
  chk (ltI (mulZ (ln a) 32) 140737488355328) <|
  laws_toMarkS_L3 fu fu a 0 (repI (ln a) ((bs []), (0, false)))) := by kernel_rfl
theorem spec_l20Text.eq (l : List T_siiii) (fu : Nat) : spec_l20Text (fu + 1) l =
  (spec_l20Text_L3 fu fu l 0 ([] : List Int)) := by kernel_rfl
theorem spec_l20Build.eq (t : ByteArray) (l : List T_siiii) (fu : Nat) : spec_l20Build (fu + 1) t l =
  (brB (bytesEq t (bs []))
   (some (l, ()))
   (optB (spec_l20Ends fu t) fun r0 =>
   brB (leI (sz t) 64)
    (chk (ltI (mulZ (addZ (ln l) (ln ((t, ((-1), ((-1), ((sz t), r0)))) :: ([] : List (ByteArray × Int × Int × Int × Int))))) 48) 140737488355328) <|
    some ((catL l ((t, ((-1), ((-1), ((sz t), r0)))) :: ([] : List (ByteArray × Int × Int × Int × Int)))), ()))
    (optB (spec_l20Cut fu t) fun r1 =>
    chk (ltI (mulZ (addZ (ln l) (ln (((bs []), ((-1), ((-1), ((sz t), r0)))) :: ([] : List (ByteArray × Int × Int × Int × Int))))) 48) 140737488355328) <|
    chk (leI 0 (ln l)) <|
    chk (ltI (ln l) (ln (catL l (((bs []), ((-1), ((-1), ((sz t), r0)))) :: ([] : List (ByteArray × Int × Int × Int × Int)))))) <|
    chk (leI 0 r1) <|
    chk (leI r1 (sz t)) <|
    optB (spec_l20Build fu (subs t 0 r1) (setI (catL l (((bs []), ((-1), ((-1), ((sz t), r0)))) :: ([] : List (ByteArray × Int × Int × Int × Int)))) (ln l) ((rd (catL l (((bs []), ((-1), ((-1), ((sz t), r0)))) :: ([] : List (ByteArray × Int × Int × Int × Int)))) (ln l) ((bs []), (0, (0, (0, 0))))).1, ((ln (catL l (((bs []), ((-1), ((-1), ((sz t), r0)))) :: ([] : List (ByteArray × Int × Int × Int × Int))))), ((rd (catL l (((bs []), ((-1), ((-1), ((sz t), r0)))) :: ([] : List (ByteArray × Int × Int × Int × Int)))) (ln l) ((bs []), (0, (0, (0, 0))))).2).2)))) fun r2 =>
    chk (leI 0 (ln l)) <|
    chk (ltI (ln l) (ln r2.1)) <|
    chk (leI 0 r1) <|
    chk (leI r1 (sz t)) <|
    optB (spec_l20Build'1 fu (subs t r1 (sz t)) (setI r2.1 (ln l) ((rd r2.1 (ln l) ((bs []), (0, (0, (0, 0))))).1, (((rd r2.1 (ln l) ((bs []), (0, (0, (0, 0))))).2).1, ((ln r2.1), (((rd r2.1 (ln l) ((bs []), (0, (0, (0, 0))))).2).2).2))))) fun r3 =>
    some (r3.1, ())))) := by kernel_rfl
theorem spec_RopeFault_L8.eq (t : ByteArray) (i : Int) (r : List T_siiii) (r_1 : List T_sib) (own : List T_siiii) (fu fu1 : Nat) : spec_RopeFault_L8 fu (fu1 + 1) t i r r_1 own =
  (brB (ltI i (ln own))
   (chk (leI 0 i) <|
   chk (ltI i (ln own)) <|
   chk (leI 0 i) <|
   chk (ltI i (ln r)) <|
   brB (notB (andB (bytesEq ((rd own i ((bs []), (0, (0, (0, 0))))).1) ((rd r i ((bs []), (0, (0, (0, 0))))).1)) (andB (eqI (((rd own i ((bs []), (0, (0, (0, 0))))).2).1) (((rd r i ((bs []), (0, (0, (0, 0))))).2).1)) (andB (eqI ((((rd own i ((bs []), (0, (0, (0, 0))))).2).2).1) ((((rd r i ((bs []), (0, (0, (0, 0))))).2).2).1)) (andB (eqI (((((rd own i ((bs []), (0, (0, (0, 0))))).2).2).2).1) (((((rd r i ((bs []), (0, (0, (0, 0))))).2).2).2).1)) (andB (eqI (((((rd own i ((bs []), (0, (0, (0, 0))))).2).2).2).2) (((((rd r i ((bs []), (0, (0, (0, 0))))).2).2).2).2)) true))))))
    (some 1)
    (spec_RopeFault_L8 fu fu1 t (addI .i64 i 1) r r_1 own))
   (spec_RopeFault_L13 fu fu t 0 r r_1)) := by kernel_rfl
theorem impl_ropeText.eq (r : List T_siiii) (r_1 : List T_sib) (fu : Nat) : impl_ropeText (fu + 1) r r_1 =
  (impl_ropeText_L3 fu fu r (ln r) 0 (bs [])) := by kernel_rfl
theorem impl_long.eq (s : ByteArray) (fu : Nat) : impl_long (fu + 1) s =
  (some (ltI 65536 (sz s))) := by kernel_rfl
theorem impl_marksRight.eq (l : List T_sib) (n : Int) (fu : Nat) : impl_marksRight (fu + 1) l n =
  (impl_marksRight_L2 fu fu l n l (ln l) 0) := by kernel_rfl
theorem impl_ropeOf.eq (s : ByteArray) (marks : List T_sib) (fu : Nat) : impl_ropeOf (fu + 1) s marks =
  (brB (notB (bytesEq s (bs [])))
   (optB (impl_ropeTree fu s ([] : List (ByteArray × Int × Int × Int × Int))) fun r0 =>
   some ((r0.1, marks), ()))
   (some ((([] : List (ByteArray × Int × Int × Int × Int)), marks), ()))) := by kernel_rfl
theorem slices_Equal_RopeNode_RopeNode.eq (s1 : List T_siiii) (s2 : List T_siiii) (fu : Nat) : slices_Equal_RopeNode_RopeNode (fu + 1) s1 s2 =
  (brB (notB (eqI (ln s1) (ln s2)))
   (some false)
   (slices_Equal_RopeNode_RopeNode_L4 fu fu s1 s2 (ln s1) 0)) := by kernel_rfl
theorem laws_eqRopeNodeS.eq (a : List T_siiii) (b : List T_siiii) (fu : Nat) : laws_eqRopeNodeS (fu + 1) a b =
  (brB (notB (eqI (ln a) (ln b)))
   (some false)
   (laws_eqRopeNodeS_L4 fu fu a b 0)) := by kernel_rfl
theorem laws_eqMarkS.eq (a : List T_sib) (b : List T_sib) (fu : Nat) : laws_eqMarkS (fu + 1) a b =
  (brB (notB (eqI (ln a) (ln b)))
   (some false)
   (laws_eqMarkS_L4 fu fu a b 0)) := by kernel_rfl
theorem spec_l20Ends.eq (t : ByteArray) (fu : Nat) : spec_l20Ends (fu + 1) t =
  (spec_l20Ends_L3 fu fu t 0 0) := by kernel_rfl
theorem strings_Count.eq (s : ByteArray) (substr : ByteArray) (fu : Nat) : strings_Count (fu + 1) s substr =
  (brB (eqI (sz substr) 0)
   (optB (unicode_utf8_RuneCountInString fu s) fun r0 =>
   some (addI .i64 r0 1))
   (brB (eqI (sz substr) 1)
    (chk (leI 0 0) <|
    chk (ltI 0 (sz substr)) <|
    optB (internal_bytealg_CountString fu s (bt substr 0)) fun r0 =>
    some r0)
    (strings_Count_L6 fu fu s substr 0))) := by kernel_rfl
theorem spec_PlaceOfLine_L7.eq (line : Int) (t : ByteArray) (i : Int) (fu fu1 : Nat) : spec_PlaceOfLine_L7 fu (fu1 + 1) line t i =
  (brB (ltI i (sz t))
   (chk (leI 0 i) <|
   chk (ltI i (sz t)) <|
   brB (eqI (bt t i) 10)
    (brB (eqI (subI .i64 line 1) 0)
     (some (addI .i64 i 1))
     (spec_PlaceOfLine_L7 fu fu1 (subI .i64 line 1) t (addI .i64 i 1)))
    (spec_PlaceOfLine_L7 fu fu1 line t (addI .i64 i 1)))
   (some (-1))) := by kernel_rfl
theorem impl_PlaceOfLine_L7.eq (line : Int) (s : ByteArray) (x : Int) (x_1 : Int) (fu fu1 : Nat) : impl_PlaceOfLine_L7 fu (fu1 + 1) line s x x_1 =
  (brB (ltI x_1 x)
   (chk (leI 0 x_1) <|
   chk (ltI x_1 (sz s)) <|
   brB (eqI (bt s x_1) 10)
    (brB (eqI (subI .i64 line 1) 0)
     (some (addI .i64 x_1 1))
     (impl_PlaceOfLine_L7 fu fu1 (subI .i64 line 1) s x (addI .i64 x_1 1)))
    (impl_PlaceOfLine_L7 fu fu1 line s x (addI .i64 x_1 1)))
   (some (-1))) := by kernel_rfl
theorem laws_szRopeEditS_L5.eq (a : List T_iis) (left : Int) (i : Int) (fu fu1 : Nat) : laws_szRopeEditS_L5 fu (fu1 + 1) a left i =
  (brB (ltI i (ln a))
   (chk (leI 0 i) <|
   chk (ltI i (ln a)) <|
   optB (laws_szRopeEdit fu ((rd a i (0, (0, (bs [])))).1) (((rd a i (0, (0, (bs [])))).2).1) (((rd a i (0, (0, (bs [])))).2).2) left) fun r0 =>
   brB (ltI r0 0)
    (some (-1))
    (laws_szRopeEditS_L5 fu fu1 a r0 (addI .i64 i 1)))
   (some left)) := by kernel_rfl
theorem laws_toRopeEditS_L3.eq (a : List T_iis) (i : Int) (out : List T_iis) (fu fu1 : Nat) : laws_toRopeEditS_L3 fu (fu1 + 1) a i out =
  (brB (ltI i (ln a))
   (chk (leI 0 i) <|
   chk (ltI i (ln a)) <|
   optB (laws_toRopeEdit fu ((rd a i (0, (0, (bs [])))).1) (((rd a i (0, (0, (bs [])))).2).1) (((rd a i (0, (0, (bs [])))).2).2)) fun r0 =>
   chk (leI 0 i) <|
   chk (ltI i (ln out)) <|
   laws_toRopeEditS_L3 fu fu1 a (addI .i64 i 1) (setI out i (r0.1, (r0.2.1, r0.2.2))))
   (some out)) := by kernel_rfl
theorem spec_l20Edit.eq (r : List T_siiii) (r_1 : List T_sib) (edits : List T_iis) (fu : Nat) : spec_l20Edit (fu + 1) r r_1 edits =
  (optB (spec_l20Text fu r) fun r0 =>
  chk (ltI (mulZ (addZ (ln ([] : List (ByteArray × Int × Bool))) (ln r_1)) 32) 140737488355328) <|
  spec_l20Edit_L4 fu fu edits r0 0 0 (catL ([] : List (ByteArray × Int × Bool)) r_1)) := by kernel_rfl
theorem impl_EditRope_L7.eq (s : ByteArray) (x : List T_iis) (x_1 : Int) (x_2 : Int) (x_3 : Int) (marks : List T_sib) (fu fu1 : Nat) : impl_EditRope_L7 fu (fu1 + 1) s x x_1 x_2 x_3 marks =
  (brB (ltI x_2 x_1)
   (chk (leI 0 x_2) <|
   chk (ltI x_2 (ln x)) <|
   brB (ltI ((rd x x_2 (0, (0, (bs [])))).1) 0)
    (some (5, (([] : List (ByteArray × Int × Int × Int × Int)), ([] : List (ByteArray × Int × Bool)))))
    (brB (ltI (sz s) ((rd x x_2 (0, (0, (bs [])))).1))
     (some (5, (([] : List (ByteArray × Int × Int × Int × Int)), ([] : List (ByteArray × Int × Bool)))))
     (brB (ltI (((rd x x_2 (0, (0, (bs [])))).2).1) 0)
      (some (5, (([] : List (ByteArray × Int × Int × Int × Int)), ([] : List (ByteArray × Int × Bool)))))
      (brB (ltI (subI .i64 (sz s) ((rd x x_2 (0, (0, (bs [])))).1)) (((rd x x_2 (0, (0, (bs [])))).2).1))
       (some (5, (([] : List (ByteArray × Int × Int × Int × Int)), ([] : List (ByteArray × Int × Bool)))))
       (impl_EditRope_J12 fu fu1 s x x_1 x_2 x_3 marks ((rd x x_2 (0, (0, (bs [])))).1) (((rd x x_2 (0, (0, (bs [])))).2).1) (((rd x x_2 (0, (0, (bs [])))).2).2))))))
   (optB (impl_ropeOf'1 fu s marks) fun r0 =>
   some (0, (r0.1.1, r0.1.2)))) := by kernel_rfl
theorem laws_eqRopeEditS_L4.eq (a : List T_iis) (b : List T_iis) (i : Int) (fu fu1 : Nat) : laws_eqRopeEditS_L4 fu (fu1 + 1) a b i =
  (brB (ltI i (ln a))
   (chk (leI 0 i) <|
   chk (ltI i (ln a)) <|
   chk (leI 0 i) <|
   chk (ltI i (ln b)) <|
   optB (laws_eqRopeEdit fu ((rd a i (0, (0, (bs [])))).1) (((rd a i (0, (0, (bs [])))).2).1) (((rd a i (0, (0, (bs [])))).2).2) ((rd b i (0, (0, (bs [])))).1) (((rd b i (0, (0, (bs [])))).2).1) (((rd b i (0, (0, (bs [])))).2).2)) fun r0 =>
   brB (notB r0)
    (some false)
    (laws_eqRopeEditS_L4 fu fu1 a b (addI .i64 i 1)))
   (some true)) := by kernel_rfl
theorem laws_markRopeNodeS.eq (k : Int) (a : List T_siiii) (fu : Nat) : laws_markRopeNodeS (fu + 1) k a =
  (laws_markRopeNodeS_L2 fu fu k 0 a) := by kernel_rfl
theorem laws_markMarkS.eq (k : Int) (a : List T_sib) (fu : Nat) : laws_markMarkS (fu + 1) k a =
  (laws_markMarkS_L2 fu fu k 0 a) := by kernel_rfl
theorem laws_markRopeEditS_L2.eq (k : Int) (i : Int) (a : List T_iis) (fu fu1 : Nat) : laws_markRopeEditS_L2 fu (fu1 + 1) k i a =
  (brB (ltI i (ln a))
   (chk (leI 0 i) <|
   chk (ltI i (ln a)) <|
   chk (leI 0 i) <|
   chk (ltI i (ln (setI a i (k, (rd a i (0, (0, (bs [])))).2)))) <|
   optB (laws_markText fu (addI .i64 (addI .i64 k 1) 1)) fun r0 =>
   chk (leI 0 i) <|
   chk (ltI i (ln (setI (setI a i (k, (rd a i (0, (0, (bs [])))).2)) i ((rd (setI a i (k, (rd a i (0, (0, (bs [])))).2)) i (0, (0, (bs [])))).1, ((addI .i64 k 1), ((rd (setI a i (k, (rd a i (0, (0, (bs [])))).2)) i (0, (0, (bs [])))).2).2))))) <|
   laws_markRopeEditS_L2 fu fu1 (addI .i64 (addI .i64 (addI .i64 k 1) 1) 1) (addI .i64 i 1) (setI (setI (setI a i (k, (rd a i (0, (0, (bs [])))).2)) i ((rd (setI a i (k, (rd a i (0, (0, (bs [])))).2)) i (0, (0, (bs [])))).1, ((addI .i64 k 1), ((rd (setI a i (k, (rd a i (0, (0, (bs [])))).2)) i (0, (0, (bs [])))).2).2))) i ((rd (setI (setI a i (k, (rd a i (0, (0, (bs [])))).2)) i ((rd (setI a i (k, (rd a i (0, (0, (bs [])))).2)) i (0, (0, (bs [])))).1, ((addI .i64 k 1), ((rd (setI a i (k, (rd a i (0, (0, (bs [])))).2)) i (0, (0, (bs [])))).2).2))) i (0, (0, (bs [])))).1, (((rd (setI (setI a i (k, (rd a i (0, (0, (bs [])))).2)) i ((rd (setI a i (k, (rd a i (0, (0, (bs [])))).2)) i (0, (0, (bs [])))).1, ((addI .i64 k 1), ((rd (setI a i (k, (rd a i (0, (0, (bs [])))).2)) i (0, (0, (bs [])))).2).2))) i (0, (0, (bs [])))).2).1, r0))))
   (some (k, a))) := by kernel_rfl
theorem laws_markRopeOut.eq (a : Int) (k : Int) (a_1 : List T_siiii) (a_2 : List T_sib) (fu : Nat) : laws_markRopeOut (fu + 1) a k a_1 a_2 =
  (optB (laws_markRope fu k a_1 a_2) fun r0 =>
  some (r0.1, (r0.2.1, r0.2.2))) := by kernel_rfl
theorem laws_heldRopeOut.eq (a : Int) (a_1 : List T_siiii) (a_2 : List T_sib) (k : Int) (fu : Nat) : laws_heldRopeOut (fu + 1) a a_1 a_2 k =
  (optB (laws_heldRope fu a_1 a_2 k) fun r0 =>
  brB (ltI r0 0)
   (some (-1))
   (some r0)) := by kernel_rfl
theorem laws_szRopeNodeS_L5.eq (a : List T_siiii) (left : Int) (i : Int) (fu fu1 : Nat) : laws_szRopeNodeS_L5 fu (fu1 + 1) a left i =
  (brB (ltI i (ln a))
   (chk (leI 0 i) <|
   chk (ltI i (ln a)) <|
   optB (laws_szRopeNode fu ((rd a i ((bs []), (0, (0, (0, 0))))).1) (((rd a i ((bs []), (0, (0, (0, 0))))).2).1) ((((rd a i ((bs []), (0, (0, (0, 0))))).2).2).1) (((((rd a i ((bs []), (0, (0, (0, 0))))).2).2).2).1) (((((rd a i ((bs []), (0, (0, (0, 0))))).2).2).2).2) left) fun r0 =>
   brB (ltI r0 0)
    (some (-1))
    (laws_szRopeNodeS_L5 fu fu1 a r0 (addI .i64 i 1)))
   (some left)) := by kernel_rfl
theorem laws_szMarkS_L5.eq (a : List T_sib) (left : Int) (i : Int) (fu fu1 : Nat) : laws_szMarkS_L5 fu (fu1 + 1) a left i =
  (brB (ltI i (ln a))
   (chk (leI 0 i) <|
   chk (ltI i (ln a)) <|
   optB (laws_szMark fu ((rd a i ((bs []), (0, false))).1) (((rd a i ((bs []), (0, false))).2).1) (((rd a i ((bs []), (0, false))).2).2) left) fun r0 =>
   brB (ltI r0 0)
    (some (-1))
    (laws_szMarkS_L5 fu fu1 a r0 (addI .i64 i 1)))
   (some left)) := by kernel_rfl
theorem laws_toRopeNodeS_L3.eq (a : List T_siiii) (i : Int) (out : List T_siiii) (fu fu1 : Nat) : laws_toRopeNodeS_L3 fu (fu1 + 1) a i out =
  (brB (ltI i (ln a))
   (chk (leI 0 i) <|
   chk (ltI i (ln a)) <|
   optB (laws_toRopeNode fu ((rd a i ((bs []), (0, (0, (0, 0))))).1) (((rd a i ((bs []), (0, (0, (0, 0))))).2).1) ((((rd a i ((bs []), (0, (0, (0, 0))))).2).2).1) (((((rd a i ((bs []), (0, (0, (0, 0))))).2).2).2).1) (((((rd a i ((bs []), (0, (0, (0, 0))))).2).2).2).2)) fun r0 =>
   chk (leI 0 i) <|
   chk (ltI i (ln out)) <|
   laws_toRopeNodeS_L3 fu fu1 a (addI .i64 i 1) (setI out i (r0.1, (r0.2.1, (r0.2.2.1, (r0.2.2.2.1, r0.2.2.2.2))))))
   (some out)) := by kernel_rfl
theorem laws_toMarkS_L3.eq (a : List T_sib) (i : Int) (out : List T_sib) (fu fu1 : Nat) : laws_toMarkS_L3 fu (fu1 + 1) a i out =
  (brB (ltI i (ln a))
   (chk (leI 0 i) <|
   chk (ltI i (ln a)) <|
   optB (laws_toMark fu ((rd a i ((bs []), (0, false))).1) (((rd a i ((bs []), (0, false))).2).1) (((rd a i ((bs []), (0, false))).2).2)) fun r0 =>
   chk (leI 0 i) <|
   chk (ltI i (ln out)) <|
   laws_toMarkS_L3 fu fu1 a (addI .i64 i 1) (setI out i (r0.1, (r0.2.1, r0.2.2))))
   (some out)) := by kernel_rfl
theorem spec_l20Text_L3.eq (l : List T_siiii) (i : Int) (out : List T_y) (fu fu1 : Nat) : spec_l20Text_L3 fu (fu1 + 1) l i out =
  (brB (ltI i (ln l))
   (chk (leI 0 i) <|
   chk (ltI i (ln l)) <|
   chk (ltI (mulZ (addZ (ln out) (ln (numsOf ((rd l i ((bs []), (0, (0, (0, 0))))).1)))) 1) 140737488355328) <|
   spec_l20Text_L3 fu fu1 l (addI .i64 i 1) (catL out (numsOf ((rd l i ((bs []), (0, (0, (0, 0))))).1))))
   (some (bytesOf out))) := by kernel_rfl
theorem spec_l20Cut.eq (t : ByteArray) (fu : Nat) : spec_l20Cut (fu + 1) t =
  (chk (notB (eqI 2 0)) <|
  spec_l20Cut_L4 fu fu t (quoI .i64 (addI .i64 (sz t) 1) 2) 0 0) := by kernel_rfl
theorem spec_l20Build'1.eq (t : ByteArray) (l : List T_siiii) (fu : Nat) : spec_l20Build'1 (fu + 1) t l =
  (brB (bytesEq t (bs []))
   (some (l, ()))
   (optB (spec_l20Ends fu t) fun r0 =>
   brB (leI (sz t) 64)
    (chk (ltI (mulZ (addZ (ln l) (ln ((t, ((-1), ((-1), ((sz t), r0)))) :: ([] : List (ByteArray × Int × Int × Int × Int))))) 48) 140737488355328) <|
    some ((catL l ((t, ((-1), ((-1), ((sz t), r0)))) :: ([] : List (ByteArray × Int × Int × Int × Int)))), ()))
    (optB (spec_l20Cut fu t) fun r1 =>
    chk (ltI (mulZ (addZ (ln l) (ln (((bs []), ((-1), ((-1), ((sz t), r0)))) :: ([] : List (ByteArray × Int × Int × Int × Int))))) 48) 140737488355328) <|
    chk (leI 0 (ln l)) <|
    chk (ltI (ln l) (ln (catL l (((bs []), ((-1), ((-1), ((sz t), r0)))) :: ([] : List (ByteArray × Int × Int × Int × Int)))))) <|
    chk (leI 0 r1) <|
    chk (leI r1 (sz t)) <|
    optB (spec_l20Build'1 fu (subs t 0 r1) (setI (catL l (((bs []), ((-1), ((-1), ((sz t), r0)))) :: ([] : List (ByteArray × Int × Int × Int × Int)))) (ln l) ((rd (catL l (((bs []), ((-1), ((-1), ((sz t), r0)))) :: ([] : List (ByteArray × Int × Int × Int × Int)))) (ln l) ((bs []), (0, (0, (0, 0))))).1, ((ln (catL l (((bs []), ((-1), ((-1), ((sz t), r0)))) :: ([] : List (ByteArray × Int × Int × Int × Int))))), ((rd (catL l (((bs []), ((-1), ((-1), ((sz t), r0)))) :: ([] : List (ByteArray × Int × Int × Int × Int)))) (ln l) ((bs []), (0, (0, (0, 0))))).2).2)))) fun r2 =>
    chk (leI 0 (ln l)) <|
    chk (ltI (ln l) (ln r2.1)) <|
    chk (leI 0 r1) <|
    chk (leI r1 (sz t)) <|
    optB (spec_l20Build'1 fu (subs t r1 (sz t)) (setI r2.1 (ln l) ((rd r2.1 (ln l) ((bs []), (0, (0, (0, 0))))).1, (((rd r2.1 (ln l) ((bs []), (0, (0, (0, 0))))).2).1, ((ln r2.1), (((rd r2.1 (ln l) ((bs []), (0, (0, (0, 0))))).2).2).2))))) fun r3 =>
    some (r3.1, ())))) := by kernel_rfl
theorem spec_RopeFault_L13.eq (t : ByteArray) (i : Int) (r : List T_siiii) (r_1 : List T_sib) (fu fu1 : Nat) : spec_RopeFault_L13 fu (fu1 + 1) t i r r_1 =
  (brB (ltI i (ln r_1))
   (chk (leI 0 i) <|
   chk (ltI i (ln r_1)) <|
   optB (spec_l20Mark fu ((rd r_1 i ((bs []), (0, false))).1) (((rd r_1 i ((bs []), (0, false))).2).1) (((rd r_1 i ((bs []), (0, false))).2).2) (sz t)) fun r0 =>
   brB (notB r0)
    (some 1)
    (brB (ltI 0 i)
     (chk (leI 0 (subI .i64 i 1)) <|
     chk (ltI (subI .i64 i 1) (ln r_1)) <|
     chk (leI 0 i) <|
     chk (ltI i (ln r_1)) <|
     brB (notB (strLess ((rd r_1 (subI .i64 i 1) ((bs []), (0, false))).1) ((rd r_1 i ((bs []), (0, false))).1)))
      (some 1)
      (spec_RopeFault_L13 fu fu1 t (addI .i64 i 1) r r_1))
     (spec_RopeFault_L13 fu fu1 t (addI .i64 i 1) r r_1)))
   (some 0)) := by kernel_rfl
theorem impl_ropeText_L3.eq (x : List T_siiii) (x_1 : Int) (x_2 : Int) (b : ByteArray) (fu fu1 : Nat) : impl_ropeText_L3 fu (fu1 + 1) x x_1 x_2 b =
  (brB (ltI x_2 x_1)
   (chk (leI 0 x_2) <|
   chk (ltI x_2 (ln x)) <|
   chk (leI (addZ (sz b) (sz ((rd x x_2 ((bs []), (0, (0, (0, 0))))).1))) 140737488355328) <|
   impl_ropeText_L3 fu fu1 x x_1 (addI .i64 x_2 1) (catS b ((rd x x_2 ((bs []), (0, (0, (0, 0))))).1)))
   (some b)) := by kernel_rfl
theorem impl_marksRight_L2.eq (l : List T_sib) (n : Int) (x : List T_sib) (x_1 : Int) (x_2 : Int) (fu fu1 : Nat) : impl_marksRight_L2 fu (fu1 + 1) l n x x_1 x_2 =
  (brB (ltI x_2 x_1)
   (chk (leI 0 x_2) <|
   chk (ltI x_2 (ln x)) <|
   optB (impl_isName fu ((rd x x_2 ((bs []), (0, false))).1)) fun r0 =>
   brB (notB r0)
    (some false)
    (brB (ltI (((rd x x_2 ((bs []), (0, false))).2).1) 0)
     (some false)
     (brB (ltI n (((rd x x_2 ((bs []), (0, false))).2).1))
      (some false)
      (brB (ltI 0 x_2)
       (chk (leI 0 (subI .i64 x_2 1)) <|
       chk (ltI (subI .i64 x_2 1) (ln l)) <|
       brB (notB (strLess ((rd l (subI .i64 x_2 1) ((bs []), (0, false))).1) ((rd x x_2 ((bs []), (0, false))).1)))
        (some false)
        (impl_marksRight_L2 fu fu1 l n x x_1 (addI .i64 x_2 1)))
       (impl_marksRight_L2 fu fu1 l n x x_1 (addI .i64 x_2 1))))))
   (some (leI (ln l) 100))) := by kernel_rfl
theorem impl_ropeTree.eq (s : ByteArray) (out : List T_siiii) (fu : Nat) : impl_ropeTree (fu + 1) s out =
  (optB (strings_Count fu s (bs [10])) fun r0 =>
  brB (leI (sz s) 64)
   (chk (ltI (mulZ (addZ (ln out) (ln ((s, ((-1), ((-1), ((sz s), r0)))) :: ([] : List (ByteArray × Int × Int × Int × Int))))) 48) 140737488355328) <|
   some ((catL out ((s, ((-1), ((-1), ((sz s), r0)))) :: ([] : List (ByteArray × Int × Int × Int × Int)))), ()))
   (impl_ropeTree_L7 fu fu s (sz s) r0 0 0 out)) := by kernel_rfl
theorem slices_Equal_RopeNode_RopeNode_L4.eq (s1 : List T_siiii) (s2 : List T_siiii) (x : Int) (x_1 : Int) (fu fu1 : Nat) : slices_Equal_RopeNode_RopeNode_L4 fu (fu1 + 1) s1 s2 x x_1 =
  (brB (ltI x_1 x)
   (chk (leI 0 x_1) <|
   chk (ltI x_1 (ln s1)) <|
   chk (leI 0 x_1) <|
   chk (ltI x_1 (ln s2)) <|
   brB (notB (andB (bytesEq ((rd s1 x_1 ((bs []), (0, (0, (0, 0))))).1) ((rd s2 x_1 ((bs []), (0, (0, (0, 0))))).1)) (andB (eqI (((rd s1 x_1 ((bs []), (0, (0, (0, 0))))).2).1) (((rd s2 x_1 ((bs []), (0, (0, (0, 0))))).2).1)) (andB (eqI ((((rd s1 x_1 ((bs []), (0, (0, (0, 0))))).2).2).1) ((((rd s2 x_1 ((bs []), (0, (0, (0, 0))))).2).2).1)) (andB (eqI (((((rd s1 x_1 ((bs []), (0, (0, (0, 0))))).2).2).2).1) (((((rd s2 x_1 ((bs []), (0, (0, (0, 0))))).2).2).2).1)) (andB (eqI (((((rd s1 x_1 ((bs []), (0, (0, (0, 0))))).2).2).2).2) (((((rd s2 x_1 ((bs []), (0, (0, (0, 0))))).2).2).2).2)) true))))))
    (some false)
    (slices_Equal_RopeNode_RopeNode_L4 fu fu1 s1 s2 x (addI .i64 x_1 1)))
   (some true)) := by kernel_rfl
theorem laws_eqRopeNodeS_L4.eq (a : List T_siiii) (b : List T_siiii) (i : Int) (fu fu1 : Nat) : laws_eqRopeNodeS_L4 fu (fu1 + 1) a b i =
  (brB (ltI i (ln a))
   (chk (leI 0 i) <|
   chk (ltI i (ln a)) <|
   chk (leI 0 i) <|
   chk (ltI i (ln b)) <|
   optB (laws_eqRopeNode fu ((rd a i ((bs []), (0, (0, (0, 0))))).1) (((rd a i ((bs []), (0, (0, (0, 0))))).2).1) ((((rd a i ((bs []), (0, (0, (0, 0))))).2).2).1) (((((rd a i ((bs []), (0, (0, (0, 0))))).2).2).2).1) (((((rd a i ((bs []), (0, (0, (0, 0))))).2).2).2).2) ((rd b i ((bs []), (0, (0, (0, 0))))).1) (((rd b i ((bs []), (0, (0, (0, 0))))).2).1) ((((rd b i ((bs []), (0, (0, (0, 0))))).2).2).1) (((((rd b i ((bs []), (0, (0, (0, 0))))).2).2).2).1) (((((rd b i ((bs []), (0, (0, (0, 0))))).2).2).2).2)) fun r0 =>
   brB (notB r0)
    (some false)
    (laws_eqRopeNodeS_L4 fu fu1 a b (addI .i64 i 1)))
   (some true)) := by kernel_rfl
theorem laws_eqMarkS_L4.eq (a : List T_sib) (b : List T_sib) (i : Int) (fu fu1 : Nat) : laws_eqMarkS_L4 fu (fu1 + 1) a b i =
  (brB (ltI i (ln a))
   (chk (leI 0 i) <|
   chk (ltI i (ln a)) <|
   chk (leI 0 i) <|
   chk (ltI i (ln b)) <|
   optB (laws_eqMark fu ((rd a i ((bs []), (0, false))).1) (((rd a i ((bs []), (0, false))).2).1) (((rd a i ((bs []), (0, false))).2).2) ((rd b i ((bs []), (0, false))).1) (((rd b i ((bs []), (0, false))).2).1) (((rd b i ((bs []), (0, false))).2).2)) fun r0 =>
   brB (notB r0)
    (some false)
    (laws_eqMarkS_L4 fu fu1 a b (addI .i64 i 1)))
   (some true)) := by kernel_rfl
theorem spec_l20Ends_L3.eq (t : ByteArray) (n : Int) (i : Int) (fu fu1 : Nat) : spec_l20Ends_L3 fu (fu1 + 1) t n i =
  (brB (ltI i (sz t))
   (chk (leI 0 i) <|
   chk (ltI i (sz t)) <|
   brB (eqI (bt t i) 10)
    (spec_l20Ends_L3 fu fu1 t (addI .i64 n 1) (addI .i64 i 1))
    (spec_l20Ends_L3 fu fu1 t n (addI .i64 i 1)))
   (some n)) := by kernel_rfl
theorem unicode_utf8_RuneCountInString.eq (s : ByteArray) (fu : Nat) : unicode_utf8_RuneCountInString (fu + 1) s =
  (none) := by kernel_rfl
theorem strings_Count_L6.eq (s : ByteArray) (substr : ByteArray) (n : Int) (fu fu1 : Nat) : strings_Count_L6 fu (fu1 + 1) s substr n =
  (optB (strings_Index fu s substr) fun r0 =>
  brB (eqI r0 (-1))
   (some n)
   (chk (leI 0 (addI .i64 r0 (sz substr))) <|
   chk (leI (addI .i64 r0 (sz substr)) (sz s)) <|
   strings_Count_L6 fu fu1 (subs s (addI .i64 r0 (sz substr)) (sz s)) substr (addI .i64 n 1))) := by kernel_rfl
theorem laws_szRopeEdit.eq (a : Int) (a_1 : Int) (a_2 : ByteArray) (left : Int) (fu : Nat) : laws_szRopeEdit (fu + 1) a a_1 a_2 left =
  (brB (ltI (subI .i64 left (sz a_2)) 0)
   (some (-1))
   (some (subI .i64 left (sz a_2)))) := by kernel_rfl
theorem laws_toRopeEdit.eq (a : Int) (a_1 : Int) (a_2 : ByteArray) (fu : Nat) : laws_toRopeEdit (fu + 1) a a_1 a_2 =
  (some (a, (a_1, a_2))) := by kernel_rfl
theorem spec_l20Edit_L4.eq (edits : List T_iis) (t : ByteArray) (i : Int) (x : Int) (marks : List T_sib) (fu fu1 : Nat) : spec_l20Edit_L4 fu (fu1 + 1) edits t i x marks =
  (brB (ltI i (ln edits))
   (chk (leI 0 i) <|
   chk (ltI i (ln edits)) <|
   optB (spec_l20Within fu t ((rd edits i (0, (0, (bs [])))).1) (((rd edits i (0, (0, (bs [])))).2).1)) fun r0 =>
   brB (notB r0)
    (some (5, (([] : List (ByteArray × Int × Int × Int × Int)), ([] : List (ByteArray × Int × Bool)))))
    (brB (ltI 65536 (addI .i64 (subI .i64 (sz t) (((rd edits i (0, (0, (bs [])))).2).1)) (sz (((rd edits i (0, (0, (bs [])))).2).2))))
     (some (8, (([] : List (ByteArray × Int × Int × Int × Int)), ([] : List (ByteArray × Int × Bool)))))
     (chk (leI 0 ((rd edits i (0, (0, (bs [])))).1)) <|
     chk (leI ((rd edits i (0, (0, (bs [])))).1) (sz t)) <|
     chk (leI (addZ (sz (subs t 0 ((rd edits i (0, (0, (bs [])))).1))) (sz (((rd edits i (0, (0, (bs [])))).2).2))) 9223372036854775807) <|
     chk (leI 0 (addI .i64 ((rd edits i (0, (0, (bs [])))).1) (((rd edits i (0, (0, (bs [])))).2).1))) <|
     chk (leI (addI .i64 ((rd edits i (0, (0, (bs [])))).1) (((rd edits i (0, (0, (bs [])))).2).1)) (sz t)) <|
     chk (leI (addZ (sz (catS (subs t 0 ((rd edits i (0, (0, (bs [])))).1)) (((rd edits i (0, (0, (bs [])))).2).2))) (sz (subs t (addI .i64 ((rd edits i (0, (0, (bs [])))).1) (((rd edits i (0, (0, (bs [])))).2).1)) (sz t)))) 9223372036854775807) <|
     spec_l20Edit_L13 fu fu1 fu edits (catS (catS (subs t 0 ((rd edits i (0, (0, (bs [])))).1)) (((rd edits i (0, (0, (bs [])))).2).2)) (subs t (addI .i64 ((rd edits i (0, (0, (bs [])))).1) (((rd edits i (0, (0, (bs [])))).2).1)) (sz t))) i 0 x marks ((rd edits i (0, (0, (bs [])))).1) (((rd edits i (0, (0, (bs [])))).2).1) (((rd edits i (0, (0, (bs [])))).2).2))))
   (optB (spec_l20Build fu t ([] : List (ByteArray × Int × Int × Int × Int))) fun r0 =>
   some (0, (r0.1, marks)))) := by kernel_rfl
theorem impl_EditRope_J12.eq (s : ByteArray) (x : List T_iis) (x_1 : Int) (x_2 : Int) (x_3 : Int) (marks : List T_sib) (e : Int) (e_1 : Int) (e_2 : ByteArray) (fu fu1 : Nat) : impl_EditRope_J12 fu fu1 s x x_1 x_2 x_3 marks e e_1 e_2 =
  (chk (leI 0 e) <|
  chk (leI e (sz s)) <|
  chk (leI (addZ (sz (subs s 0 e)) (sz e_2)) 9223372036854775807) <|
  chk (leI 0 (addI .i64 e e_1)) <|
  chk (leI (addI .i64 e e_1) (sz s)) <|
  chk (leI (addZ (sz (catS (subs s 0 e) e_2)) (sz (subs s (addI .i64 e e_1) (sz s)))) 9223372036854775807) <|
  optB (impl_long fu (catS (catS (subs s 0 e) e_2) (subs s (addI .i64 e e_1) (sz s)))) fun r0 =>
  brB r0
   (some (8, (([] : List (ByteArray × Int × Int × Int × Int)), ([] : List (ByteArray × Int × Bool)))))
   (optB (impl_move fu e e_1 (sz e_2) marks) fun r1 =>
   impl_EditRope_L7 fu fu1 (catS (catS (subs s 0 e) e_2) (subs s (addI .i64 e e_1) (sz s))) x x_1 (addI .i64 x_2 1) x_3 r1.1)) := by unfold impl_EditRope_J12; rw [joinAt_eq]; kernel_rfl
theorem impl_ropeOf'1.eq (s : ByteArray) (marks : List T_sib) (fu : Nat) : impl_ropeOf'1 (fu + 1) s marks =
  (brB (notB (bytesEq s (bs [])))
   (optB (impl_ropeTree fu s ([] : List (ByteArray × Int × Int × Int × Int))) fun r0 =>
   some ((r0.1, marks), ()))
   (some ((([] : List (ByteArray × Int × Int × Int × Int)), marks), ()))) := by kernel_rfl
theorem laws_eqRopeEdit.eq (a : Int) (a_1 : Int) (a_2 : ByteArray) (b : Int) (b_1 : Int) (b_2 : ByteArray) (fu : Nat) : laws_eqRopeEdit (fu + 1) a a_1 a_2 b b_1 b_2 =
  (brB (notB (eqI a b))
   (some false)
   (brB (notB (eqI a_1 b_1))
    (some false)
    (brB (notB (bytesEq a_2 b_2))
     (some false)
     (some true)))) := by kernel_rfl
end Go.Proofs.YtkghicadebeceaaDoor.RE
