/- What the functions compute: their equations, checked by the kernel. -/
import Derived.ProofKit
import Derived.Test.YtkghicadebeceaaDoorDRF
namespace Go.Proofs.YtkghicadebeceaaDoor.RF
open Go.Eng
set_option maxRecDepth 100000
set_option maxHeartbeats 4000000
theorem laws_FnExactRopeFault.eq (aR : List T_siiii) (aR_1 : List T_sib) (fu : Nat) : laws_FnExactRopeFault (fu + 1) aR aR_1 =
  (optB (laws_szRope fu aR aR_1 1048576) fun r0 =>
  brB (ltI r0 0)
   (some true)
   (optB (laws_toRope fu aR aR_1) fun r1 =>
   optB (spec_RopeFault fu r1.1 r1.2) fun r2 =>
   optB (laws_toRope fu aR aR_1) fun r3 =>
   optB (impl_RopeFault fu r3.1 r3.2) fun r4 =>
   brB (notB (eqI r4 r2))
    (some false)
    (optB (laws_toRope fu aR aR_1) fun r5 =>
    optB (laws_eqRope fu r3.1 r3.2 r5.1 r5.2) fun r6 =>
    brB (notB r6)
     (some false)
     (some true)))) := by kernel_rfl
theorem laws_FnExactRopeText.eq (aR : List T_siiii) (aR_1 : List T_sib) (fu : Nat) : laws_FnExactRopeText (fu + 1) aR aR_1 =
  (optB (laws_szRope fu aR aR_1 1048576) fun r0 =>
  brB (ltI r0 0)
   (some true)
   (optB (laws_toRope fu aR aR_1) fun r1 =>
   optB (spec_RopeText fu r1.1 r1.2) fun r2 =>
   optB (laws_toRope fu aR aR_1) fun r3 =>
   optB (impl_RopeText fu r3.1 r3.2) fun r4 =>
   brB (notB (bytesEq r4 r2))
    (some false)
    (optB (laws_toRope fu aR aR_1) fun r5 =>
    optB (laws_eqRope fu r3.1 r3.2 r5.1 r5.2) fun r6 =>
    brB (notB r6)
     (some false)
     (some true)))) := by kernel_rfl
theorem laws_FnExactLineAt.eq (aR : List T_siiii) (aR_1 : List T_sib) (aAt : Int) (fu : Nat) : laws_FnExactLineAt (fu + 1) aR aR_1 aAt =
  (optB (laws_szRope fu aR aR_1 1048576) fun r0 =>
  brB (ltI r0 0)
   (some true)
   (optB (laws_toRope fu aR aR_1) fun r1 =>
   optB (spec_LineAt fu r1.1 r1.2 aAt) fun r2 =>
   optB (laws_toRope fu aR aR_1) fun r3 =>
   optB (impl_LineAt fu r3.1 r3.2 aAt) fun r4 =>
   brB (notB (eqI r4 r2))
    (some false)
    (optB (laws_toRope fu aR aR_1) fun r5 =>
    optB (laws_eqRope fu r3.1 r3.2 r5.1 r5.2) fun r6 =>
    brB (notB r6)
     (some false)
     (some true)))) := by kernel_rfl
theorem laws_FnExactPiece.eq (aR : List T_siiii) (aR_1 : List T_sib) (aFrom : Int) (aTo : Int) (fu : Nat) : laws_FnExactPiece (fu + 1) aR aR_1 aFrom aTo =
  (optB (laws_szRope fu aR aR_1 1048576) fun r0 =>
  brB (ltI r0 0)
   (some true)
   (optB (laws_toRope fu aR aR_1) fun r1 =>
   optB (spec_Piece fu r1.1 r1.2 aFrom aTo) fun r2 =>
   optB (laws_toRope fu aR aR_1) fun r3 =>
   optB (impl_Piece fu r3.1 r3.2 aFrom aTo) fun r4 =>
   brB (notB (bytesEq r4 r2))
    (some false)
    (optB (laws_toRope fu aR aR_1) fun r5 =>
    optB (laws_eqRope fu r3.1 r3.2 r5.1 r5.2) fun r6 =>
    brB (notB r6)
     (some false)
     (some true)))) := by kernel_rfl
theorem laws_FnExactPlaceOfLine.eq (aR : List T_siiii) (aR_1 : List T_sib) (aLine : Int) (fu : Nat) : laws_FnExactPlaceOfLine (fu + 1) aR aR_1 aLine =
  (optB (laws_szRope fu aR aR_1 1048576) fun r0 =>
  brB (ltI r0 0)
   (some true)
   (optB (laws_toRope fu aR aR_1) fun r1 =>
   optB (spec_PlaceOfLine fu r1.1 r1.2 aLine) fun r2 =>
   optB (laws_toRope fu aR aR_1) fun r3 =>
   optB (impl_PlaceOfLine fu r3.1 r3.2 aLine) fun r4 =>
   brB (notB (eqI r4 r2))
    (some false)
    (optB (laws_toRope fu aR aR_1) fun r5 =>
    optB (laws_eqRope fu r3.1 r3.2 r5.1 r5.2) fun r6 =>
    brB (notB r6)
     (some false)
     (some true)))) := by kernel_rfl
theorem laws_FnRope.eq (code : List T_y) (more : List T_y) (fu : Nat) : laws_FnRope (fu + 1) code more =
  (brB (ltI 1048576 (ln code))
   (some true)
   (brB (ltI 1048576 (ln more))
    (some true)
    (optB (spec_DrawRopeOf fu code) fun r0 =>
    optB (impl_RopeOf fu r0) fun r1 =>
    optB (spec_RopeOf fu r0) fun r2 =>
    brB (notB (eqI (ln r1.1) (ln r2.1)))
     (some false)
     (brB (notB (eqI (ln r1.2) 0))
      (some false)
      (laws_FnRope_L9 fu fu more r0 0 r1.1 r1.2 r2.1 r2.2))))) := by kernel_rfl
theorem laws_szRope.eq (a : List T_siiii) (a_1 : List T_sib) (left : Int) (fu : Nat) : laws_szRope (fu + 1) a a_1 left =
  (optB (laws_szRopeNodeS fu a left) fun r0 =>
  brB (ltI r0 0)
   (some (-1))
   (optB (laws_szMarkS fu a_1 r0) fun r1 =>
   brB (ltI r1 0)
    (some (-1))
    (some r1))) := by kernel_rfl
theorem laws_toRope.eq (a : List T_siiii) (a_1 : List T_sib) (fu : Nat) : laws_toRope (fu + 1) a a_1 =
  (optB (laws_toRopeNodeS fu a) fun r0 =>
  optB (laws_toMarkS fu a_1) fun r1 =>
  some (r0, r1)) := by kernel_rfl
theorem spec_RopeFault.eq (r : List T_siiii) (r_1 : List T_sib) (fu : Nat) : spec_RopeFault (fu + 1) r r_1 =
  (optB (spec_l20Text fu r) fun r0 =>
  brB (ltI 65536 (sz r0))
   (some 1)
   (brB (ltI 100 (ln r_1))
    (some 1)
    (optB (spec_l20Build fu r0 ([] : List (ByteArray × Int × Int × Int × Int))) fun r1 =>
    brB (notB (eqI (ln r1.1) (ln r)))
     (some 1)
     (spec_RopeFault_L8 fu fu r0 0 r r_1 r1.1)))) := by kernel_rfl
theorem impl_RopeFault.eq (r : List T_siiii) (r_1 : List T_sib) (fu : Nat) : impl_RopeFault (fu + 1) r r_1 =
  (optB (impl_ropeText fu r r_1) fun r0 =>
  optB (impl_long fu r0) fun r1 =>
  brB r1
   (some 1)
   (optB (impl_marksRight fu r_1 (sz r0)) fun r2 =>
   brB (notB r2)
    (some 1)
    (optB (impl_ropeOf fu r0 ([] : List (ByteArray × Int × Bool))) fun r3 =>
    optB (slices_Equal_RopeNode_RopeNode fu r3.1.1 r) fun r4 =>
    brB (notB r4)
     (some 1)
     (some 0)))) := by kernel_rfl
theorem laws_eqRope.eq (a : List T_siiii) (a_1 : List T_sib) (b : List T_siiii) (b_1 : List T_sib) (fu : Nat) : laws_eqRope (fu + 1) a a_1 b b_1 =
  (optB (laws_eqRopeNodeS fu a b) fun r0 =>
  brB (notB r0)
   (some false)
   (optB (laws_eqMarkS fu a_1 b_1) fun r1 =>
   brB (notB r1)
    (some false)
    (some true))) := by kernel_rfl
theorem spec_RopeText.eq (r : List T_siiii) (r_1 : List T_sib) (fu : Nat) : spec_RopeText (fu + 1) r r_1 =
  (optB (spec_RopeFault fu r r_1) fun r0 =>
  brB (notB (eqI r0 0))
   (some (bs []))
   (optB (spec_l20Text fu r) fun r1 =>
   some r1)) := by kernel_rfl
theorem impl_RopeText.eq (r : List T_siiii) (r_1 : List T_sib) (fu : Nat) : impl_RopeText (fu + 1) r r_1 =
  (optB (impl_RopeFault fu r r_1) fun r0 =>
  brB (notB (eqI r0 0))
   (some (bs []))
   (optB (impl_ropeText fu r r_1) fun r1 =>
   some r1)) := by kernel_rfl
theorem spec_LineAt.eq (r : List T_siiii) (r_1 : List T_sib) (at' : Int) (fu : Nat) : spec_LineAt (fu + 1) r r_1 at' =
  (optB (spec_RopeText fu r r_1) fun r0 =>
  optB (spec_RopeFault fu r r_1) fun r1 =>
  brB (notB (eqI r1 0))
   (some (-1))
   (brB (ltI at' 0)
    (some (-1))
    (brB (ltI (sz r0) at')
     (some (-1))
     (chk (leI 0 at') <|
     chk (leI at' (sz r0)) <|
     optB (spec_l20Ends fu (subs r0 0 at')) fun r2 =>
     some r2)))) := by kernel_rfl
theorem impl_LineAt.eq (r : List T_siiii) (r_1 : List T_sib) (at' : Int) (fu : Nat) : impl_LineAt (fu + 1) r r_1 at' =
  (optB (impl_RopeFault fu r r_1) fun r0 =>
  brB (notB (eqI r0 0))
   (some (-1))
   (optB (impl_ropeText fu r r_1) fun r1 =>
   brB (ltI at' 0)
    (some (-1))
    (brB (ltI (sz r1) at')
     (some (-1))
     (chk (leI 0 at') <|
     chk (leI at' (sz r1)) <|
     optB (strings_Count fu (subs r1 0 at') (bs [10])) fun r2 =>
     some r2)))) := by kernel_rfl
theorem spec_Piece.eq (r : List T_siiii) (r_1 : List T_sib) (from' : Int) (to : Int) (fu : Nat) : spec_Piece (fu + 1) r r_1 from' to =
  (optB (spec_RopeText fu r r_1) fun r0 =>
  brB (ltI from' 0)
   (some (bs []))
   (brB (ltI to from')
    (some (bs []))
    (brB (ltI (sz r0) to)
     (some (bs []))
     (chk (leI 0 from') <|
     chk (leI from' to) <|
     chk (leI to (sz r0)) <|
     some (subs r0 from' to))))) := by kernel_rfl
theorem impl_Piece.eq (r : List T_siiii) (r_1 : List T_sib) (from' : Int) (to : Int) (fu : Nat) : impl_Piece (fu + 1) r r_1 from' to =
  (optB (impl_RopeText fu r r_1) fun r0 =>
  brB (ltI from' 0)
   (some (bs []))
   (brB (ltI to from')
    (some (bs []))
    (brB (ltI (sz r0) to)
     (some (bs []))
     (chk (leI 0 from') <|
     chk (leI from' to) <|
     chk (leI to (sz r0)) <|
     some (subs r0 from' to))))) := by kernel_rfl
theorem spec_PlaceOfLine.eq (r : List T_siiii) (r_1 : List T_sib) (line : Int) (fu : Nat) : spec_PlaceOfLine (fu + 1) r r_1 line =
  (optB (spec_RopeFault fu r r_1) fun r0 =>
  brB (notB (eqI r0 0))
   (some (-1))
   (brB (ltI line 0)
    (some (-1))
    (optB (spec_l20Text fu r) fun r1 =>
    brB (eqI line 0)
     (some 0)
     (spec_PlaceOfLine_L7 fu fu line r1 0)))) := by kernel_rfl
theorem impl_PlaceOfLine.eq (r : List T_siiii) (r_1 : List T_sib) (line : Int) (fu : Nat) : impl_PlaceOfLine (fu + 1) r r_1 line =
  (optB (impl_RopeFault fu r r_1) fun r0 =>
  brB (notB (eqI r0 0))
   (some (-1))
   (optB (impl_ropeText fu r r_1) fun r1 =>
   brB (eqI line 0)
    (some 0)
    (impl_PlaceOfLine_L7 fu fu line r1 (sz r1) 0))) := by kernel_rfl
theorem spec_DrawRopeOf.eq (code : List T_y) (fu : Nat) : spec_DrawRopeOf (fu + 1) code =
  (optB (spec_l01Source fu code) fun r0 =>
  optB (spec_l01Src_ropeText fu r0.1 r0.2.1 r0.2.2.1 r0.2.2.2) fun r1 =>
  some r1.1) := by kernel_rfl
theorem impl_RopeOf.eq (text : ByteArray) (fu : Nat) : impl_RopeOf (fu + 1) text =
  (optB (impl_long fu text) fun r0 =>
  brB r0
   (some (([] : List (ByteArray × Int × Int × Int × Int)), ([] : List (ByteArray × Int × Bool))))
   (optB (impl_ropeOf fu text ([] : List (ByteArray × Int × Bool))) fun r1 =>
   some (r1.1.1, r1.1.2))) := by kernel_rfl
theorem spec_RopeOf.eq (text : ByteArray) (fu : Nat) : spec_RopeOf (fu + 1) text =
  (brB (ltI 65536 (sz text))
   (some (([] : List (ByteArray × Int × Int × Int × Int)), ([] : List (ByteArray × Int × Bool))))
   (optB (spec_l20Build fu text ([] : List (ByteArray × Int × Int × Int × Int))) fun r0 =>
   some (r0.1, ([] : List (ByteArray × Int × Bool))))) := by kernel_rfl
theorem laws_FnRope_L9.eq (more : List T_y) (t : ByteArray) (i : Int) (x : List T_siiii) (x_1 : List T_sib) (x_2 : List T_siiii) (x_3 : List T_sib) (fu fu1 : Nat) : laws_FnRope_L9 fu (fu1 + 1) more t i x x_1 x_2 x_3 =
  (brB (ltI i (ln x))
   (chk (leI 0 i) <|
   chk (ltI i (ln x)) <|
   chk (leI 0 i) <|
   chk (ltI i (ln x_2)) <|
   brB (notB (andB (bytesEq ((rd x i ((bs []), (0, (0, (0, 0))))).1) ((rd x_2 i ((bs []), (0, (0, (0, 0))))).1)) (andB (eqI (((rd x i ((bs []), (0, (0, (0, 0))))).2).1) (((rd x_2 i ((bs []), (0, (0, (0, 0))))).2).1)) (andB (eqI ((((rd x i ((bs []), (0, (0, (0, 0))))).2).2).1) ((((rd x_2 i ((bs []), (0, (0, (0, 0))))).2).2).1)) (andB (eqI (((((rd x i ((bs []), (0, (0, (0, 0))))).2).2).2).1) (((((rd x_2 i ((bs []), (0, (0, (0, 0))))).2).2).2).1)) (andB (eqI (((((rd x i ((bs []), (0, (0, (0, 0))))).2).2).2).2) (((((rd x_2 i ((bs []), (0, (0, (0, 0))))).2).2).2).2)) true))))))
    (some false)
    (laws_FnRope_L9 fu fu1 more t (addI .i64 i 1) x x_1 x_2 x_3))
   (brB (ltI 65536 (sz t))
    (some (eqI (ln x) 0))
    (optB (laws_lwAt fu more 0 256) fun r0 =>
    optB (laws_lwAt fu more 1 256) fun r1 =>
    brB (ltI (sz t) (addI .i64 r0 r1))
     (brB (ltI (sz t) r0)
      (laws_FnRope_L23 fu fu t (sz t) (sz t) 0 0 x x_1)
      (laws_FnRope_L23 fu fu t r0 (sz t) 0 0 x x_1))
     (brB (ltI (addI .i64 r0 r1) r0)
      (laws_FnRope_L23 fu fu t (addI .i64 r0 r1) (addI .i64 r0 r1) 0 0 x x_1)
      (laws_FnRope_L23 fu fu t r0 (addI .i64 r0 r1) 0 0 x x_1))))) := by kernel_rfl
theorem laws_szRopeNodeS.eq (a : List T_siiii) (left : Int) (fu : Nat) : laws_szRopeNodeS (fu + 1) a left =
  (brB (ltI (subI .i64 left (ln a)) 0)
   (some (-1))
   (laws_szRopeNodeS_L5 fu fu a (subI .i64 left (ln a)) 0)) := by kernel_rfl
theorem laws_szMarkS.eq (a : List T_sib) (left : Int) (fu : Nat) : laws_szMarkS (fu + 1) a left =
  (brB (ltI (subI .i64 left (ln a)) 0)
   (some (-1))
   (laws_szMarkS_L5 fu fu a (subI .i64 left (ln a)) 0)) := by kernel_rfl
theorem laws_toRopeNodeS.eq (a : List T_siiii) (fu : Nat) : laws_toRopeNodeS (fu + 1) a =
  (chk (leI 0 (ln a)) <|
  chk (leI (ln a) (ln a)) <|
  chk (ltI (mulZ (ln a) 48) 140737488355328) <|
  laws_toRopeNodeS_L3 fu fu a 0 (repI (ln a) ((bs []), (0, (0, (0, 0)))))) := by kernel_rfl
theorem laws_toMarkS.eq (a : List T_sib) (fu : Nat) : laws_toMarkS (fu + 1) a =
  (chk (leI 0 (ln a)) <|
  chk (leI (ln a) (ln a)) <|
  chk (ltI (mulZ (ln a) 32) 140737488355328) <|
  laws_toMarkS_L3 fu fu a 0 (repI (ln a) ((bs []), (0, false)))) := by kernel_rfl
theorem spec_l20Text.eq (l : List T_siiii) (fu : Nat) : spec_l20Text (fu + 1) l =
  (spec_l20Text_L3 fu fu l 0 ([] : List Int)) := by kernel_rfl
theorem spec_l20Build.eq (t : ByteArray) (l : List T_siiii) (fu : Nat) : spec_l20Build (fu + 1) t l =
  (brB (bytesEq t (bs []))
   (some (l, ()))
   (optB (spec_l20Ends fu t) fun r0 =>
   brB (leI (sz t) 64)
    (chk (ltI (mulZ (addZ (ln l) (ln ((t, ((-1), ((-1), ((sz t), r0)))) :: ([] : List (ByteArray × Int × Int × Int × Int))))) 48) 140737488355328) <|
    some ((catL l ((t, ((-1), ((-1), ((sz t), r0)))) :: ([] : List (ByteArray × Int × Int × Int × Int)))), ()))
    (optB (spec_l20Cut fu t) fun r1 =>
    chk (ltI (mulZ (addZ (ln l) (ln (((bs []), ((-1), ((-1), ((sz t), r0)))) :: ([] : List (ByteArray × Int × Int × Int × Int))))) 48) 140737488355328) <|
    chk (leI 0 (ln l)) <|
    chk (ltI (ln l) (ln (catL l (((bs []), ((-1), ((-1), ((sz t), r0)))) :: ([] : List (ByteArray × Int × Int × Int × Int)))))) <|
    chk (leI 0 r1) <|
    chk (leI r1 (sz t)) <|
    optB (spec_l20Build fu (subs t 0 r1) (setI (catL l (((bs []), ((-1), ((-1), ((sz t), r0)))) :: ([] : List (ByteArray × Int × Int × Int × Int)))) (ln l) ((rd (catL l (((bs []), ((-1), ((-1), ((sz t), r0)))) :: ([] : List (ByteArray × Int × Int × Int × Int)))) (ln l) ((bs []), (0, (0, (0, 0))))).1, ((ln (catL l (((bs []), ((-1), ((-1), ((sz t), r0)))) :: ([] : List (ByteArray × Int × Int × Int × Int))))), ((rd (catL l (((bs []), ((-1), ((-1), ((sz t), r0)))) :: ([] : List (ByteArray × Int × Int × Int × Int)))) (ln l) ((bs []), (0, (0, (0, 0))))).2).2)))) fun r2 =>
    chk (leI 0 (ln l)) <|
    chk (ltI (ln l) (ln r2.1)) <|
    chk (leI 0 r1) <|
    chk (leI r1 (sz t)) <|
    optB (spec_l20Build'1 fu (subs t r1 (sz t)) (setI r2.1 (ln l) ((rd r2.1 (ln l) ((bs []), (0, (0, (0, 0))))).1, (((rd r2.1 (ln l) ((bs []), (0, (0, (0, 0))))).2).1, ((ln r2.1), (((rd r2.1 (ln l) ((bs []), (0, (0, (0, 0))))).2).2).2))))) fun r3 =>
    some (r3.1, ())))) := by kernel_rfl
theorem spec_RopeFault_L8.eq (t : ByteArray) (i : Int) (r : List T_siiii) (r_1 : List T_sib) (own : List T_siiii) (fu fu1 : Nat) : spec_RopeFault_L8 fu (fu1 + 1) t i r r_1 own =
  (brB (ltI i (ln own))
   (chk (leI 0 i) <|
   chk (ltI i (ln own)) <|
   chk (leI 0 i) <|
   chk (ltI i (ln r)) <|
   brB (notB (andB (bytesEq ((rd own i ((bs []), (0, (0, (0, 0))))).1) ((rd r i ((bs []), (0, (0, (0, 0))))).1)) (andB (eqI (((rd own i ((bs []), (0, (0, (0, 0))))).2).1) (((rd r i ((bs []), (0, (0, (0, 0))))).2).1)) (andB (eqI ((((rd own i ((bs []), (0, (0, (0, 0))))).2).2).1) ((((rd r i ((bs []), (0, (0, (0, 0))))).2).2).1)) (andB (eqI (((((rd own i ((bs []), (0, (0, (0, 0))))).2).2).2).1) (((((rd r i ((bs []), (0, (0, (0, 0))))).2).2).2).1)) (andB (eqI (((((rd own i ((bs []), (0, (0, (0, 0))))).2).2).2).2) (((((rd r i ((bs []), (0, (0, (0, 0))))).2).2).2).2)) true))))))
    (some 1)
    (spec_RopeFault_L8 fu fu1 t (addI .i64 i 1) r r_1 own))
   (spec_RopeFault_L13 fu fu t 0 r r_1)) := by kernel_rfl
theorem impl_ropeText.eq (r : List T_siiii) (r_1 : List T_sib) (fu : Nat) : impl_ropeText (fu + 1) r r_1 =
  (impl_ropeText_L3 fu fu r (ln r) 0 (bs [])) := by kernel_rfl
theorem impl_long.eq (s : ByteArray) (fu : Nat) : impl_long (fu + 1) s =
  (some (ltI 65536 (sz s))) := by kernel_rfl
theorem impl_marksRight.eq (l : List T_sib) (n : Int) (fu : Nat) : impl_marksRight (fu + 1) l n =
  (impl_marksRight_L2 fu fu l n l (ln l) 0) := by kernel_rfl
theorem impl_ropeOf.eq (s : ByteArray) (marks : List T_sib) (fu : Nat) : impl_ropeOf (fu + 1) s marks =
  (brB (notB (bytesEq s (bs [])))
   (optB (impl_ropeTree fu s ([] : List (ByteArray × Int × Int × Int × Int))) fun r0 =>
   some ((r0.1, marks), ()))
   (some ((([] : List (ByteArray × Int × Int × Int × Int)), marks), ()))) := by kernel_rfl
theorem slices_Equal_RopeNode_RopeNode.eq (s1 : List T_siiii) (s2 : List T_siiii) (fu : Nat) : slices_Equal_RopeNode_RopeNode (fu + 1) s1 s2 =
  (brB (notB (eqI (ln s1) (ln s2)))
   (some false)
   (slices_Equal_RopeNode_RopeNode_L4 fu fu s1 s2 (ln s1) 0)) := by kernel_rfl
theorem laws_eqRopeNodeS.eq (a : List T_siiii) (b : List T_siiii) (fu : Nat) : laws_eqRopeNodeS (fu + 1) a b =
  (brB (notB (eqI (ln a) (ln b)))
   (some false)
   (laws_eqRopeNodeS_L4 fu fu a b 0)) := by kernel_rfl
theorem laws_eqMarkS.eq (a : List T_sib) (b : List T_sib) (fu : Nat) : laws_eqMarkS (fu + 1) a b =
  (brB (notB (eqI (ln a) (ln b)))
   (some false)
   (laws_eqMarkS_L4 fu fu a b 0)) := by kernel_rfl
theorem spec_l20Ends.eq (t : ByteArray) (fu : Nat) : spec_l20Ends (fu + 1) t =
  (spec_l20Ends_L3 fu fu t 0 0) := by kernel_rfl
theorem strings_Count.eq (s : ByteArray) (substr : ByteArray) (fu : Nat) : strings_Count (fu + 1) s substr =
  (brB (eqI (sz substr) 0)
   (optB (unicode_utf8_RuneCountInString fu s) fun r0 =>
   some (addI .i64 r0 1))
   (brB (eqI (sz substr) 1)
    (chk (leI 0 0) <|
    chk (ltI 0 (sz substr)) <|
    optB (internal_bytealg_CountString fu s (bt substr 0)) fun r0 =>
    some r0)
    (strings_Count_L6 fu fu s substr 0))) := by kernel_rfl
theorem spec_PlaceOfLine_L7.eq (line : Int) (t : ByteArray) (i : Int) (fu fu1 : Nat) : spec_PlaceOfLine_L7 fu (fu1 + 1) line t i =
  (brB (ltI i (sz t))
   (chk (leI 0 i) <|
   chk (ltI i (sz t)) <|
   brB (eqI (bt t i) 10)
    (brB (eqI (subI .i64 line 1) 0)
     (some (addI .i64 i 1))
     (spec_PlaceOfLine_L7 fu fu1 (subI .i64 line 1) t (addI .i64 i 1)))
    (spec_PlaceOfLine_L7 fu fu1 line t (addI .i64 i 1)))
   (some (-1))) := by kernel_rfl
theorem impl_PlaceOfLine_L7.eq (line : Int) (s : ByteArray) (x : Int) (x_1 : Int) (fu fu1 : Nat) : impl_PlaceOfLine_L7 fu (fu1 + 1) line s x x_1 =
  (brB (ltI x_1 x)
   (chk (leI 0 x_1) <|
   chk (ltI x_1 (sz s)) <|
   brB (eqI (bt s x_1) 10)
    (brB (eqI (subI .i64 line 1) 0)
     (some (addI .i64 x_1 1))
     (impl_PlaceOfLine_L7 fu fu1 (subI .i64 line 1) s x (addI .i64 x_1 1)))
    (impl_PlaceOfLine_L7 fu fu1 line s x (addI .i64 x_1 1)))
   (some (-1))) := by kernel_rfl
theorem spec_l01Source.eq (code : List T_y) (fu : Nat) : spec_l01Source (fu + 1) code =
  (spec_l01Source_L3 fu fu code 0 code 0 88172645463325252 0) := by kernel_rfl
theorem spec_l01Src_ropeText.eq (s : List T_y) (s_1 : Int) (s_2 : Int) (s_3 : Int) (fu : Nat) : spec_l01Src_ropeText (fu + 1) s s_1 s_2 s_3 =
  (optB (spec_l01Src_n fu (addI .i64 6 s_3) s s_1 s_2 s_3) fun r0 =>
  spec_l01Src_ropeText_L3 fu fu (bs []) r0.1 r0.2.1 r0.2.2.1 r0.2.2.2.1 r0.2.2.2.2) := by kernel_rfl
theorem laws_lwAt.eq (code : List T_y) (at' : Int) (most : Int) (fu : Nat) : laws_lwAt (fu + 1) code at' most =
  (brB (leI most 1)
   (some 0)
   (brB (eqI (ln code) 0)
    (some 0)
    (chk (notB (eqI (ln code) 0)) <|
    chk (leI 0 (remI at' (ln code))) <|
    chk (ltI (remI at' (ln code)) (ln code)) <|
    chk (notB (eqI most 0)) <|
    some (remI (wrI .i64 (rd code (remI at' (ln code)) 0)) most)))) := by kernel_rfl
theorem laws_FnRope_L23.eq (t : ByteArray) (a : Int) (b : Int) (ends : Int) (i : Int) (x : List T_siiii) (x_1 : List T_sib) (fu fu1 : Nat) : laws_FnRope_L23 fu (fu1 + 1) t a b ends i x x_1 =
  (brB (ltI i a)
   (chk (leI 0 i) <|
   chk (ltI i (sz t)) <|
   brB (eqI (bt t i) 10)
    (laws_FnRope_L23 fu fu1 t a b (addI .i64 ends 1) (addI .i64 i 1) x x_1)
    (laws_FnRope_L23 fu fu1 t a b ends (addI .i64 i 1) x x_1))
   (optB (impl_LineAt fu x x_1 a) fun r0 =>
   optB (impl_PlaceOfLine fu x x_1 r0) fun r1 =>
   optB (impl_RopeFault fu x x_1) fun r2 =>
   brB (eqI r2 0)
    (optB (impl_RopeText fu x x_1) fun r3 =>
    brB (bytesEq r3 t)
     (optB (impl_Piece fu x x_1 a b) fun r4 =>
     chk (leI 0 a) <|
     chk (leI a b) <|
     chk (leI b (sz t)) <|
     brB (bytesEq r4 (subs t a b))
      (brB (eqI r0 ends)
       (brB (leI 0 r1)
        (brB (leI r1 a)
         (optB (impl_LineAt fu x x_1 r1) fun r5 =>
         some (eqI r5 r0))
         (some false))
        (some false))
       (some false))
      (some false))
     (some false))
    (some false))) := by kernel_rfl
theorem laws_szRopeNodeS_L5.eq (a : List T_siiii) (left : Int) (i : Int) (fu fu1 : Nat) : laws_szRopeNodeS_L5 fu (fu1 + 1) a left i =
  (brB (ltI i (ln a))
   (chk (leI 0 i) <|
   chk (ltI i (ln a)) <|
   optB (laws_szRopeNode fu ((rd a i ((bs []), (0, (0, (0, 0))))).1) (((rd a i ((bs []), (0, (0, (0, 0))))).2).1) ((((rd a i ((bs []), (0, (0, (0, 0))))).2).2).1) (((((rd a i ((bs []), (0, (0, (0, 0))))).2).2).2).1) (((((rd a i ((bs []), (0, (0, (0, 0))))).2).2).2).2) left) fun r0 =>
   brB (ltI r0 0)
    (some (-1))
    (laws_szRopeNodeS_L5 fu fu1 a r0 (addI .i64 i 1)))
   (some left)) := by kernel_rfl
theorem laws_szMarkS_L5.eq (a : List T_sib) (left : Int) (i : Int) (fu fu1 : Nat) : laws_szMarkS_L5 fu (fu1 + 1) a left i =
  (brB (ltI i (ln a))
   (chk (leI 0 i) <|
   chk (ltI i (ln a)) <|
   optB (laws_szMark fu ((rd a i ((bs []), (0, false))).1) (((rd a i ((bs []), (0, false))).2).1) (((rd a i ((bs []), (0, false))).2).2) left) fun r0 =>
   brB (ltI r0 0)
    (some (-1))
    (laws_szMarkS_L5 fu fu1 a r0 (addI .i64 i 1)))
   (some left)) := by kernel_rfl
theorem laws_toRopeNodeS_L3.eq (a : List T_siiii) (i : Int) (out : List T_siiii) (fu fu1 : Nat) : laws_toRopeNodeS_L3 fu (fu1 + 1) a i out =
  (brB (ltI i (ln a))
   (chk (leI 0 i) <|
   chk (ltI i (ln a)) <|
   optB (laws_toRopeNode fu ((rd a i ((bs []), (0, (0, (0, 0))))).1) (((rd a i ((bs []), (0, (0, (0, 0))))).2).1) ((((rd a i ((bs []), (0, (0, (0, 0))))).2).2).1) (((((rd a i ((bs []), (0, (0, (0, 0))))).2).2).2).1) (((((rd a i ((bs []), (0, (0, (0, 0))))).2).2).2).2)) fun r0 =>
   chk (leI 0 i) <|
   chk (ltI i (ln out)) <|
   laws_toRopeNodeS_L3 fu fu1 a (addI .i64 i 1) (setI out i (r0.1, (r0.2.1, (r0.2.2.1, (r0.2.2.2.1, r0.2.2.2.2))))))
   (some out)) := by kernel_rfl
theorem laws_toMarkS_L3.eq (a : List T_sib) (i : Int) (out : List T_sib) (fu fu1 : Nat) : laws_toMarkS_L3 fu (fu1 + 1) a i out =
  (brB (ltI i (ln a))
   (chk (leI 0 i) <|
   chk (ltI i (ln a)) <|
   optB (laws_toMark fu ((rd a i ((bs []), (0, false))).1) (((rd a i ((bs []), (0, false))).2).1) (((rd a i ((bs []), (0, false))).2).2)) fun r0 =>
   chk (leI 0 i) <|
   chk (ltI i (ln out)) <|
   laws_toMarkS_L3 fu fu1 a (addI .i64 i 1) (setI out i (r0.1, (r0.2.1, r0.2.2))))
   (some out)) := by kernel_rfl
theorem spec_l20Text_L3.eq (l : List T_siiii) (i : Int) (out : List T_y) (fu fu1 : Nat) : spec_l20Text_L3 fu (fu1 + 1) l i out =
  (brB (ltI i (ln l))
   (chk (leI 0 i) <|
   chk (ltI i (ln l)) <|
   chk (ltI (mulZ (addZ (ln out) (ln (numsOf ((rd l i ((bs []), (0, (0, (0, 0))))).1)))) 1) 140737488355328) <|
   spec_l20Text_L3 fu fu1 l (addI .i64 i 1) (catL out (numsOf ((rd l i ((bs []), (0, (0, (0, 0))))).1))))
   (some (bytesOf out))) := by kernel_rfl
theorem spec_l20Cut.eq (t : ByteArray) (fu : Nat) : spec_l20Cut (fu + 1) t =
  (chk (notB (eqI 2 0)) <|
  spec_l20Cut_L4 fu fu t (quoI .i64 (addI .i64 (sz t) 1) 2) 0 0) := by kernel_rfl
theorem spec_l20Build'1.eq (t : ByteArray) (l : List T_siiii) (fu : Nat) : spec_l20Build'1 (fu + 1) t l =
  (brB (bytesEq t (bs []))
   (some (l, ()))
   (optB (spec_l20Ends fu t) fun r0 =>
   brB (leI (sz t) 64)
    (chk (ltI (mulZ (addZ (ln l) (ln ((t, ((-1), ((-1), ((sz t), r0)))) :: ([] : List (ByteArray × Int × Int × Int × Int))))) 48) 140737488355328) <|
    some ((catL l ((t, ((-1), ((-1), ((sz t), r0)))) :: ([] : List (ByteArray × Int × Int × Int × Int)))), ()))
    (optB (spec_l20Cut fu t) fun r1 =>
    chk (ltI (mulZ (addZ (ln l) (ln (((bs []), ((-1), ((-1), ((sz t), r0)))) :: ([] : List (ByteArray × Int × Int × Int × Int))))) 48) 140737488355328) <|
    chk (leI 0 (ln l)) <|
    chk (ltI (ln l) (ln (catL l (((bs []), ((-1), ((-1), ((sz t), r0)))) :: ([] : List (ByteArray × Int × Int × Int × Int)))))) <|
    chk (leI 0 r1) <|
    chk (leI r1 (sz t)) <|
    optB (spec_l20Build'1 fu (subs t 0 r1) (setI (catL l (((bs []), ((-1), ((-1), ((sz t), r0)))) :: ([] : List (ByteArray × Int × Int × Int × Int)))) (ln l) ((rd (catL l (((bs []), ((-1), ((-1), ((sz t), r0)))) :: ([] : List (ByteArray × Int × Int × Int × Int)))) (ln l) ((bs []), (0, (0, (0, 0))))).1, ((ln (catL l (((bs []), ((-1), ((-1), ((sz t), r0)))) :: ([] : List (ByteArray × Int × Int × Int × Int))))), ((rd (catL l (((bs []), ((-1), ((-1), ((sz t), r0)))) :: ([] : List (ByteArray × Int × Int × Int × Int)))) (ln l) ((bs []), (0, (0, (0, 0))))).2).2)))) fun r2 =>
    chk (leI 0 (ln l)) <|
    chk (ltI (ln l) (ln r2.1)) <|
    chk (leI 0 r1) <|
    chk (leI r1 (sz t)) <|
    optB (spec_l20Build'1 fu (subs t r1 (sz t)) (setI r2.1 (ln l) ((rd r2.1 (ln l) ((bs []), (0, (0, (0, 0))))).1, (((rd r2.1 (ln l) ((bs []), (0, (0, (0, 0))))).2).1, ((ln r2.1), (((rd r2.1 (ln l) ((bs []), (0, (0, (0, 0))))).2).2).2))))) fun r3 =>
    some (r3.1, ())))) := by kernel_rfl
theorem spec_RopeFault_L13.eq (t : ByteArray) (i : Int) (r : List T_siiii) (r_1 : List T_sib) (fu fu1 : Nat) : spec_RopeFault_L13 fu (fu1 + 1) t i r r_1 =
  (brB (ltI i (ln r_1))
   (chk (leI 0 i) <|
   chk (ltI i (ln r_1)) <|
   optB (spec_l20Mark fu ((rd r_1 i ((bs []), (0, false))).1) (((rd r_1 i ((bs []), (0, false))).2).1) (((rd r_1 i ((bs []), (0, false))).2).2) (sz t)) fun r0 =>
   brB (notB r0)
    (some 1)
    (brB (ltI 0 i)
     (chk (leI 0 (subI .i64 i 1)) <|
     chk (ltI (subI .i64 i 1) (ln r_1)) <|
     chk (leI 0 i) <|
     chk (ltI i (ln r_1)) <|
     brB (notB (strLess ((rd r_1 (subI .i64 i 1) ((bs []), (0, false))).1) ((rd r_1 i ((bs []), (0, false))).1)))
      (some 1)
      (spec_RopeFault_L13 fu fu1 t (addI .i64 i 1) r r_1))
     (spec_RopeFault_L13 fu fu1 t (addI .i64 i 1) r r_1)))
   (some 0)) := by kernel_rfl
theorem impl_ropeText_L3.eq (x : List T_siiii) (x_1 : Int) (x_2 : Int) (b : ByteArray) (fu fu1 : Nat) : impl_ropeText_L3 fu (fu1 + 1) x x_1 x_2 b =
  (brB (ltI x_2 x_1)
   (chk (leI 0 x_2) <|
   chk (ltI x_2 (ln x)) <|
   chk (leI (addZ (sz b) (sz ((rd x x_2 ((bs []), (0, (0, (0, 0))))).1))) 140737488355328) <|
   impl_ropeText_L3 fu fu1 x x_1 (addI .i64 x_2 1) (catS b ((rd x x_2 ((bs []), (0, (0, (0, 0))))).1)))
   (some b)) := by kernel_rfl
theorem impl_marksRight_L2.eq (l : List T_sib) (n : Int) (x : List T_sib) (x_1 : Int) (x_2 : Int) (fu fu1 : Nat) : impl_marksRight_L2 fu (fu1 + 1) l n x x_1 x_2 =
  (brB (ltI x_2 x_1)
   (chk (leI 0 x_2) <|
   chk (ltI x_2 (ln x)) <|
   optB (impl_isName fu ((rd x x_2 ((bs []), (0, false))).1)) fun r0 =>
   brB (notB r0)
    (some false)
    (brB (ltI (((rd x x_2 ((bs []), (0, false))).2).1) 0)
     (some false)
     (brB (ltI n (((rd x x_2 ((bs []), (0, false))).2).1))
      (some false)
      (brB (ltI 0 x_2)
       (chk (leI 0 (subI .i64 x_2 1)) <|
       chk (ltI (subI .i64 x_2 1) (ln l)) <|
       brB (notB (strLess ((rd l (subI .i64 x_2 1) ((bs []), (0, false))).1) ((rd x x_2 ((bs []), (0, false))).1)))
        (some false)
        (impl_marksRight_L2 fu fu1 l n x x_1 (addI .i64 x_2 1)))
       (impl_marksRight_L2 fu fu1 l n x x_1 (addI .i64 x_2 1))))))
   (some (leI (ln l) 100))) := by kernel_rfl
theorem impl_ropeTree.eq (s : ByteArray) (out : List T_siiii) (fu : Nat) : impl_ropeTree (fu + 1) s out =
  (optB (strings_Count fu s (bs [10])) fun r0 =>
  brB (leI (sz s) 64)
   (chk (ltI (mulZ (addZ (ln out) (ln ((s, ((-1), ((-1), ((sz s), r0)))) :: ([] : List (ByteArray × Int × Int × Int × Int))))) 48) 140737488355328) <|
   some ((catL out ((s, ((-1), ((-1), ((sz s), r0)))) :: ([] : List (ByteArray × Int × Int × Int × Int)))), ()))
   (impl_ropeTree_L7 fu fu s (sz s) r0 0 0 out)) := by kernel_rfl
theorem slices_Equal_RopeNode_RopeNode_L4.eq (s1 : List T_siiii) (s2 : List T_siiii) (x : Int) (x_1 : Int) (fu fu1 : Nat) : slices_Equal_RopeNode_RopeNode_L4 fu (fu1 + 1) s1 s2 x x_1 =
  (brB (ltI x_1 x)
   (chk (leI 0 x_1) <|
   chk (ltI x_1 (ln s1)) <|
   chk (leI 0 x_1) <|
   chk (ltI x_1 (ln s2)) <|
   brB (notB (andB (bytesEq ((rd s1 x_1 ((bs []), (0, (0, (0, 0))))).1) ((rd s2 x_1 ((bs []), (0, (0, (0, 0))))).1)) (andB (eqI (((rd s1 x_1 ((bs []), (0, (0, (0, 0))))).2).1) (((rd s2 x_1 ((bs []), (0, (0, (0, 0))))).2).1)) (andB (eqI ((((rd s1 x_1 ((bs []), (0, (0, (0, 0))))).2).2).1) ((((rd s2 x_1 ((bs []), (0, (0, (0, 0))))).2).2).1)) (andB (eqI (((((rd s1 x_1 ((bs []), (0, (0, (0, 0))))).2).2).2).1) (((((rd s2 x_1 ((bs []), (0, (0, (0, 0))))).2).2).2).1)) (andB (eqI (((((rd s1 x_1 ((bs []), (0, (0, (0, 0))))).2).2).2).2) (((((rd s2 x_1 ((bs []), (0, (0, (0, 0))))).2).2).2).2)) true))))))
    (some false)
    (slices_Equal_RopeNode_RopeNode_L4 fu fu1 s1 s2 x (addI .i64 x_1 1)))
   (some true)) := by kernel_rfl
theorem laws_eqRopeNodeS_L4.eq (a : List T_siiii) (b : List T_siiii) (i : Int) (fu fu1 : Nat) : laws_eqRopeNodeS_L4 fu (fu1 + 1) a b i =
  (brB (ltI i (ln a))
   (chk (leI 0 i) <|
   chk (ltI i (ln a)) <|
   chk (leI 0 i) <|
   chk (ltI i (ln b)) <|
   optB (laws_eqRopeNode fu ((rd a i ((bs []), (0, (0, (0, 0))))).1) (((rd a i ((bs []), (0, (0, (0, 0))))).2).1) ((((rd a i ((bs []), (0, (0, (0, 0))))).2).2).1) (((((rd a i ((bs []), (0, (0, (0, 0))))).2).2).2).1) (((((rd a i ((bs []), (0, (0, (0, 0))))).2).2).2).2) ((rd b i ((bs []), (0, (0, (0, 0))))).1) (((rd b i ((bs []), (0, (0, (0, 0))))).2).1) ((((rd b i ((bs []), (0, (0, (0, 0))))).2).2).1) (((((rd b i ((bs []), (0, (0, (0, 0))))).2).2).2).1) (((((rd b i ((bs []), (0, (0, (0, 0))))).2).2).2).2)) fun r0 =>
   brB (notB r0)
    (some false)
    (laws_eqRopeNodeS_L4 fu fu1 a b (addI .i64 i 1)))
   (some true)) := by kernel_rfl
theorem laws_eqMarkS_L4.eq (a : List T_sib) (b : List T_sib) (i : Int) (fu fu1 : Nat) : laws_eqMarkS_L4 fu (fu1 + 1) a b i =
  (brB (ltI i (ln a))
   (chk (leI 0 i) <|
   chk (ltI i (ln a)) <|
   chk (leI 0 i) <|
   chk (ltI i (ln b)) <|
   optB (laws_eqMark fu ((rd a i ((bs []), (0, false))).1) (((rd a i ((bs []), (0, false))).2).1) (((rd a i ((bs []), (0, false))).2).2) ((rd b i ((bs []), (0, false))).1) (((rd b i ((bs []), (0, false))).2).1) (((rd b i ((bs []), (0, false))).2).2)) fun r0 =>
   brB (notB r0)
    (some false)
    (laws_eqMarkS_L4 fu fu1 a b (addI .i64 i 1)))
   (some true)) := by kernel_rfl
theorem spec_l20Ends_L3.eq (t : ByteArray) (n : Int) (i : Int) (fu fu1 : Nat) : spec_l20Ends_L3 fu (fu1 + 1) t n i =
  (brB (ltI i (sz t))
   (chk (leI 0 i) <|
   chk (ltI i (sz t)) <|
   brB (eqI (bt t i) 10)
    (spec_l20Ends_L3 fu fu1 t (addI .i64 n 1) (addI .i64 i 1))
    (spec_l20Ends_L3 fu fu1 t n (addI .i64 i 1)))
   (some n)) := by kernel_rfl
theorem unicode_utf8_RuneCountInString.eq (s : ByteArray) (fu : Nat) : unicode_utf8_RuneCountInString (fu + 1) s =
  (none) := by kernel_rfl
theorem strings_Count_L6.eq (s : ByteArray) (substr : ByteArray) (n : Int) (fu fu1 : Nat) : strings_Count_L6 fu (fu1 + 1) s substr n =
  (optB (strings_Index fu s substr) fun r0 =>
  brB (eqI r0 (-1))
   (some n)
   (chk (leI 0 (addI .i64 r0 (sz substr))) <|
   chk (leI (addI .i64 r0 (sz substr)) (sz s)) <|
   strings_Count_L6 fu fu1 (subs s (addI .i64 r0 (sz substr)) (sz s)) substr (addI .i64 n 1))) := by kernel_rfl
theorem spec_l01Source_L3.eq (code : List T_y) (i : Int) (s : List T_y) (s_1 : Int) (s_2 : Int) (s_3 : Int) (fu fu1 : Nat) : spec_l01Source_L3 fu (fu1 + 1) code i s s_1 s_2 s_3 =
  (brB (ltI i (ln code))
   (brB (ltI i 64)
    (chk (leI 0 i) <|
    chk (ltI i (ln code)) <|
    spec_l01Source_L3 fu fu1 code (addI .i64 i 1) s s_1 (mulI .u64 (xorI .u64 s_2 (wrI .u64 (rd code i 0))) 1099511628211) s_3)
    (chk (notB (eqI 20 0)) <|
    brB (ltI 12 (quoI .i64 (ln code) 20))
     (some (s, (s_1, (s_2, 12))))
     (some (s, (s_1, (s_2, (quoI .i64 (ln code) 20)))))))
   (chk (notB (eqI 20 0)) <|
   brB (ltI 12 (quoI .i64 (ln code) 20))
    (some (s, (s_1, (s_2, 12))))
    (some (s, (s_1, (s_2, (quoI .i64 (ln code) 20))))))) := by kernel_rfl
theorem spec_l01Src_n.eq (most : Int) (s : List T_y) (s_1 : Int) (s_2 : Int) (s_3 : Int) (fu : Nat) : spec_l01Src_n (fu + 1) most s s_1 s_2 s_3 =
  (brB (leI most 1)
   (some (0, (s, (s_1, (s_2, s_3)))))
   (brB (ltI s_1 (ln s))
    (chk (leI 0 s_1) <|
    chk (ltI s_1 (ln s)) <|
    spec_l01Src_n_J7 fu most (wrI .u64 (rd s s_1 0)) s (addI .i64 s_1 1) s_2 s_3)
    (spec_l01Src_n_J7 fu most 0 s s_1 s_2 s_3))) := by kernel_rfl
theorem spec_l01Src_ropeText_L3.eq (out : ByteArray) (k : Int) (s : List T_y) (s_1 : Int) (s_2 : Int) (s_3 : Int) (fu fu1 : Nat) : spec_l01Src_ropeText_L3 fu (fu1 + 1) out k s s_1 s_2 s_3 =
  (brB (ltI 0 k)
   (optB (spec_l01Write fu 512) fun r0 =>
   optB (spec_l01Write fu 24576) fun r1 =>
   optB (spec_l01Write fu 24577) fun r2 =>
   chk (leI (addZ (sz r1) (sz r2)) 9223372036854775807) <|
   optB (spec_l01Write fu 65536) fun r3 =>
   optB (spec_l01Src_pick fu ((bs [97, 98, 99, 100, 101, 102, 103, 104, 105, 106]) :: ((bs [10]) :: ((bs [120, 121]) :: (r0 :: ((catS r1 r2) :: ((bs [255]) :: ((bs [119, 111, 114, 100, 32]) :: ((bs [10, 10]) :: (r3 :: ((bs [48, 49, 50, 51, 52, 53, 54, 55, 56, 57, 48, 49, 50, 51, 52, 53, 54, 55, 56, 57, 48, 49, 50, 51, 52, 53, 54, 55, 56, 57, 48, 49, 50, 51, 52, 53, 54, 55, 56, 57]) :: ([] : List ByteArray))))))))))) s s_1 s_2 s_3) fun r4 =>
   chk (leI (addZ (sz out) (sz r4.1)) 9223372036854775807) <|
   spec_l01Src_ropeText_L3 fu fu1 (catS out r4.1) (subI .i64 k 1) r4.2.1 r4.2.2.1 r4.2.2.2.1 r4.2.2.2.2)
   (optB (spec_l01Src_one fu 60 s s_1 s_2 s_3) fun r0 =>
   brB r0.1
    (optB (spec_l01Src_n fu 5 r0.2.1 r0.2.2.1 r0.2.2.2.1 r0.2.2.2.2) fun r1 =>
    optB (spec_l01Src_long fu (bs [97, 98, 99, 10]) (addI .i64 65533 r1.1) r1.2.1 r1.2.2.1 r1.2.2.2.1 r1.2.2.2.2) fun r2 =>
    some (r2.1, (r2.2.1, (r2.2.2.1, (r2.2.2.2.1, r2.2.2.2.2)))))
    (some (out, (r0.2.1, (r0.2.2.1, (r0.2.2.2.1, r0.2.2.2.2))))))) := by kernel_rfl
theorem laws_szRopeNode.eq (a : ByteArray) (a_1 : Int) (a_2 : Int) (a_3 : Int) (a_4 : Int) (left : Int) (fu : Nat) : laws_szRopeNode (fu + 1) a a_1 a_2 a_3 a_4 left =
  (brB (ltI (subI .i64 left (sz a)) 0)
   (some (-1))
   (some (subI .i64 left (sz a)))) := by kernel_rfl
theorem laws_szMark.eq (a : ByteArray) (a_1 : Int) (a_2 : Bool) (left : Int) (fu : Nat) : laws_szMark (fu + 1) a a_1 a_2 left =
  (brB (ltI (subI .i64 left (sz a)) 0)
   (some (-1))
   (some (subI .i64 left (sz a)))) := by kernel_rfl
theorem laws_toRopeNode.eq (a : ByteArray) (a_1 : Int) (a_2 : Int) (a_3 : Int) (a_4 : Int) (fu : Nat) : laws_toRopeNode (fu + 1) a a_1 a_2 a_3 a_4 =
  (some (a, (a_1, (a_2, (a_3, a_4))))) := by kernel_rfl
theorem laws_toMark.eq (a : ByteArray) (a_1 : Int) (a_2 : Bool) (fu : Nat) : laws_toMark (fu + 1) a a_1 a_2 =
  (some (a, (a_1, a_2))) := by kernel_rfl
theorem spec_l20Cut_L4.eq (t : ByteArray) (most : Int) (at' : Int) (i : Int) (fu fu1 : Nat) : spec_l20Cut_L4 fu (fu1 + 1) t most at' i =
  (brB (ltI i (sz t))
   (brB (leI i most)
    (optB (spec_l01Next fu t i) fun r0 =>
    spec_l20Cut_L4 fu fu1 t most i (addI .i64 i r0.2.1))
    (some at'))
   (some at')) := by kernel_rfl
theorem spec_l20Mark.eq (m : ByteArray) (m_1 : Int) (m_2 : Bool) (size : Int) (fu : Nat) : spec_l20Mark (fu + 1) m m_1 m_2 size =
  (optB (spec_l17IsName fu m) fun r0 =>
  brB r0
   (brB (leI 0 m_1)
    (some (leI m_1 size))
    (some false))
   (some false)) := by kernel_rfl
theorem impl_isName.eq (s : ByteArray) (fu : Nat) : impl_isName (fu + 1) s =
  (impl_isName_L2 fu fu s (sz s) 0) := by kernel_rfl
theorem impl_ropeTree_L7.eq (s : ByteArray) (n : Int) (lines : Int) (cut : Int) (i : Int) (out : List T_siiii) (fu fu1 : Nat) : impl_ropeTree_L7 fu (fu1 + 1) s n lines cut i out =
  (chk (notB (eqI 2 0)) <|
  brB (leI i (quoI .i64 (addI .i64 (sz s) 1) 2))
   (chk (leI 0 i) <|
   chk (leI i (minI (sz s) (addI .i64 i 4))) <|
   chk (leI (minI (sz s) (addI .i64 i 4)) (sz s)) <|
   optB (impl_read fu (subs s i (minI (sz s) (addI .i64 i 4)))) fun r0 =>
   chk (leI 0 0) <|
   chk (ltI 0 (ln r0)) <|
   impl_ropeTree_L7 fu fu1 s n lines i (addI .i64 i ((((rd r0 0 (0, (0, (0, false)))).2).2).1)) out)
   (chk (ltI (mulZ (addZ (ln out) (ln (((bs []), ((addI .i64 (ln out) 1), (0, (n, lines)))) :: ([] : List (ByteArray × Int × Int × Int × Int))))) 48) 140737488355328) <|
   chk (leI 0 cut) <|
   chk (leI cut (sz s)) <|
   optB (impl_ropeTree'1 fu (subs s 0 cut) (catL out (((bs []), ((addI .i64 (ln out) 1), (0, (n, lines)))) :: ([] : List (ByteArray × Int × Int × Int × Int))))) fun r0 =>
   chk (leI 0 (ln out)) <|
   chk (ltI (ln out) (ln r0.1)) <|
   chk (leI 0 cut) <|
   chk (leI cut (sz s)) <|
   optB (impl_ropeTree'1 fu (subs s cut (sz s)) (setI r0.1 (ln out) ((rd r0.1 (ln out) ((bs []), (0, (0, (0, 0))))).1, (((rd r0.1 (ln out) ((bs []), (0, (0, (0, 0))))).2).1, ((ln r0.1), (((rd r0.1 (ln out) ((bs []), (0, (0, (0, 0))))).2).2).2))))) fun r1 =>
   some (r1.1, ()))) := by kernel_rfl
theorem laws_eqRopeNode.eq (a : ByteArray) (a_1 : Int) (a_2 : Int) (a_3 : Int) (a_4 : Int) (b : ByteArray) (b_1 : Int) (b_2 : Int) (b_3 : Int) (b_4 : Int) (fu : Nat) : laws_eqRopeNode (fu + 1) a a_1 a_2 a_3 a_4 b b_1 b_2 b_3 b_4 =
  (brB (notB (bytesEq a b))
   (some false)
   (brB (notB (eqI a_1 b_1))
    (some false)
    (brB (notB (eqI a_2 b_2))
     (some false)
     (brB (notB (eqI a_3 b_3))
      (some false)
      (brB (notB (eqI a_4 b_4))
       (some false)
       (some true)))))) := by kernel_rfl
theorem laws_eqMark.eq (a : ByteArray) (a_1 : Int) (a_2 : Bool) (b : ByteArray) (b_1 : Int) (b_2 : Bool) (fu : Nat) : laws_eqMark (fu + 1) a a_1 a_2 b b_1 b_2 =
  (brB (notB (bytesEq a b))
   (some false)
   (brB (notB (eqI a_1 b_1))
    (some false)
    (brB (notB (eqB a_2 b_2))
     (some false)
     (some true)))) := by kernel_rfl
theorem strings_Index.eq (s : ByteArray) (substr : ByteArray) (fu : Nat) : strings_Index (fu + 1) s substr =
  (optB (internal_stringslite_Index fu s substr) fun r0 =>
  some r0) := by kernel_rfl
theorem spec_l01Src_n_J7.eq (most : Int) (v : Int) (s : List T_y) (s_1 : Int) (s_2 : Int) (s_3 : Int) (fu : Nat) : spec_l01Src_n_J7 fu most v s s_1 s_2 s_3 =
  (chk (leI 0 13) <|
  chk (leI 0 7) <|
  chk (leI 0 17) <|
  chk (leI 0 20) <|
  chk (notB (eqI (wrI .u64 most) 0)) <|
  some ((wrI .i64 (remI (addI .u64 v (shrI .u64 (xorI .u64 (xorI .u64 (xorI .u64 s_2 (shlI .u64 s_2 13)) (shrI .u64 (xorI .u64 s_2 (shlI .u64 s_2 13)) 7)) (shlI .u64 (xorI .u64 (xorI .u64 s_2 (shlI .u64 s_2 13)) (shrI .u64 (xorI .u64 s_2 (shlI .u64 s_2 13)) 7)) 17)) 20)) (wrI .u64 most))), (s, (s_1, ((xorI .u64 (xorI .u64 (xorI .u64 s_2 (shlI .u64 s_2 13)) (shrI .u64 (xorI .u64 s_2 (shlI .u64 s_2 13)) 7)) (shlI .u64 (xorI .u64 (xorI .u64 s_2 (shlI .u64 s_2 13)) (shrI .u64 (xorI .u64 s_2 (shlI .u64 s_2 13)) 7)) 17)), s_3))))) := by unfold spec_l01Src_n_J7; rw [joinAt_eq]; kernel_rfl
theorem spec_l01Write.eq (p : Int) (fu : Nat) : spec_l01Write (fu + 1) p =
  (optB (spec_l01IsPoint fu p) fun r0 =>
  brB (notB r0)
   (spec_l01Write_J3 fu 65533)
   (spec_l01Write_J3 fu p)) := by kernel_rfl
theorem spec_l01Src_pick.eq (l : List T_s) (s : List T_y) (s_1 : Int) (s_2 : Int) (s_3 : Int) (fu : Nat) : spec_l01Src_pick (fu + 1) l s s_1 s_2 s_3 =
  (optB (spec_l01Src_n fu (ln l) s s_1 s_2 s_3) fun r0 =>
  chk (leI 0 r0.1) <|
  chk (ltI r0.1 (ln l)) <|
  some ((rd l r0.1 (bs [])), (r0.2.1, (r0.2.2.1, (r0.2.2.2.1, r0.2.2.2.2))))) := by kernel_rfl
theorem spec_l01Src_one.eq (of : Int) (s : List T_y) (s_1 : Int) (s_2 : Int) (s_3 : Int) (fu : Nat) : spec_l01Src_one (fu + 1) of s s_1 s_2 s_3 =
  (optB (spec_l01Src_n fu of s s_1 s_2 s_3) fun r0 =>
  some ((eqI r0.1 0), (r0.2.1, (r0.2.2.1, (r0.2.2.2.1, r0.2.2.2.2))))) := by kernel_rfl
theorem spec_l01Src_long.eq (c : ByteArray) (n : Int) (s : List T_y) (s_1 : Int) (s_2 : Int) (s_3 : Int) (fu : Nat) : spec_l01Src_long (fu + 1) c n s s_1 s_2 s_3 =
  (spec_l01Src_long_L2 fu fu c n s s_1 s_2 s_3 ([] : List Int)) := by kernel_rfl
theorem spec_l01Next.eq (t : ByteArray) (at' : Int) (fu : Nat) : spec_l01Next (fu + 1) t at' =
  (chk (leI 0 at') <|
  chk (ltI at' (sz t)) <|
  brB (ltI (wrI .i64 (bt t at')) 128)
   (some ((wrI .i64 (bt t at')), (1, true)))
   (brB (leI 194 (wrI .i64 (bt t at')))
    (brB (ltI (wrI .i64 (bt t at')) 224)
     (chk (notB (eqI 32 0)) <|
     spec_l01Next_J16 fu t at' 1 (remI (wrI .i64 (bt t at')) 32))
     (brB (leI 224 (wrI .i64 (bt t at')))
      (brB (ltI (wrI .i64 (bt t at')) 240)
       (chk (notB (eqI 16 0)) <|
       spec_l01Next_J16 fu t at' 2 (remI (wrI .i64 (bt t at')) 16))
       (brB (leI 240 (wrI .i64 (bt t at')))
        (brB (ltI (wrI .i64 (bt t at')) 245)
         (chk (notB (eqI 8 0)) <|
         spec_l01Next_J16 fu t at' 3 (remI (wrI .i64 (bt t at')) 8))
         (some (65533, (1, false))))
        (some (65533, (1, false)))))
      (brB (leI 240 (wrI .i64 (bt t at')))
       (brB (ltI (wrI .i64 (bt t at')) 245)
        (chk (notB (eqI 8 0)) <|
        spec_l01Next_J16 fu t at' 3 (remI (wrI .i64 (bt t at')) 8))
        (some (65533, (1, false))))
       (some (65533, (1, false))))))
    (brB (leI 224 (wrI .i64 (bt t at')))
     (brB (ltI (wrI .i64 (bt t at')) 240)
      (chk (notB (eqI 16 0)) <|
      spec_l01Next_J16 fu t at' 2 (remI (wrI .i64 (bt t at')) 16))
      (brB (leI 240 (wrI .i64 (bt t at')))
       (brB (ltI (wrI .i64 (bt t at')) 245)
        (chk (notB (eqI 8 0)) <|
        spec_l01Next_J16 fu t at' 3 (remI (wrI .i64 (bt t at')) 8))
        (some (65533, (1, false))))
       (some (65533, (1, false)))))
     (brB (leI 240 (wrI .i64 (bt t at')))
      (brB (ltI (wrI .i64 (bt t at')) 245)
       (chk (notB (eqI 8 0)) <|
       spec_l01Next_J16 fu t at' 3 (remI (wrI .i64 (bt t at')) 8))
       (some (65533, (1, false))))
      (some (65533, (1, false))))))) := by kernel_rfl
theorem spec_l17IsName.eq (t : ByteArray) (fu : Nat) : spec_l17IsName (fu + 1) t =
  (brB (ltI (sz t) 1)
   (some false)
   (brB (ltI 20 (sz t))
    (some false)
    (chk (leI 0 0) <|
    chk (ltI 0 (sz t)) <|
    brB (ltI (bt t 0) 97)
     (some false)
     (chk (leI 0 0) <|
     chk (ltI 0 (sz t)) <|
     brB (ltI 122 (bt t 0))
      (some false)
      (spec_l17IsName_L4 fu fu t 1))))) := by kernel_rfl
theorem impl_isName_L2.eq (s : ByteArray) (x : Int) (x_1 : Int) (fu fu1 : Nat) : impl_isName_L2 fu (fu1 + 1) s x x_1 =
  (brB (ltI x_1 x)
   (chk (leI 0 x_1) <|
   chk (ltI x_1 (sz s)) <|
   brB (leI 97 (bt s x_1))
    (brB (leI (bt s x_1) 122)
     (impl_isName_L2 fu fu1 s x (addI .i64 x_1 1))
     (brB (ltI 0 x_1)
      (brB (leI 48 (bt s x_1))
       (brB (leI (bt s x_1) 57)
        (impl_isName_L2 fu fu1 s x (addI .i64 x_1 1))
        (brB (eqI (bt s x_1) 45)
         (impl_isName_L2 fu fu1 s x (addI .i64 x_1 1))
         (some false)))
       (brB (eqI (bt s x_1) 45)
        (impl_isName_L2 fu fu1 s x (addI .i64 x_1 1))
        (some false)))
      (some false)))
    (brB (ltI 0 x_1)
     (brB (leI 48 (bt s x_1))
      (brB (leI (bt s x_1) 57)
       (impl_isName_L2 fu fu1 s x (addI .i64 x_1 1))
       (brB (eqI (bt s x_1) 45)
        (impl_isName_L2 fu fu1 s x (addI .i64 x_1 1))
        (some false)))
      (brB (eqI (bt s x_1) 45)
       (impl_isName_L2 fu fu1 s x (addI .i64 x_1 1))
       (some false)))
     (some false)))
   (brB (leI 1 (sz s))
    (some (leI (sz s) 20))
    (some false))) := by kernel_rfl
theorem impl_read.eq (s : ByteArray) (fu : Nat) : impl_read (fu + 1) s =
  (impl_read_L3 fu fu s 0) := by kernel_rfl
theorem impl_ropeTree'1.eq (s : ByteArray) (out : List T_siiii) (fu : Nat) : impl_ropeTree'1 (fu + 1) s out =
  (optB (strings_Count fu s (bs [10])) fun r0 =>
  brB (leI (sz s) 64)
   (chk (ltI (mulZ (addZ (ln out) (ln ((s, ((-1), ((-1), ((sz s), r0)))) :: ([] : List (ByteArray × Int × Int × Int × Int))))) 48) 140737488355328) <|
   some ((catL out ((s, ((-1), ((-1), ((sz s), r0)))) :: ([] : List (ByteArray × Int × Int × Int × Int)))), ()))
   (impl_ropeTree_L7'1 fu fu s (sz s) r0 0 0 out)) := by kernel_rfl
theorem internal_stringslite_Index.eq (s : ByteArray) (substr : ByteArray) (fu : Nat) : internal_stringslite_Index (fu + 1) s substr =
  (brB (eqI (sz substr) 0)
   (some 0)
   (brB (bytesEq substr s)
    (some 0)
    (brB (eqI (sz substr) 1)
     (chk (leI 0 0) <|
     chk (ltI 0 (sz substr)) <|
     optB (internal_stringslite_IndexByte fu s (bt substr 0)) fun r0 =>
     some r0)
     (chk (leI (sz s) (sz substr)) <|
     some (-1))))) := by kernel_rfl
theorem spec_l01IsPoint.eq (p : Int) (fu : Nat) : spec_l01IsPoint (fu + 1) p =
  (brB (leI 0 p)
   (brB (leI p 1114111)
    (brB (ltI p 55296)
     (some true)
     (some (ltI 57343 p)))
    (some false))
   (some false)) := by kernel_rfl
theorem spec_l01Write_J3.eq (p : Int) (fu : Nat) : spec_l01Write_J3 fu p =
  (brB (ltI p 128)
   (some (bytesOf ((wrI .u8 p) :: ([] : List Int))))
   (brB (ltI p 2048)
    (chk (notB (eqI 64 0)) <|
    chk (notB (eqI 64 0)) <|
    some (bytesOf ((wrI .u8 (addI .i64 192 (quoI .i64 p 64))) :: ((wrI .u8 (addI .i64 128 (remI p 64))) :: ([] : List Int)))))
    (brB (ltI p 65536)
     (chk (notB (eqI 4096 0)) <|
     chk (notB (eqI 64 0)) <|
     chk (notB (eqI 64 0)) <|
     chk (notB (eqI 64 0)) <|
     some (bytesOf ((wrI .u8 (addI .i64 224 (quoI .i64 p 4096))) :: ((wrI .u8 (addI .i64 128 (remI (quoI .i64 p 64) 64))) :: ((wrI .u8 (addI .i64 128 (remI p 64))) :: ([] : List Int))))))
     (chk (notB (eqI 262144 0)) <|
     chk (notB (eqI 4096 0)) <|
     chk (notB (eqI 64 0)) <|
     chk (notB (eqI 64 0)) <|
     chk (notB (eqI 64 0)) <|
     chk (notB (eqI 64 0)) <|
     some (bytesOf ((wrI .u8 (addI .i64 240 (quoI .i64 p 262144))) :: ((wrI .u8 (addI .i64 128 (remI (quoI .i64 p 4096) 64))) :: ((wrI .u8 (addI .i64 128 (remI (quoI .i64 p 64) 64))) :: ((wrI .u8 (addI .i64 128 (remI p 64))) :: ([] : List Int)))))))))) := by unfold spec_l01Write_J3; rw [joinAt_eq]; kernel_rfl
theorem spec_l01Src_long_L2.eq (c : ByteArray) (n : Int) (x : List T_y) (x_1 : Int) (x_2 : Int) (x_3 : Int) (b : List T_y) (fu fu1 : Nat) : spec_l01Src_long_L2 fu (fu1 + 1) c n x x_1 x_2 x_3 b =
  (brB (ltI (ln b) n)
   (chk (ltI (mulZ (addZ (ln b) (ln (numsOf c))) 1) 140737488355328) <|
   spec_l01Src_long_L2 fu fu1 c n x x_1 x_2 x_3 (catL b (numsOf c)))
   (chk (leI 0 n) <|
   chk (leI n (ln b)) <|
   some ((bytesOf (dropI (takeI b n) 0)), (x, (x_1, (x_2, x_3)))))) := by kernel_rfl
theorem spec_l01Next_J16.eq (t : ByteArray) (at' : Int) (n : Int) (p : Int) (fu : Nat) : spec_l01Next_J16 fu t at' n p =
  (brB (leI (sz t) (addI .i64 at' n))
   (some (65533, (1, false)))
   (spec_l01Next_L19 fu fu t at' n p 1)) := by unfold spec_l01Next_J16; rw [joinAt_eq]; kernel_rfl
theorem spec_l17IsName_L4.eq (t : ByteArray) (i : Int) (fu fu1 : Nat) : spec_l17IsName_L4 fu (fu1 + 1) t i =
  (brB (ltI i (sz t))
   (chk (leI 0 i) <|
   chk (ltI i (sz t)) <|
   brB (ltI (bt t i) 97)
    (brB (ltI (bt t i) 48)
     (brB (notB (eqI (bt t i) 45))
      (some false)
      (spec_l17IsName_L4 fu fu1 t (addI .i64 i 1)))
     (brB (ltI 57 (bt t i))
      (brB (notB (eqI (bt t i) 45))
       (some false)
       (spec_l17IsName_L4 fu fu1 t (addI .i64 i 1)))
      (spec_l17IsName_L4 fu fu1 t (addI .i64 i 1))))
    (brB (ltI 122 (bt t i))
     (brB (ltI (bt t i) 48)
      (brB (notB (eqI (bt t i) 45))
       (some false)
       (spec_l17IsName_L4 fu fu1 t (addI .i64 i 1)))
      (brB (ltI 57 (bt t i))
       (brB (notB (eqI (bt t i) 45))
        (some false)
        (spec_l17IsName_L4 fu fu1 t (addI .i64 i 1)))
       (spec_l17IsName_L4 fu fu1 t (addI .i64 i 1))))
     (spec_l17IsName_L4 fu fu1 t (addI .i64 i 1))))
   (some true)) := by kernel_rfl
theorem impl_read_L3.eq (s : ByteArray) (i : Int) (fu fu1 : Nat) : impl_read_L3 fu (fu1 + 1) s i =
  (brB (ltI i (sz s))
   (chk (leI 0 i) <|
   chk (leI i (sz s)) <|
   optB (unicode_utf8_DecodeRuneInString fu (subs s i (sz s))) fun r0 =>
   brB (eqI r0.1 65533)
    (chk (ltI (mulZ (addZ (ln ([] : List (Int × Int × Int × Bool))) (ln (((wrI .i64 r0.1), (i, ((addI .i64 i r0.2), (eqI r0.2 1)))) :: ([] : List (Int × Int × Int × Bool))))) 32) 140737488355328) <|
    impl_read_L3'1 fu fu1 s (addI .i64 i r0.2) (catL ([] : List (Int × Int × Int × Bool)) (((wrI .i64 r0.1), (i, ((addI .i64 i r0.2), (eqI r0.2 1)))) :: ([] : List (Int × Int × Int × Bool)))))
    (chk (ltI (mulZ (addZ (ln ([] : List (Int × Int × Int × Bool))) (ln (((wrI .i64 r0.1), (i, ((addI .i64 i r0.2), false))) :: ([] : List (Int × Int × Int × Bool))))) 32) 140737488355328) <|
    impl_read_L3'1 fu fu1 s (addI .i64 i r0.2) (catL ([] : List (Int × Int × Int × Bool)) (((wrI .i64 r0.1), (i, ((addI .i64 i r0.2), false))) :: ([] : List (Int × Int × Int × Bool))))))
   (some ([] : List (Int × Int × Int × Bool)))) := by kernel_rfl
theorem impl_ropeTree_L7'1.eq (s : ByteArray) (n : Int) (lines : Int) (cut : Int) (i : Int) (out : List T_siiii) (fu fu1 : Nat) : impl_ropeTree_L7'1 fu (fu1 + 1) s n lines cut i out =
  (chk (notB (eqI 2 0)) <|
  brB (leI i (quoI .i64 (addI .i64 (sz s) 1) 2))
   (chk (leI 0 i) <|
   chk (leI i (minI (sz s) (addI .i64 i 4))) <|
   chk (leI (minI (sz s) (addI .i64 i 4)) (sz s)) <|
   optB (impl_read fu (subs s i (minI (sz s) (addI .i64 i 4)))) fun r0 =>
   chk (leI 0 0) <|
   chk (ltI 0 (ln r0)) <|
   impl_ropeTree_L7'1 fu fu1 s n lines i (addI .i64 i ((((rd r0 0 (0, (0, (0, false)))).2).2).1)) out)
   (chk (ltI (mulZ (addZ (ln out) (ln (((bs []), ((addI .i64 (ln out) 1), (0, (n, lines)))) :: ([] : List (ByteArray × Int × Int × Int × Int))))) 48) 140737488355328) <|
   chk (leI 0 cut) <|
   chk (leI cut (sz s)) <|
   optB (impl_ropeTree'1 fu (subs s 0 cut) (catL out (((bs []), ((addI .i64 (ln out) 1), (0, (n, lines)))) :: ([] : List (ByteArray × Int × Int × Int × Int))))) fun r0 =>
   chk (leI 0 (ln out)) <|
   chk (ltI (ln out) (ln r0.1)) <|
   chk (leI 0 cut) <|
   chk (leI cut (sz s)) <|
   optB (impl_ropeTree'1 fu (subs s cut (sz s)) (setI r0.1 (ln out) ((rd r0.1 (ln out) ((bs []), (0, (0, (0, 0))))).1, (((rd r0.1 (ln out) ((bs []), (0, (0, (0, 0))))).2).1, ((ln r0.1), (((rd r0.1 (ln out) ((bs []), (0, (0, (0, 0))))).2).2).2))))) fun r1 =>
   some (r1.1, ()))) := by kernel_rfl
theorem internal_stringslite_IndexByte.eq (s : ByteArray) (c : Int) (fu : Nat) : internal_stringslite_IndexByte (fu + 1) s c =
  (optB (internal_bytealg_IndexByteString fu s c) fun r0 =>
  some r0) := by kernel_rfl
theorem spec_l01Next_L19.eq (t : ByteArray) (at' : Int) (n : Int) (p : Int) (i : Int) (fu fu1 : Nat) : spec_l01Next_L19 fu (fu1 + 1) t at' n p i =
  (brB (leI i n)
   (chk (leI 0 (addI .i64 at' i)) <|
   chk (ltI (addI .i64 at' i) (sz t)) <|
   brB (ltI (wrI .i64 (bt t (addI .i64 at' i))) 128)
    (some (65533, (1, false)))
    (brB (ltI 191 (wrI .i64 (bt t (addI .i64 at' i))))
     (some (65533, (1, false)))
     (chk (notB (eqI 64 0)) <|
     spec_l01Next_L19 fu fu1 t at' n (addI .i64 (mulI .i64 p 64) (remI (wrI .i64 (bt t (addI .i64 at' i))) 64)) (addI .i64 i 1))))
   (optB (spec_l01IsPoint fu p) fun r0 =>
   brB (notB r0)
    (some (65533, (1, false)))
    (optB (spec_l01Write fu p) fun r1 =>
    brB (notB (eqI (sz r1) (addI .i64 n 1)))
     (some (65533, (1, false)))
     (some (p, ((addI .i64 n 1), true)))))) := by kernel_rfl
theorem impl_read_L3'1.eq (s : ByteArray) (i : Int) (out : List T_iiib) (fu fu1 : Nat) : impl_read_L3'1 fu (fu1 + 1) s i out =
  (brB (ltI i (sz s))
   (chk (leI 0 i) <|
   chk (leI i (sz s)) <|
   optB (unicode_utf8_DecodeRuneInString fu (subs s i (sz s))) fun r0 =>
   brB (eqI r0.1 65533)
    (chk (ltI (mulZ (addZ (ln out) (ln (((wrI .i64 r0.1), (i, ((addI .i64 i r0.2), (eqI r0.2 1)))) :: ([] : List (Int × Int × Int × Bool))))) 32) 140737488355328) <|
    impl_read_L3'1 fu fu1 s (addI .i64 i r0.2) (catL out (((wrI .i64 r0.1), (i, ((addI .i64 i r0.2), (eqI r0.2 1)))) :: ([] : List (Int × Int × Int × Bool)))))
    (chk (ltI (mulZ (addZ (ln out) (ln (((wrI .i64 r0.1), (i, ((addI .i64 i r0.2), false))) :: ([] : List (Int × Int × Int × Bool))))) 32) 140737488355328) <|
    impl_read_L3'1 fu fu1 s (addI .i64 i r0.2) (catL out (((wrI .i64 r0.1), (i, ((addI .i64 i r0.2), false))) :: ([] : List (Int × Int × Int × Bool))))))
   (some out)) := by kernel_rfl
end Go.Proofs.YtkghicadebeceaaDoor.RF
