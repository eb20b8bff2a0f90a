/- What the functions compute: their equations, checked by the kernel. -/
import Derived.ProofKit
import Derived.Test.YtfbhkkedmfbgbaaDoorDPM
namespace Go.Proofs.YtfbhkkedmfbgbaaDoor.PM
open Go.Eng
set_option maxRecDepth 100000
set_option maxHeartbeats 4000000
theorem laws_FnExactPutMark.eq (aR : List T_siiii) (aR_1 : List T_sib) (aM : ByteArray) (aM_1 : Int) (aM_2 : Bool) (fu : Nat) : laws_FnExactPutMark (fu + 1) aR aR_1 aM aM_1 aM_2 =
  (optB (laws_szRope fu aR aR_1 1048576) fun r0 =>
  brB (ltI r0 0)
   (some true)
   (optB (laws_szMark fu aM aM_1 aM_2 r0) fun r1 =>
   brB (ltI r1 0)
    (some true)
    (optB (laws_toRope fu aR aR_1) fun r2 =>
    optB (laws_toMark fu aM aM_1 aM_2) fun r3 =>
    optB (spec_PutMark fu r2.1 r2.2 r3.1 r3.2.1 r3.2.2) fun r4 =>
    optB (laws_toRope fu aR aR_1) fun r5 =>
    optB (laws_toMark fu aM aM_1 aM_2) fun r6 =>
    optB (impl_PutMark fu r5.1 r5.2 r6.1 r6.2.1 r6.2.2) fun r7 =>
    optB (laws_eqRopeOut fu r7.1 r7.2.1 r7.2.2 r4.1 r4.2.1 r4.2.2) fun r8 =>
    brB (notB r8)
     (some false)
     (optB (laws_toRope fu aR aR_1) fun r9 =>
     optB (laws_eqRope fu r5.1 r5.2 r9.1 r9.2) fun r10 =>
     brB (notB r10)
      (some false)
      (optB (laws_markRope fu 1 r5.1 r5.2) fun r11 =>
      brB (ltI r11.1 0)
       (some false)
       (optB (laws_eqRopeOut fu r7.1 r7.2.1 r7.2.2 r4.1 r4.2.1 r4.2.2) fun r12 =>
       brB (notB r12)
        (some false)
        (laws_FnExactPutMark_J19 fu aR aR_1 aM aM_1 aM_2 r4.1 r4.2.1 r4.2.2 r7.1 r7.2.1 r7.2.2))))))) := by kernel_rfl
theorem laws_FnMarked.eq (code : List T_y) (fu : Nat) : laws_FnMarked (fu + 1) code =
  (brB (ltI 1048576 (ln code))
   (some true)
   (optB (spec_DrawPutMark fu code) fun r0 =>
   optB (impl_PutMark fu r0.1.1 r0.1.2 r0.2.1 r0.2.2.1 r0.2.2.2) fun r1 =>
   optB (spec_PutMark fu r0.1.1 r0.1.2 r0.2.1 r0.2.2.1 r0.2.2.2) fun r2 =>
   brB (notB (eqI r1.1 r2.1))
    (some (eqI r1.1 r2.1))
    (brB (notB (eqI r1.1 0))
     (some (eqI r1.1 r2.1))
     (optB (impl_MarksAt fu r1.2.1 r1.2.2 r0.2.2.1 r0.2.2.1) fun r3 =>
     optB (impl_MarksAt fu r1.2.1 r1.2.2 0 65536) fun r4 =>
     laws_FnMarked_L12 fu fu false 0 r0.2.1 r0.2.2.1 r0.2.2.2 r1.1 r1.2.1 r1.2.2 r2.1 r2.2.1 r2.2.2 r3 r4)))) := by kernel_rfl
theorem laws_szRope.eq (a : List T_siiii) (a_1 : List T_sib) (left : Int) (fu : Nat) : laws_szRope (fu + 1) a a_1 left =
  (optB (laws_szRopeNodeS fu a left) fun r0 =>
  brB (ltI r0 0)
   (some (-1))
   (optB (laws_szMarkS fu a_1 r0) fun r1 =>
   brB (ltI r1 0)
    (some (-1))
    (some r1))) := by kernel_rfl
theorem laws_szMark.eq (a : ByteArray) (a_1 : Int) (a_2 : Bool) (left : Int) (fu : Nat) : laws_szMark (fu + 1) a a_1 a_2 left =
  (brB (ltI (subI .i64 left (sz a)) 0)
   (some (-1))
   (some (subI .i64 left (sz a)))) := by kernel_rfl
theorem laws_toRope.eq (a : List T_siiii) (a_1 : List T_sib) (fu : Nat) : laws_toRope (fu + 1) a a_1 =
  (optB (laws_toRopeNodeS fu a) fun r0 =>
  optB (laws_toMarkS fu a_1) fun r1 =>
  some (r0, r1)) := by kernel_rfl
theorem laws_toMark.eq (a : ByteArray) (a_1 : Int) (a_2 : Bool) (fu : Nat) : laws_toMark (fu + 1) a a_1 a_2 =
  (some (a, (a_1, a_2))) := by kernel_rfl
theorem spec_PutMark.eq (r : List T_siiii) (r_1 : List T_sib) (m : ByteArray) (m_1 : Int) (m_2 : Bool) (fu : Nat) : spec_PutMark (fu + 1) r r_1 m m_1 m_2 =
  (optB (spec_RopeFault fu r r_1) fun r0 =>
  brB (notB (eqI r0 0))
   (some (1, (([] : List (ByteArray × Int × Int × Int × Int)), ([] : List (ByteArray × Int × Bool)))))
   (optB (spec_l20Text fu r) fun r1 =>
   optB (spec_l20Mark fu m m_1 m_2 (sz r1)) fun r2 =>
   brB (notB r2)
    (some (1, (([] : List (ByteArray × Int × Int × Int × Int)), ([] : List (ByteArray × Int × Bool)))))
    (spec_PutMark_L6 fu fu false 0 r r_1 m m_1 m_2 0 ([] : List (ByteArray × Int × Bool))))) := by kernel_rfl
theorem impl_PutMark.eq (r : List T_siiii) (r_1 : List T_sib) (m : ByteArray) (m_1 : Int) (m_2 : Bool) (fu : Nat) : impl_PutMark (fu + 1) r r_1 m m_1 m_2 =
  (optB (impl_RopeFault fu r r_1) fun r0 =>
  brB (notB (eqI r0 0))
   (some (1, (([] : List (ByteArray × Int × Int × Int × Int)), ([] : List (ByteArray × Int × Bool)))))
   (optB (impl_isName fu m) fun r1 =>
   brB (notB r1)
    (some (1, (([] : List (ByteArray × Int × Int × Int × Int)), ([] : List (ByteArray × Int × Bool)))))
    (brB (ltI m_1 0)
     (some (1, (([] : List (ByteArray × Int × Int × Int × Int)), ([] : List (ByteArray × Int × Bool)))))
     (optB (impl_ropeText fu r r_1) fun r2 =>
     brB (ltI (sz r2) m_1)
      (some (1, (([] : List (ByteArray × Int × Int × Int × Int)), ([] : List (ByteArray × Int × Bool)))))
      (impl_PutMark_J3 fu r r_1 m m_1 m_2 0))))) := by kernel_rfl
theorem laws_eqRopeOut.eq (a : Int) (a_1 : List T_siiii) (a_2 : List T_sib) (b : Int) (b_1 : List T_siiii) (b_2 : List T_sib) (fu : Nat) : laws_eqRopeOut (fu + 1) a a_1 a_2 b b_1 b_2 =
  (brB (notB (eqI a b))
   (some false)
   (optB (laws_eqRope fu a_1 a_2 b_1 b_2) fun r0 =>
   brB (notB r0)
    (some false)
    (some true))) := by kernel_rfl
theorem laws_eqRope.eq (a : List T_siiii) (a_1 : List T_sib) (b : List T_siiii) (b_1 : List T_sib) (fu : Nat) : laws_eqRope (fu + 1) a a_1 b b_1 =
  (optB (laws_eqRopeNodeS fu a b) fun r0 =>
  brB (notB r0)
   (some false)
   (optB (laws_eqMarkS fu a_1 b_1) fun r1 =>
   brB (notB r1)
    (some false)
    (some true))) := by kernel_rfl
theorem laws_markRope.eq (k : Int) (a : List T_siiii) (a_1 : List T_sib) (fu : Nat) : laws_markRope (fu + 1) k a a_1 =
  (optB (laws_markRopeNodeS fu k a) fun r0 =>
  optB (laws_markMarkS fu r0.1 a_1) fun r1 =>
  some (r1.1, (r0.2, r1.2))) := by kernel_rfl
theorem laws_FnExactPutMark_J19.eq (aR : List T_siiii) (aR_1 : List T_sib) (aM : ByteArray) (aM_1 : Int) (aM_2 : Bool) (w0 : Int) (x : List T_siiii) (x_1 : List T_sib) (g0 : Int) (x_2 : List T_siiii) (x_3 : List T_sib) (fu : Nat) : laws_FnExactPutMark_J19 fu aR aR_1 aM aM_1 aM_2 w0 x x_1 g0 x_2 x_3 =
  (optB (laws_markRopeOut fu g0 1 x_2 x_3) fun r0 =>
  optB (laws_heldRopeOut fu g0 r0.2.1 r0.2.2 1) fun r1 =>
  brB (ltI r1 0)
   (some false)
   (brB (notB (eqI r1 r0.1))
    (some false)
    (optB (laws_toRope fu aR aR_1) fun r2 =>
    optB (laws_toMark fu aM aM_1 aM_2) fun r3 =>
    optB (impl_PutMark fu r2.1 r2.2 r3.1 r3.2.1 r3.2.2) fun r4 =>
    optB (laws_eqRopeOut fu r4.1 r4.2.1 r4.2.2 w0 x x_1) fun r5 =>
    brB (notB r5)
     (some false)
     (optB (laws_heldRopeOut fu g0 r0.2.1 r0.2.2 1) fun r6 =>
     brB (ltI r6 0)
      (some false)
      (brB (notB (eqI r6 r0.1))
       (some false)
       (some true)))))) := by unfold laws_FnExactPutMark_J19; rw [joinAt_eq]; kernel_rfl
theorem spec_DrawPutMark.eq (code : List T_y) (fu : Nat) : spec_DrawPutMark (fu + 1) code =
  (optB (spec_l01Source fu code) fun r0 =>
  optB (spec_l01Src_anyRope fu r0.1 r0.2.1 r0.2.2.1 r0.2.2.2) fun r1 =>
  optB (spec_l01Src_pick fu ((bs [97]) :: ((bs [98]) :: ((bs [98, 98]) :: ((bs [122]) :: ((bs []) :: ((bs [65]) :: ([] : List ByteArray))))))) r1.2.1 r1.2.2.1 r1.2.2.2.1 r1.2.2.2.2) fun r2 =>
  optB (spec_l20Text fu r1.1.1) fun r3 =>
  optB (spec_l01Src_n fu (addI .i64 (sz r3) 3) r2.2.1 r2.2.2.1 r2.2.2.2.1 r2.2.2.2.2) fun r4 =>
  optB (spec_l01Src_one fu 2 r4.2.1 r4.2.2.1 r4.2.2.2.1 r4.2.2.2.2) fun r5 =>
  some ((r1.1.1, r1.1.2), (r2.1, ((subI .i64 r4.1 1), r5.1)))) := by kernel_rfl
theorem impl_MarksAt.eq (r : List T_siiii) (r_1 : List T_sib) (from' : Int) (to : Int) (fu : Nat) : impl_MarksAt (fu + 1) r r_1 from' to =
  (optB (impl_RopeFault fu r r_1) fun r0 =>
  brB (notB (eqI r0 0))
   (some ([] : List ByteArray))
   (optB (slices_Clone_Mark_Mark fu r_1) fun r1 =>
   optB (slices_SortStableFunc_Mark_Mark fu r1) fun r2 =>
   impl_MarksAt_L7 fu fu from' to (ln r2.2) 0 r2.2)) := by kernel_rfl
theorem laws_FnMarked_L12.eq (found : Bool) (i : Int) (m : ByteArray) (m_1 : Int) (m_2 : Bool) (o : Int) (x : List T_siiii) (x_1 : List T_sib) (want : Int) (x_2 : List T_siiii) (x_3 : List T_sib) (at' : List T_s) (all : List T_s) (fu fu1 : Nat) : laws_FnMarked_L12 fu (fu1 + 1) found i m m_1 m_2 o x x_1 want x_2 x_3 at' all =
  (brB (ltI i (ln at'))
   (brB found
    (laws_FnMarked_L12 fu fu1 true (addI .i64 i 1) m m_1 m_2 o x x_1 want x_2 x_3 at' all)
    (chk (leI 0 i) <|
    chk (ltI i (ln at')) <|
    laws_FnMarked_L12 fu fu1 (bytesEq (rd at' i (bs [])) m) (addI .i64 i 1) m m_1 m_2 o x x_1 want x_2 x_3 at' all))
   (brB found
    (optB (spec_MarksAt fu x_2 x_3 0 65536) fun r0 =>
    optB (laws_lwTexts fu all r0) fun r1 =>
    brB r1
     (brB (eqI (ln all) (ln x_3))
      (optB (impl_RopeFault fu x x_1) fun r2 =>
      some (eqI r2 0))
      (some false))
     (some false))
    (some false))) := by kernel_rfl
theorem laws_szRopeNodeS.eq (a : List T_siiii) (left : Int) (fu : Nat) : laws_szRopeNodeS (fu + 1) a left =
  (brB (ltI (subI .i64 left (ln a)) 0)
   (some (-1))
   (laws_szRopeNodeS_L5 fu fu a (subI .i64 left (ln a)) 0)) := by kernel_rfl
theorem laws_szMarkS.eq (a : List T_sib) (left : Int) (fu : Nat) : laws_szMarkS (fu + 1) a left =
  (brB (ltI (subI .i64 left (ln a)) 0)
   (some (-1))
   (laws_szMarkS_L5 fu fu a (subI .i64 left (ln a)) 0)) := by kernel_rfl
theorem laws_toRopeNodeS.eq (a : List T_siiii) (fu : Nat) : laws_toRopeNodeS (fu + 1) a =
  (chk (leI 0 (ln a)) <|
  chk (leI (ln a) (ln a)) <|
  chk (ltI (mulZ (ln a) 48) 140737488355328) <|
  laws_toRopeNodeS_L3 fu fu a 0 (repI (ln a) ((bs []), (0, (0, (0, 0)))))) := by kernel_rfl
theorem laws_toMarkS.eq (a : List T_sib) (fu : Nat) : laws_toMarkS (fu + 1) a =
  (chk (leI 0 (ln a)) <|
  chk (leI (ln a) (ln a)) <|
  chk (ltI (mulZ (ln a) 32) 140737488355328) <|
  laws_toMarkS_L3 fu fu a 0 (repI (ln a) ((bs []), (0, false)))) := by kernel_rfl
theorem spec_RopeFault.eq (r : List T_siiii) (r_1 : List T_sib) (fu : Nat) : spec_RopeFault (fu + 1) r r_1 =
  (optB (spec_l20Text fu r) fun r0 =>
  brB (ltI 65536 (sz r0))
   (some 1)
   (brB (ltI 100 (ln r_1))
    (some 1)
    (optB (spec_l20Build fu r0 ([] : List (ByteArray × Int × Int × Int × Int))) fun r1 =>
    brB (notB (eqI (ln r1.1) (ln r)))
     (some 1)
     (spec_RopeFault_L8 fu fu r0 0 r r_1 r1.1)))) := by kernel_rfl
theorem spec_l20Text.eq (l : List T_siiii) (fu : Nat) : spec_l20Text (fu + 1) l =
  (spec_l20Text_L3 fu fu l 0 ([] : List Int)) := by kernel_rfl
theorem spec_l20Mark.eq (m : ByteArray) (m_1 : Int) (m_2 : Bool) (size : Int) (fu : Nat) : spec_l20Mark (fu + 1) m m_1 m_2 size =
  (optB (spec_l17IsName fu m) fun r0 =>
  brB r0
   (brB (leI 0 m_1)
    (some (leI m_1 size))
    (some false))
   (some false)) := by kernel_rfl
theorem spec_PutMark_L6.eq (put : Bool) (i : Int) (r : List T_siiii) (r_1 : List T_sib) (m : ByteArray) (m_1 : Int) (m_2 : Bool) (x : Int) (marks : List T_sib) (fu fu1 : Nat) : spec_PutMark_L6 fu (fu1 + 1) put i r r_1 m m_1 m_2 x marks =
  (brB (ltI i (ln r_1))
   (brB (notB put)
    (chk (leI 0 i) <|
    chk (ltI i (ln r_1)) <|
    brB (notB (strLess ((rd r_1 i ((bs []), (0, false))).1) m))
     (chk (ltI (mulZ (addZ (ln marks) (ln ((m, (m_1, m_2)) :: ([] : List (ByteArray × Int × Bool))))) 32) 140737488355328) <|
     spec_PutMark_J11 fu fu1 true i r r_1 m m_1 m_2 x (catL marks ((m, (m_1, m_2)) :: ([] : List (ByteArray × Int × Bool)))))
     (spec_PutMark_J11 fu fu1 put i r r_1 m m_1 m_2 x marks))
    (spec_PutMark_J11 fu fu1 put i r r_1 m m_1 m_2 x marks))
   (brB (notB put)
    (chk (ltI (mulZ (addZ (ln marks) (ln ((m, (m_1, m_2)) :: ([] : List (ByteArray × Int × Bool))))) 32) 140737488355328) <|
    spec_PutMark_J15 fu r r_1 x (catL marks ((m, (m_1, m_2)) :: ([] : List (ByteArray × Int × Bool)))))
    (spec_PutMark_J15 fu r r_1 x marks))) := by kernel_rfl
theorem impl_RopeFault.eq (r : List T_siiii) (r_1 : List T_sib) (fu : Nat) : impl_RopeFault (fu + 1) r r_1 =
  (optB (impl_ropeText fu r r_1) fun r0 =>
  optB (impl_long fu r0) fun r1 =>
  brB r1
   (some 1)
   (optB (impl_marksRight fu r_1 (sz r0)) fun r2 =>
   brB (notB r2)
    (some 1)
    (optB (impl_ropeOf fu r0 ([] : List (ByteArray × Int × Bool))) fun r3 =>
    optB (slices_Equal_RopeNode_RopeNode fu r3.1.1 r) fun r4 =>
    brB (notB r4)
     (some 1)
     (some 0)))) := by kernel_rfl
theorem impl_isName.eq (s : ByteArray) (fu : Nat) : impl_isName (fu + 1) s =
  (impl_isName_L2 fu fu s (sz s) 0) := by kernel_rfl
theorem impl_ropeText.eq (r : List T_siiii) (r_1 : List T_sib) (fu : Nat) : impl_ropeText (fu + 1) r r_1 =
  (impl_ropeText_L3 fu fu r (ln r) 0 (bs [])) := by kernel_rfl
theorem impl_PutMark_J3.eq (r : List T_siiii) (r_1 : List T_sib) (m : ByteArray) (m_1 : Int) (m_2 : Bool) (x : Int) (fu : Nat) : impl_PutMark_J3 fu r r_1 m m_1 m_2 x =
  (optB (slices_Clone_Mark_Mark fu r_1) fun r0 =>
  optB (slices_DeleteFunc_Mark_Mark fu r0 m m_1 m_2) fun r1 =>
  brB (eqI (ln r1.1) 100)
   (some (4, (([] : List (ByteArray × Int × Int × Int × Int)), ([] : List (ByteArray × Int × Bool)))))
   (chk (ltI (mulZ (addZ (ln r1.1) (ln ((r1.2.2.1, (r1.2.2.2.1, r1.2.2.2.2)) :: ([] : List (ByteArray × Int × Bool))))) 32) 140737488355328) <|
   optB (slices_SortFunc_Mark_Mark fu (catL r1.1 ((r1.2.2.1, (r1.2.2.2.1, r1.2.2.2.2)) :: ([] : List (ByteArray × Int × Bool))))) fun r2 =>
   optB (slices_Clone_RopeNode_RopeNode fu r) fun r3 =>
   some (0, (r3, r2.2)))) := by unfold impl_PutMark_J3; rw [joinAt_eq]; kernel_rfl
theorem laws_eqRopeNodeS.eq (a : List T_siiii) (b : List T_siiii) (fu : Nat) : laws_eqRopeNodeS (fu + 1) a b =
  (brB (notB (eqI (ln a) (ln b)))
   (some false)
   (laws_eqRopeNodeS_L4 fu fu a b 0)) := by kernel_rfl
theorem laws_eqMarkS.eq (a : List T_sib) (b : List T_sib) (fu : Nat) : laws_eqMarkS (fu + 1) a b =
  (brB (notB (eqI (ln a) (ln b)))
   (some false)
   (laws_eqMarkS_L4 fu fu a b 0)) := by kernel_rfl
theorem laws_markRopeNodeS.eq (k : Int) (a : List T_siiii) (fu : Nat) : laws_markRopeNodeS (fu + 1) k a =
  (laws_markRopeNodeS_L2 fu fu k 0 a) := by kernel_rfl
theorem laws_markMarkS.eq (k : Int) (a : List T_sib) (fu : Nat) : laws_markMarkS (fu + 1) k a =
  (laws_markMarkS_L2 fu fu k 0 a) := by kernel_rfl
theorem laws_markRopeOut.eq (a : Int) (k : Int) (a_1 : List T_siiii) (a_2 : List T_sib) (fu : Nat) : laws_markRopeOut (fu + 1) a k a_1 a_2 =
  (optB (laws_markRope fu k a_1 a_2) fun r0 =>
  some (r0.1, (r0.2.1, r0.2.2))) := by kernel_rfl
theorem laws_heldRopeOut.eq (a : Int) (a_1 : List T_siiii) (a_2 : List T_sib) (k : Int) (fu : Nat) : laws_heldRopeOut (fu + 1) a a_1 a_2 k =
  (optB (laws_heldRope fu a_1 a_2 k) fun r0 =>
  brB (ltI r0 0)
   (some (-1))
   (some r0)) := by kernel_rfl
theorem spec_l01Source.eq (code : List T_y) (fu : Nat) : spec_l01Source (fu + 1) code =
  (spec_l01Source_L3 fu fu code 0 code 0 88172645463325252 0) := by kernel_rfl
theorem spec_l01Src_anyRope.eq (s : List T_y) (s_1 : Int) (s_2 : Int) (s_3 : Int) (fu : Nat) : spec_l01Src_anyRope (fu + 1) s s_1 s_2 s_3 =
  (optB (spec_l01Src_rope fu s s_1 s_2 s_3) fun r0 =>
  optB (spec_l01Src_one fu 8 r0.2.1 r0.2.2.1 r0.2.2.2.1 r0.2.2.2.2) fun r1 =>
  brB r1.1
   (brB (ltI 0 (ln r0.1.1))
    (optB (spec_l01Src_one fu 2 r1.2.1 r1.2.2.1 r1.2.2.2.1 r1.2.2.2.2) fun r2 =>
    spec_l01Src_anyRope_J4 fu r2.1 r2.2.1 r2.2.2.1 r2.2.2.2.1 r2.2.2.2.2 r0.1.1 r0.1.2)
    (spec_l01Src_anyRope_J4 fu false r1.2.1 r1.2.2.1 r1.2.2.2.1 r1.2.2.2.2 r0.1.1 r0.1.2))
   (spec_l01Src_anyRope_J17 fu r1.2.1 r1.2.2.1 r1.2.2.2.1 r1.2.2.2.2 r0.1.1 r0.1.2)) := by kernel_rfl
theorem spec_l01Src_pick.eq (l : List T_s) (s : List T_y) (s_1 : Int) (s_2 : Int) (s_3 : Int) (fu : Nat) : spec_l01Src_pick (fu + 1) l s s_1 s_2 s_3 =
  (optB (spec_l01Src_n fu (ln l) s s_1 s_2 s_3) fun r0 =>
  chk (leI 0 r0.1) <|
  chk (ltI r0.1 (ln l)) <|
  some ((rd l r0.1 (bs [])), (r0.2.1, (r0.2.2.1, (r0.2.2.2.1, r0.2.2.2.2))))) := by kernel_rfl
theorem spec_l01Src_n.eq (most : Int) (s : List T_y) (s_1 : Int) (s_2 : Int) (s_3 : Int) (fu : Nat) : spec_l01Src_n (fu + 1) most s s_1 s_2 s_3 =
  (brB (leI most 1)
   (some (0, (s, (s_1, (s_2, s_3)))))
   (brB (ltI s_1 (ln s))
    (chk (leI 0 s_1) <|
    chk (ltI s_1 (ln s)) <|
    spec_l01Src_n_J7 fu most (wrI .u64 (rd s s_1 0)) s (addI .i64 s_1 1) s_2 s_3)
    (spec_l01Src_n_J7 fu most 0 s s_1 s_2 s_3))) := by kernel_rfl
theorem spec_l01Src_one.eq (of : Int) (s : List T_y) (s_1 : Int) (s_2 : Int) (s_3 : Int) (fu : Nat) : spec_l01Src_one (fu + 1) of s s_1 s_2 s_3 =
  (optB (spec_l01Src_n fu of s s_1 s_2 s_3) fun r0 =>
  some ((eqI r0.1 0), (r0.2.1, (r0.2.2.1, (r0.2.2.2.1, r0.2.2.2.2))))) := by kernel_rfl
theorem slices_SortStableFunc_Mark_Mark.eq (x : List T_sib) (fu : Nat) : slices_SortStableFunc_Mark_Mark (fu + 1) x =
  (optB (slices_stableCmpFunc_Mark fu (ln x) x) fun r0 =>
  some ((), r0.2)) := by kernel_rfl
theorem impl_MarksAt_L7.eq (from' : Int) (to : Int) (x : Int) (x_1 : Int) (x_2 : List T_sib) (fu fu1 : Nat) : impl_MarksAt_L7 fu (fu1 + 1) from' to x x_1 x_2 =
  (brB (ltI x_1 x)
   (chk (leI 0 x_1) <|
   chk (ltI x_1 (ln x_2)) <|
   optB (impl_in fu (((rd x_2 x_1 ((bs []), (0, false))).2).1) from' to) fun r0 =>
   brB r0
    (chk (ltI (mulZ (addZ (ln ([] : List ByteArray)) (ln ((rd x_2 x_1 ((bs []), (0, false))).1 :: ([] : List ByteArray)))) 16) 140737488355328) <|
    impl_MarksAt_L7'1 fu fu1 from' to x (addI .i64 x_1 1) (catL ([] : List ByteArray) ((rd x_2 x_1 ((bs []), (0, false))).1 :: ([] : List ByteArray))) x_2)
    (impl_MarksAt_L7 fu fu1 from' to x (addI .i64 x_1 1) x_2))
   (some ([] : List ByteArray))) := by kernel_rfl
theorem spec_MarksAt.eq (r : List T_siiii) (r_1 : List T_sib) (from' : Int) (to : Int) (fu : Nat) : spec_MarksAt (fu + 1) r r_1 from' to =
  (optB (spec_RopeFault fu r r_1) fun r0 =>
  brB (notB (eqI r0 0))
   (some ([] : List ByteArray))
   (spec_MarksAt_L6 fu fu from' to 0 r r_1 ([] : List ByteArray) ([] : List Int))) := by kernel_rfl
theorem laws_lwTexts.eq (a : List T_s) (b : List T_s) (fu : Nat) : laws_lwTexts (fu + 1) a b =
  (brB (notB (eqI (ln a) (ln b)))
   (some false)
   (laws_lwTexts_L4 fu fu a b 0)) := by kernel_rfl
theorem laws_szRopeNodeS_L5.eq (a : List T_siiii) (left : Int) (i : Int) (fu fu1 : Nat) : laws_szRopeNodeS_L5 fu (fu1 + 1) a left i =
  (brB (ltI i (ln a))
   (chk (leI 0 i) <|
   chk (ltI i (ln a)) <|
   optB (laws_szRopeNode fu ((rd a i ((bs []), (0, (0, (0, 0))))).1) (((rd a i ((bs []), (0, (0, (0, 0))))).2).1) ((((rd a i ((bs []), (0, (0, (0, 0))))).2).2).1) (((((rd a i ((bs []), (0, (0, (0, 0))))).2).2).2).1) (((((rd a i ((bs []), (0, (0, (0, 0))))).2).2).2).2) left) fun r0 =>
   brB (ltI r0 0)
    (some (-1))
    (laws_szRopeNodeS_L5 fu fu1 a r0 (addI .i64 i 1)))
   (some left)) := by kernel_rfl
theorem laws_szMarkS_L5.eq (a : List T_sib) (left : Int) (i : Int) (fu fu1 : Nat) : laws_szMarkS_L5 fu (fu1 + 1) a left i =
  (brB (ltI i (ln a))
   (chk (leI 0 i) <|
   chk (ltI i (ln a)) <|
   optB (laws_szMark fu ((rd a i ((bs []), (0, false))).1) (((rd a i ((bs []), (0, false))).2).1) (((rd a i ((bs []), (0, false))).2).2) left) fun r0 =>
   brB (ltI r0 0)
    (some (-1))
    (laws_szMarkS_L5 fu fu1 a r0 (addI .i64 i 1)))
   (some left)) := by kernel_rfl
theorem laws_toRopeNodeS_L3.eq (a : List T_siiii) (i : Int) (out : List T_siiii) (fu fu1 : Nat) : laws_toRopeNodeS_L3 fu (fu1 + 1) a i out =
  (brB (ltI i (ln a))
   (chk (leI 0 i) <|
   chk (ltI i (ln a)) <|
   optB (laws_toRopeNode fu ((rd a i ((bs []), (0, (0, (0, 0))))).1) (((rd a i ((bs []), (0, (0, (0, 0))))).2).1) ((((rd a i ((bs []), (0, (0, (0, 0))))).2).2).1) (((((rd a i ((bs []), (0, (0, (0, 0))))).2).2).2).1) (((((rd a i ((bs []), (0, (0, (0, 0))))).2).2).2).2)) fun r0 =>
   chk (leI 0 i) <|
   chk (ltI i (ln out)) <|
   laws_toRopeNodeS_L3 fu fu1 a (addI .i64 i 1) (setI out i (r0.1, (r0.2.1, (r0.2.2.1, (r0.2.2.2.1, r0.2.2.2.2))))))
   (some out)) := by kernel_rfl
theorem laws_toMarkS_L3.eq (a : List T_sib) (i : Int) (out : List T_sib) (fu fu1 : Nat) : laws_toMarkS_L3 fu (fu1 + 1) a i out =
  (brB (ltI i (ln a))
   (chk (leI 0 i) <|
   chk (ltI i (ln a)) <|
   optB (laws_toMark fu ((rd a i ((bs []), (0, false))).1) (((rd a i ((bs []), (0, false))).2).1) (((rd a i ((bs []), (0, false))).2).2)) fun r0 =>
   chk (leI 0 i) <|
   chk (ltI i (ln out)) <|
   laws_toMarkS_L3 fu fu1 a (addI .i64 i 1) (setI out i (r0.1, (r0.2.1, r0.2.2))))
   (some out)) := by kernel_rfl
theorem spec_l20Build.eq (t : ByteArray) (l : List T_siiii) (fu : Nat) : spec_l20Build (fu + 1) t l =
  (brB (bytesEq t (bs []))
   (some (l, ()))
   (optB (spec_l20Ends fu t) fun r0 =>
   brB (leI (sz t) 64)
    (chk (ltI (mulZ (addZ (ln l) (ln ((t, ((-1), ((-1), ((sz t), r0)))) :: ([] : List (ByteArray × Int × Int × Int × Int))))) 48) 140737488355328) <|
    some ((catL l ((t, ((-1), ((-1), ((sz t), r0)))) :: ([] : List (ByteArray × Int × Int × Int × Int)))), ()))
    (optB (spec_l20Cut fu t) fun r1 =>
    chk (ltI (mulZ (addZ (ln l) (ln (((bs []), ((-1), ((-1), ((sz t), r0)))) :: ([] : List (ByteArray × Int × Int × Int × Int))))) 48) 140737488355328) <|
    chk (leI 0 (ln l)) <|
    chk (ltI (ln l) (ln (catL l (((bs []), ((-1), ((-1), ((sz t), r0)))) :: ([] : List (ByteArray × Int × Int × Int × Int)))))) <|
    chk (leI 0 r1) <|
    chk (leI r1 (sz t)) <|
    optB (spec_l20Build fu (subs t 0 r1) (setI (catL l (((bs []), ((-1), ((-1), ((sz t), r0)))) :: ([] : List (ByteArray × Int × Int × Int × Int)))) (ln l) ((rd (catL l (((bs []), ((-1), ((-1), ((sz t), r0)))) :: ([] : List (ByteArray × Int × Int × Int × Int)))) (ln l) ((bs []), (0, (0, (0, 0))))).1, ((ln (catL l (((bs []), ((-1), ((-1), ((sz t), r0)))) :: ([] : List (ByteArray × Int × Int × Int × Int))))), ((rd (catL l (((bs []), ((-1), ((-1), ((sz t), r0)))) :: ([] : List (ByteArray × Int × Int × Int × Int)))) (ln l) ((bs []), (0, (0, (0, 0))))).2).2)))) fun r2 =>
    chk (leI 0 (ln l)) <|
    chk (ltI (ln l) (ln r2.1)) <|
    chk (leI 0 r1) <|
    chk (leI r1 (sz t)) <|
    optB (spec_l20Build'1 fu (subs t r1 (sz t)) (setI r2.1 (ln l) ((rd r2.1 (ln l) ((bs []), (0, (0, (0, 0))))).1, (((rd r2.1 (ln l) ((bs []), (0, (0, (0, 0))))).2).1, ((ln r2.1), (((rd r2.1 (ln l) ((bs []), (0, (0, (0, 0))))).2).2).2))))) fun r3 =>
    some (r3.1, ())))) := by kernel_rfl
theorem spec_RopeFault_L8.eq (t : ByteArray) (i : Int) (r : List T_siiii) (r_1 : List T_sib) (own : List T_siiii) (fu fu1 : Nat) : spec_RopeFault_L8 fu (fu1 + 1) t i r r_1 own =
  (brB (ltI i (ln own))
   (chk (leI 0 i) <|
   chk (ltI i (ln own)) <|
   chk (leI 0 i) <|
   chk (ltI i (ln r)) <|
   brB (notB (andB (bytesEq ((rd own i ((bs []), (0, (0, (0, 0))))).1) ((rd r i ((bs []), (0, (0, (0, 0))))).1)) (andB (eqI (((rd own i ((bs []), (0, (0, (0, 0))))).2).1) (((rd r i ((bs []), (0, (0, (0, 0))))).2).1)) (andB (eqI ((((rd own i ((bs []), (0, (0, (0, 0))))).2).2).1) ((((rd r i ((bs []), (0, (0, (0, 0))))).2).2).1)) (andB (eqI (((((rd own i ((bs []), (0, (0, (0, 0))))).2).2).2).1) (((((rd r i ((bs []), (0, (0, (0, 0))))).2).2).2).1)) (andB (eqI (((((rd own i ((bs []), (0, (0, (0, 0))))).2).2).2).2) (((((rd r i ((bs []), (0, (0, (0, 0))))).2).2).2).2)) true))))))
    (some 1)
    (spec_RopeFault_L8 fu fu1 t (addI .i64 i 1) r r_1 own))
   (spec_RopeFault_L13 fu fu t 0 r r_1)) := by kernel_rfl
theorem spec_l20Text_L3.eq (l : List T_siiii) (i : Int) (out : List T_y) (fu fu1 : Nat) : spec_l20Text_L3 fu (fu1 + 1) l i out =
  (brB (ltI i (ln l))
   (chk (leI 0 i) <|
   chk (ltI i (ln l)) <|
   chk (ltI (mulZ (addZ (ln out) (ln (numsOf ((rd l i ((bs []), (0, (0, (0, 0))))).1)))) 1) 140737488355328) <|
   spec_l20Text_L3 fu fu1 l (addI .i64 i 1) (catL out (numsOf ((rd l i ((bs []), (0, (0, (0, 0))))).1))))
   (some (bytesOf out))) := by kernel_rfl
theorem spec_l17IsName.eq (t : ByteArray) (fu : Nat) : spec_l17IsName (fu + 1) t =
  (brB (ltI (sz t) 1)
   (some false)
   (brB (ltI 20 (sz t))
    (some false)
    (chk (leI 0 0) <|
    chk (ltI 0 (sz t)) <|
    brB (ltI (bt t 0) 97)
     (some false)
     (chk (leI 0 0) <|
     chk (ltI 0 (sz t)) <|
     brB (ltI 122 (bt t 0))
      (some false)
      (spec_l17IsName_L4 fu fu t 1))))) := by kernel_rfl
theorem spec_PutMark_J11.eq (put : Bool) (i : Int) (r : List T_siiii) (r_1 : List T_sib) (m : ByteArray) (m_1 : Int) (m_2 : Bool) (x : Int) (marks : List T_sib) (fu fu1 : Nat) : spec_PutMark_J11 fu fu1 put i r r_1 m m_1 m_2 x marks =
  (chk (leI 0 i) <|
  chk (ltI i (ln r_1)) <|
  brB (notB (bytesEq ((rd r_1 i ((bs []), (0, false))).1) m))
   (chk (leI 0 i) <|
   chk (ltI i (ln r_1)) <|
   chk (ltI (mulZ (addZ (ln marks) (ln (((rd r_1 i ((bs []), (0, false))).1, (((rd r_1 i ((bs []), (0, false))).2).1, ((rd r_1 i ((bs []), (0, false))).2).2)) :: ([] : List (ByteArray × Int × Bool))))) 32) 140737488355328) <|
   spec_PutMark_L6 fu fu1 put (addI .i64 i 1) r r_1 m m_1 m_2 x (catL marks (((rd r_1 i ((bs []), (0, false))).1, (((rd r_1 i ((bs []), (0, false))).2).1, ((rd r_1 i ((bs []), (0, false))).2).2)) :: ([] : List (ByteArray × Int × Bool)))))
   (spec_PutMark_L6 fu fu1 put (addI .i64 i 1) r r_1 m m_1 m_2 x marks)) := by unfold spec_PutMark_J11; rw [joinAt_eq]; kernel_rfl
theorem spec_PutMark_J15.eq (r : List T_siiii) (r_1 : List T_sib) (x : Int) (marks : List T_sib) (fu : Nat) : spec_PutMark_J15 fu r r_1 x marks =
  (brB (ltI 100 (ln marks))
   (some (4, (([] : List (ByteArray × Int × Int × Int × Int)), ([] : List (ByteArray × Int × Bool)))))
   (chk (ltI (mulZ (addZ (ln ([] : List (ByteArray × Int × Int × Int × Int))) (ln r)) 48) 140737488355328) <|
   some (0, ((catL ([] : List (ByteArray × Int × Int × Int × Int)) r), marks)))) := by unfold spec_PutMark_J15; rw [joinAt_eq]; kernel_rfl
theorem impl_long.eq (s : ByteArray) (fu : Nat) : impl_long (fu + 1) s =
  (some (ltI 65536 (sz s))) := by kernel_rfl
theorem impl_marksRight.eq (l : List T_sib) (n : Int) (fu : Nat) : impl_marksRight (fu + 1) l n =
  (impl_marksRight_L2 fu fu l n l (ln l) 0) := by kernel_rfl
theorem impl_ropeOf.eq (s : ByteArray) (marks : List T_sib) (fu : Nat) : impl_ropeOf (fu + 1) s marks =
  (brB (notB (bytesEq s (bs [])))
   (optB (impl_ropeTree fu s ([] : List (ByteArray × Int × Int × Int × Int))) fun r0 =>
   some ((r0.1, marks), ()))
   (some ((([] : List (ByteArray × Int × Int × Int × Int)), marks), ()))) := by kernel_rfl
theorem slices_Equal_RopeNode_RopeNode.eq (s1 : List T_siiii) (s2 : List T_siiii) (fu : Nat) : slices_Equal_RopeNode_RopeNode (fu + 1) s1 s2 =
  (brB (notB (eqI (ln s1) (ln s2)))
   (some false)
   (slices_Equal_RopeNode_RopeNode_L4 fu fu s1 s2 (ln s1) 0)) := by kernel_rfl
theorem impl_isName_L2.eq (s : ByteArray) (x : Int) (x_1 : Int) (fu fu1 : Nat) : impl_isName_L2 fu (fu1 + 1) s x x_1 =
  (brB (ltI x_1 x)
   (chk (leI 0 x_1) <|
   chk (ltI x_1 (sz s)) <|
   brB (leI 97 (bt s x_1))
    (brB (leI (bt s x_1) 122)
     (impl_isName_L2 fu fu1 s x (addI .i64 x_1 1))
     (brB (ltI 0 x_1)
      (brB (leI 48 (bt s x_1))
       (brB (leI (bt s x_1) 57)
        (impl_isName_L2 fu fu1 s x (addI .i64 x_1 1))
        (brB (eqI (bt s x_1) 45)
         (impl_isName_L2 fu fu1 s x (addI .i64 x_1 1))
         (some false)))
       (brB (eqI (bt s x_1) 45)
        (impl_isName_L2 fu fu1 s x (addI .i64 x_1 1))
        (some false)))
      (some false)))
    (brB (ltI 0 x_1)
     (brB (leI 48 (bt s x_1))
      (brB (leI (bt s x_1) 57)
       (impl_isName_L2 fu fu1 s x (addI .i64 x_1 1))
       (brB (eqI (bt s x_1) 45)
        (impl_isName_L2 fu fu1 s x (addI .i64 x_1 1))
        (some false)))
      (brB (eqI (bt s x_1) 45)
       (impl_isName_L2 fu fu1 s x (addI .i64 x_1 1))
       (some false)))
     (some false)))
   (brB (leI 1 (sz s))
    (some (leI (sz s) 20))
    (some false))) := by kernel_rfl
theorem impl_ropeText_L3.eq (x : List T_siiii) (x_1 : Int) (x_2 : Int) (b : ByteArray) (fu fu1 : Nat) : impl_ropeText_L3 fu (fu1 + 1) x x_1 x_2 b =
  (brB (ltI x_2 x_1)
   (chk (leI 0 x_2) <|
   chk (ltI x_2 (ln x)) <|
   chk (leI (addZ (sz b) (sz ((rd x x_2 ((bs []), (0, (0, (0, 0))))).1))) 140737488355328) <|
   impl_ropeText_L3 fu fu1 x x_1 (addI .i64 x_2 1) (catS b ((rd x x_2 ((bs []), (0, (0, (0, 0))))).1)))
   (some b)) := by kernel_rfl
theorem slices_DeleteFunc_Mark_Mark.eq (s : List T_sib) (x : ByteArray) (x_1 : Int) (x_2 : Bool) (fu : Nat) : slices_DeleteFunc_Mark_Mark (fu + 1) s x x_1 x_2 =
  (optB (slices_IndexFunc_Mark_Mark fu s x x_1 x_2) fun r0 =>
  brB (eqI r0.1 (-1))
   (some (s, ((), (r0.2.1, (r0.2.2.1, r0.2.2.2)))))
   (slices_DeleteFunc_Mark_Mark_L5 fu fu r0.1 (addI .i64 r0.1 1) s r0.2.1 r0.2.2.1 r0.2.2.2)) := by kernel_rfl
theorem laws_eqRopeNodeS_L4.eq (a : List T_siiii) (b : List T_siiii) (i : Int) (fu fu1 : Nat) : laws_eqRopeNodeS_L4 fu (fu1 + 1) a b i =
  (brB (ltI i (ln a))
   (chk (leI 0 i) <|
   chk (ltI i (ln a)) <|
   chk (leI 0 i) <|
   chk (ltI i (ln b)) <|
   optB (laws_eqRopeNode fu ((rd a i ((bs []), (0, (0, (0, 0))))).1) (((rd a i ((bs []), (0, (0, (0, 0))))).2).1) ((((rd a i ((bs []), (0, (0, (0, 0))))).2).2).1) (((((rd a i ((bs []), (0, (0, (0, 0))))).2).2).2).1) (((((rd a i ((bs []), (0, (0, (0, 0))))).2).2).2).2) ((rd b i ((bs []), (0, (0, (0, 0))))).1) (((rd b i ((bs []), (0, (0, (0, 0))))).2).1) ((((rd b i ((bs []), (0, (0, (0, 0))))).2).2).1) (((((rd b i ((bs []), (0, (0, (0, 0))))).2).2).2).1) (((((rd b i ((bs []), (0, (0, (0, 0))))).2).2).2).2)) fun r0 =>
   brB (notB r0)
    (some false)
    (laws_eqRopeNodeS_L4 fu fu1 a b (addI .i64 i 1)))
   (some true)) := by kernel_rfl
theorem laws_eqMarkS_L4.eq (a : List T_sib) (b : List T_sib) (i : Int) (fu fu1 : Nat) : laws_eqMarkS_L4 fu (fu1 + 1) a b i =
  (brB (ltI i (ln a))
   (chk (leI 0 i) <|
   chk (ltI i (ln a)) <|
   chk (leI 0 i) <|
   chk (ltI i (ln b)) <|
   optB (laws_eqMark fu ((rd a i ((bs []), (0, false))).1) (((rd a i ((bs []), (0, false))).2).1) (((rd a i ((bs []), (0, false))).2).2) ((rd b i ((bs []), (0, false))).1) (((rd b i ((bs []), (0, false))).2).1) (((rd b i ((bs []), (0, false))).2).2)) fun r0 =>
   brB (notB r0)
    (some false)
    (laws_eqMarkS_L4 fu fu1 a b (addI .i64 i 1)))
   (some true)) := by kernel_rfl
theorem laws_markRopeNodeS_L2.eq (k : Int) (i : Int) (a : List T_siiii) (fu fu1 : Nat) : laws_markRopeNodeS_L2 fu (fu1 + 1) k i a =
  (brB (ltI i (ln a))
   (optB (laws_markText fu k) fun r0 =>
   chk (leI 0 i) <|
   chk (ltI i (ln a)) <|
   chk (leI 0 i) <|
   chk (ltI i (ln (setI a i (r0, (rd a i ((bs []), (0, (0, (0, 0))))).2)))) <|
   chk (leI 0 i) <|
   chk (ltI i (ln (setI (setI a i (r0, (rd a i ((bs []), (0, (0, (0, 0))))).2)) i ((rd (setI a i (r0, (rd a i ((bs []), (0, (0, (0, 0))))).2)) i ((bs []), (0, (0, (0, 0))))).1, ((addI .i64 k 1), ((rd (setI a i (r0, (rd a i ((bs []), (0, (0, (0, 0))))).2)) i ((bs []), (0, (0, (0, 0))))).2).2))))) <|
   chk (leI 0 i) <|
   chk (ltI i (ln (setI (setI (setI a i (r0, (rd a i ((bs []), (0, (0, (0, 0))))).2)) i ((rd (setI a i (r0, (rd a i ((bs []), (0, (0, (0, 0))))).2)) i ((bs []), (0, (0, (0, 0))))).1, ((addI .i64 k 1), ((rd (setI a i (r0, (rd a i ((bs []), (0, (0, (0, 0))))).2)) i ((bs []), (0, (0, (0, 0))))).2).2))) i ((rd (setI (setI a i (r0, (rd a i ((bs []), (0, (0, (0, 0))))).2)) i ((rd (setI a i (r0, (rd a i ((bs []), (0, (0, (0, 0))))).2)) i ((bs []), (0, (0, (0, 0))))).1, ((addI .i64 k 1), ((rd (setI a i (r0, (rd a i ((bs []), (0, (0, (0, 0))))).2)) i ((bs []), (0, (0, (0, 0))))).2).2))) i ((bs []), (0, (0, (0, 0))))).1, (((rd (setI (setI a i (r0, (rd a i ((bs []), (0, (0, (0, 0))))).2)) i ((rd (setI a i (r0, (rd a i ((bs []), (0, (0, (0, 0))))).2)) i ((bs []), (0, (0, (0, 0))))).1, ((addI .i64 k 1), ((rd (setI a i (r0, (rd a i ((bs []), (0, (0, (0, 0))))).2)) i ((bs []), (0, (0, (0, 0))))).2).2))) i ((bs []), (0, (0, (0, 0))))).2).1, ((addI .i64 (addI .i64 k 1) 1), (((rd (setI (setI a i (r0, (rd a i ((bs []), (0, (0, (0, 0))))).2)) i ((rd (setI a i (r0, (rd a i ((bs []), (0, (0, (0, 0))))).2)) i ((bs []), (0, (0, (0, 0))))).1, ((addI .i64 k 1), ((rd (setI a i (r0, (rd a i ((bs []), (0, (0, (0, 0))))).2)) i ((bs []), (0, (0, (0, 0))))).2).2))) i ((bs []), (0, (0, (0, 0))))).2).2).2)))))) <|
   chk (leI 0 i) <|
   chk (ltI i (ln (setI (setI (setI (setI a i (r0, (rd a i ((bs []), (0, (0, (0, 0))))).2)) i ((rd (setI a i (r0, (rd a i ((bs []), (0, (0, (0, 0))))).2)) i ((bs []), (0, (0, (0, 0))))).1, ((addI .i64 k 1), ((rd (setI a i (r0, (rd a i ((bs []), (0, (0, (0, 0))))).2)) i ((bs []), (0, (0, (0, 0))))).2).2))) i ((rd (setI (setI a i (r0, (rd a i ((bs []), (0, (0, (0, 0))))).2)) i ((rd (setI a i (r0, (rd a i ((bs []), (0, (0, (0, 0))))).2)) i ((bs []), (0, (0, (0, 0))))).1, ((addI .i64 k 1), ((rd (setI a i (r0, (rd a i ((bs []), (0, (0, (0, 0))))).2)) i ((bs []), (0, (0, (0, 0))))).2).2))) i ((bs []), (0, (0, (0, 0))))).1, (((rd (setI (setI a i (r0, (rd a i ((bs []), (0, (0, (0, 0))))).2)) i ((rd (setI a i (r0, (rd a i ((bs []), (0, (0, (0, 0))))).2)) i ((bs []), (0, (0, (0, 0))))).1, ((addI .i64 k 1), ((rd (setI a i (r0, (rd a i ((bs []), (0, (0, (0, 0))))).2)) i ((bs []), (0, (0, (0, 0))))).2).2))) i ((bs []), (0, (0, (0, 0))))).2).1, ((addI .i64 (addI .i64 k 1) 1), (((rd (setI (setI a i (r0, (rd a i ((bs []), (0, (0, (0, 0))))).2)) i ((rd (setI a i (r0, (rd a i ((bs []), (0, (0, (0, 0))))).2)) i ((bs []), (0, (0, (0, 0))))).1, ((addI .i64 k 1), ((rd (setI a i (r0, (rd a i ((bs []), (0, (0, (0, 0))))).2)) i ((bs []), (0, (0, (0, 0))))).2).2))) i ((bs []), (0, (0, (0, 0))))).2).2).2)))) i ((rd (setI (setI (setI a i (r0, (rd a i ((bs []), (0, (0, (0, 0))))).2)) i ((rd (setI a i (r0, (rd a i ((bs []), (0, (0, (0, 0))))).2)) i ((bs []), (0, (0, (0, 0))))).1, ((addI .i64 k 1), ((rd (setI a i (r0, (rd a i ((bs []), (0, (0, (0, 0))))).2)) i ((bs []), (0, (0, (0, 0))))).2).2))) i ((rd (setI (setI a i (r0, (rd a i ((bs []), (0, (0, (0, 0))))).2)) i ((rd (setI a i (r0, (rd a i ((bs []), (0, (0, (0, 0))))).2)) i ((bs []), (0, (0, (0, 0))))).1, ((addI .i64 k 1), ((rd (setI a i (r0, (rd a i ((bs []), (0, (0, (0, 0))))).2)) i ((bs []), (0, (0, (0, 0))))).2).2))) i ((bs []), (0, (0, (0, 0))))).1, (((rd (setI (setI a i (r0, (rd a i ((bs []), (0, (0, (0, 0))))).2)) i ((rd (setI a i (r0, (rd a i ((bs []), (0, (0, (0, 0))))).2)) i ((bs []), (0, (0, (0, 0))))).1, ((addI .i64 k 1), ((rd (setI a i (r0, (rd a i ((bs []), (0, (0, (0, 0))))).2)) i ((bs []), (0, (0, (0, 0))))).2).2))) i ((bs []), (0, (0, (0, 0))))).2).1, ((addI .i64 (addI .i64 k 1) 1), (((rd (setI (setI a i (r0, (rd a i ((bs []), (0, (0, (0, 0))))).2)) i ((rd (setI a i (r0, (rd a i ((bs []), (0, (0, (0, 0))))).2)) i ((bs []), (0, (0, (0, 0))))).1, ((addI .i64 k 1), ((rd (setI a i (r0, (rd a i ((bs []), (0, (0, (0, 0))))).2)) i ((bs []), (0, (0, (0, 0))))).2).2))) i ((bs []), (0, (0, (0, 0))))).2).2).2)))) i ((bs []), (0, (0, (0, 0))))).1, (((rd (setI (setI (setI a i (r0, (rd a i ((bs []), (0, (0, (0, 0))))).2)) i ((rd (setI a i (r0, (rd a i ((bs []), (0, (0, (0, 0))))).2)) i ((bs []), (0, (0, (0, 0))))).1, ((addI .i64 k 1), ((rd (setI a i (r0, (rd a i ((bs []), (0, (0, (0, 0))))).2)) i ((bs []), (0, (0, (0, 0))))).2).2))) i ((rd (setI (setI a i (r0, (rd a i ((bs []), (0, (0, (0, 0))))).2)) i ((rd (setI a i (r0, (rd a i ((bs []), (0, (0, (0, 0))))).2)) i ((bs []), (0, (0, (0, 0))))).1, ((addI .i64 k 1), ((rd (setI a i (r0, (rd a i ((bs []), (0, (0, (0, 0))))).2)) i ((bs []), (0, (0, (0, 0))))).2).2))) i ((bs []), (0, (0, (0, 0))))).1, (((rd (setI (setI a i (r0, (rd a i ((bs []), (0, (0, (0, 0))))).2)) i ((rd (setI a i (r0, (rd a i ((bs []), (0, (0, (0, 0))))).2)) i ((bs []), (0, (0, (0, 0))))).1, ((addI .i64 k 1), ((rd (setI a i (r0, (rd a i ((bs []), (0, (0, (0, 0))))).2)) i ((bs []), (0, (0, (0, 0))))).2).2))) i ((bs []), (0, (0, (0, 0))))).2).1, ((addI .i64 (addI .i64 k 1) 1), (((rd (setI (setI a i (r0, (rd a i ((bs []), (0, (0, (0, 0))))).2)) i ((rd (setI a i (r0, (rd a i ((bs []), (0, (0, (0, 0))))).2)) i ((bs []), (0, (0, (0, 0))))).1, ((addI .i64 k 1), ((rd (setI a i (r0, (rd a i ((bs []), (0, (0, (0, 0))))).2)) i ((bs []), (0, (0, (0, 0))))).2).2))) i ((bs []), (0, (0, (0, 0))))).2).2).2)))) i ((bs []), (0, (0, (0, 0))))).2).1, ((((rd (setI (setI (setI a i (r0, (rd a i ((bs []), (0, (0, (0, 0))))).2)) i ((rd (setI a i (r0, (rd a i ((bs []), (0, (0, (0, 0))))).2)) i ((bs []), (0, (0, (0, 0))))).1, ((addI .i64 k 1), ((rd (setI a i (r0, (rd a i ((bs []), (0, (0, (0, 0))))).2)) i ((bs []), (0, (0, (0, 0))))).2).2))) i ((rd (setI (setI a i (r0, (rd a i ((bs []), (0, (0, (0, 0))))).2)) i ((rd (setI a i (r0, (rd a i ((bs []), (0, (0, (0, 0))))).2)) i ((bs []), (0, (0, (0, 0))))).1, ((addI .i64 k 1), ((rd (setI a i (r0, (rd a i ((bs []), (0, (0, (0, 0))))).2)) i ((bs []), (0, (0, (0, 0))))).2).2))) i ((bs []), (0, (0, (0, 0))))).1, (((rd (setI (setI a i (r0, (rd a i ((bs []), (0, (0, (0, 0))))).2)) i ((rd (setI a i (r0, (rd a i ((bs []), (0, (0, (0, 0))))).2)) i ((bs []), (0, (0, (0, 0))))).1, ((addI .i64 k 1), ((rd (setI a i (r0, (rd a i ((bs []), (0, (0, (0, 0))))).2)) i ((bs []), (0, (0, (0, 0))))).2).2))) i ((bs []), (0, (0, (0, 0))))).2).1, ((addI .i64 (addI .i64 k 1) 1), (((rd (setI (setI a i (r0, (rd a i ((bs []), (0, (0, (0, 0))))).2)) i ((rd (setI a i (r0, (rd a i ((bs []), (0, (0, (0, 0))))).2)) i ((bs []), (0, (0, (0, 0))))).1, ((addI .i64 k 1), ((rd (setI a i (r0, (rd a i ((bs []), (0, (0, (0, 0))))).2)) i ((bs []), (0, (0, (0, 0))))).2).2))) i ((bs []), (0, (0, (0, 0))))).2).2).2)))) i ((bs []), (0, (0, (0, 0))))).2).2).1, ((addI .i64 (addI .i64 (addI .i64 k 1) 1) 1), ((((rd (setI (setI (setI a i (r0, (rd a i ((bs []), (0, (0, (0, 0))))).2)) i ((rd (setI a i (r0, (rd a i ((bs []), (0, (0, (0, 0))))).2)) i ((bs []), (0, (0, (0, 0))))).1, ((addI .i64 k 1), ((rd (setI a i (r0, (rd a i ((bs []), (0, (0, (0, 0))))).2)) i ((bs []), (0, (0, (0, 0))))).2).2))) i ((rd (setI (setI a i (r0, (rd a i ((bs []), (0, (0, (0, 0))))).2)) i ((rd (setI a i (r0, (rd a i ((bs []), (0, (0, (0, 0))))).2)) i ((bs []), (0, (0, (0, 0))))).1, ((addI .i64 k 1), ((rd (setI a i (r0, (rd a i ((bs []), (0, (0, (0, 0))))).2)) i ((bs []), (0, (0, (0, 0))))).2).2))) i ((bs []), (0, (0, (0, 0))))).1, (((rd (setI (setI a i (r0, (rd a i ((bs []), (0, (0, (0, 0))))).2)) i ((rd (setI a i (r0, (rd a i ((bs []), (0, (0, (0, 0))))).2)) i ((bs []), (0, (0, (0, 0))))).1, ((addI .i64 k 1), ((rd (setI a i (r0, (rd a i ((bs []), (0, (0, (0, 0))))).2)) i ((bs []), (0, (0, (0, 0))))).2).2))) i ((bs []), (0, (0, (0, 0))))).2).1, ((addI .i64 (addI .i64 k 1) 1), (((rd (setI (setI a i (r0, (rd a i ((bs []), (0, (0, (0, 0))))).2)) i ((rd (setI a i (r0, (rd a i ((bs []), (0, (0, (0, 0))))).2)) i ((bs []), (0, (0, (0, 0))))).1, ((addI .i64 k 1), ((rd (setI a i (r0, (rd a i ((bs []), (0, (0, (0, 0))))).2)) i ((bs []), (0, (0, (0, 0))))).2).2))) i ((bs []), (0, (0, (0, 0))))).2).2).2)))) i ((bs []), (0, (0, (0, 0))))).2).2).2).2))))))) <|
   laws_markRopeNodeS_L2 fu fu1 (addI .i64 (addI .i64 (addI .i64 (addI .i64 (addI .i64 k 1) 1) 1) 1) 1) (addI .i64 i 1) (setI (setI (setI (setI (setI a i (r0, (rd a i ((bs []), (0, (0, (0, 0))))).2)) i ((rd (setI a i (r0, (rd a i ((bs []), (0, (0, (0, 0))))).2)) i ((bs []), (0, (0, (0, 0))))).1, ((addI .i64 k 1), ((rd (setI a i (r0, (rd a i ((bs []), (0, (0, (0, 0))))).2)) i ((bs []), (0, (0, (0, 0))))).2).2))) i ((rd (setI (setI a i (r0, (rd a i ((bs []), (0, (0, (0, 0))))).2)) i ((rd (setI a i (r0, (rd a i ((bs []), (0, (0, (0, 0))))).2)) i ((bs []), (0, (0, (0, 0))))).1, ((addI .i64 k 1), ((rd (setI a i (r0, (rd a i ((bs []), (0, (0, (0, 0))))).2)) i ((bs []), (0, (0, (0, 0))))).2).2))) i ((bs []), (0, (0, (0, 0))))).1, (((rd (setI (setI a i (r0, (rd a i ((bs []), (0, (0, (0, 0))))).2)) i ((rd (setI a i (r0, (rd a i ((bs []), (0, (0, (0, 0))))).2)) i ((bs []), (0, (0, (0, 0))))).1, ((addI .i64 k 1), ((rd (setI a i (r0, (rd a i ((bs []), (0, (0, (0, 0))))).2)) i ((bs []), (0, (0, (0, 0))))).2).2))) i ((bs []), (0, (0, (0, 0))))).2).1, ((addI .i64 (addI .i64 k 1) 1), (((rd (setI (setI a i (r0, (rd a i ((bs []), (0, (0, (0, 0))))).2)) i ((rd (setI a i (r0, (rd a i ((bs []), (0, (0, (0, 0))))).2)) i ((bs []), (0, (0, (0, 0))))).1, ((addI .i64 k 1), ((rd (setI a i (r0, (rd a i ((bs []), (0, (0, (0, 0))))).2)) i ((bs []), (0, (0, (0, 0))))).2).2))) i ((bs []), (0, (0, (0, 0))))).2).2).2)))) i ((rd (setI (setI (setI a i (r0, (rd a i ((bs []), (0, (0, (0, 0))))).2)) i ((rd (setI a i (r0, (rd a i ((bs []), (0, (0, (0, 0))))).2)) i ((bs []), (0, (0, (0, 0))))).1, ((addI .i64 k 1), ((rd (setI a i (r0, (rd a i ((bs []), (0, (0, (0, 0))))).2)) i ((bs []), (0, (0, (0, 0))))).2).2))) i ((rd (setI (setI a i (r0, (rd a i ((bs []), (0, (0, (0, 0))))).2)) i ((rd (setI a i (r0, (rd a i ((bs []), (0, (0, (0, 0))))).2)) i ((bs []), (0, (0, (0, 0))))).1, ((addI .i64 k 1), ((rd (setI a i (r0, (rd a i ((bs []), (0, (0, (0, 0))))).2)) i ((bs []), (0, (0, (0, 0))))).2).2))) i ((bs []), (0, (0, (0, 0))))).1, (((rd (setI (setI a i (r0, (rd a i ((bs []), (0, (0, (0, 0))))).2)) i ((rd (setI a i (r0, (rd a i ((bs []), (0, (0, (0, 0))))).2)) i ((bs []), (0, (0, (0, 0))))).1, ((addI .i64 k 1), ((rd (setI a i (r0, (rd a i ((bs []), (0, (0, (0, 0))))).2)) i ((bs []), (0, (0, (0, 0))))).2).2))) i ((bs []), (0, (0, (0, 0))))).2).1, ((addI .i64 (addI .i64 k 1) 1), (((rd (setI (setI a i (r0, (rd a i ((bs []), (0, (0, (0, 0))))).2)) i ((rd (setI a i (r0, (rd a i ((bs []), (0, (0, (0, 0))))).2)) i ((bs []), (0, (0, (0, 0))))).1, ((addI .i64 k 1), ((rd (setI a i (r0, (rd a i ((bs []), (0, (0, (0, 0))))).2)) i ((bs []), (0, (0, (0, 0))))).2).2))) i ((bs []), (0, (0, (0, 0))))).2).2).2)))) i ((bs []), (0, (0, (0, 0))))).1, (((rd (setI (setI (setI a i (r0, (rd a i ((bs []), (0, (0, (0, 0))))).2)) i ((rd (setI a i (r0, (rd a i ((bs []), (0, (0, (0, 0))))).2)) i ((bs []), (0, (0, (0, 0))))).1, ((addI .i64 k 1), ((rd (setI a i (r0, (rd a i ((bs []), (0, (0, (0, 0))))).2)) i ((bs []), (0, (0, (0, 0))))).2).2))) i ((rd (setI (setI a i (r0, (rd a i ((bs []), (0, (0, (0, 0))))).2)) i ((rd (setI a i (r0, (rd a i ((bs []), (0, (0, (0, 0))))).2)) i ((bs []), (0, (0, (0, 0))))).1, ((addI .i64 k 1), ((rd (setI a i (r0, (rd a i ((bs []), (0, (0, (0, 0))))).2)) i ((bs []), (0, (0, (0, 0))))).2).2))) i ((bs []), (0, (0, (0, 0))))).1, (((rd (setI (setI a i (r0, (rd a i ((bs []), (0, (0, (0, 0))))).2)) i ((rd (setI a i (r0, (rd a i ((bs []), (0, (0, (0, 0))))).2)) i ((bs []), (0, (0, (0, 0))))).1, ((addI .i64 k 1), ((rd (setI a i (r0, (rd a i ((bs []), (0, (0, (0, 0))))).2)) i ((bs []), (0, (0, (0, 0))))).2).2))) i ((bs []), (0, (0, (0, 0))))).2).1, ((addI .i64 (addI .i64 k 1) 1), (((rd (setI (setI a i (r0, (rd a i ((bs []), (0, (0, (0, 0))))).2)) i ((rd (setI a i (r0, (rd a i ((bs []), (0, (0, (0, 0))))).2)) i ((bs []), (0, (0, (0, 0))))).1, ((addI .i64 k 1), ((rd (setI a i (r0, (rd a i ((bs []), (0, (0, (0, 0))))).2)) i ((bs []), (0, (0, (0, 0))))).2).2))) i ((bs []), (0, (0, (0, 0))))).2).2).2)))) i ((bs []), (0, (0, (0, 0))))).2).1, ((((rd (setI (setI (setI a i (r0, (rd a i ((bs []), (0, (0, (0, 0))))).2)) i ((rd (setI a i (r0, (rd a i ((bs []), (0, (0, (0, 0))))).2)) i ((bs []), (0, (0, (0, 0))))).1, ((addI .i64 k 1), ((rd (setI a i (r0, (rd a i ((bs []), (0, (0, (0, 0))))).2)) i ((bs []), (0, (0, (0, 0))))).2).2))) i ((rd (setI (setI a i (r0, (rd a i ((bs []), (0, (0, (0, 0))))).2)) i ((rd (setI a i (r0, (rd a i ((bs []), (0, (0, (0, 0))))).2)) i ((bs []), (0, (0, (0, 0))))).1, ((addI .i64 k 1), ((rd (setI a i (r0, (rd a i ((bs []), (0, (0, (0, 0))))).2)) i ((bs []), (0, (0, (0, 0))))).2).2))) i ((bs []), (0, (0, (0, 0))))).1, (((rd (setI (setI a i (r0, (rd a i ((bs []), (0, (0, (0, 0))))).2)) i ((rd (setI a i (r0, (rd a i ((bs []), (0, (0, (0, 0))))).2)) i ((bs []), (0, (0, (0, 0))))).1, ((addI .i64 k 1), ((rd (setI a i (r0, (rd a i ((bs []), (0, (0, (0, 0))))).2)) i ((bs []), (0, (0, (0, 0))))).2).2))) i ((bs []), (0, (0, (0, 0))))).2).1, ((addI .i64 (addI .i64 k 1) 1), (((rd (setI (setI a i (r0, (rd a i ((bs []), (0, (0, (0, 0))))).2)) i ((rd (setI a i (r0, (rd a i ((bs []), (0, (0, (0, 0))))).2)) i ((bs []), (0, (0, (0, 0))))).1, ((addI .i64 k 1), ((rd (setI a i (r0, (rd a i ((bs []), (0, (0, (0, 0))))).2)) i ((bs []), (0, (0, (0, 0))))).2).2))) i ((bs []), (0, (0, (0, 0))))).2).2).2)))) i ((bs []), (0, (0, (0, 0))))).2).2).1, ((addI .i64 (addI .i64 (addI .i64 k 1) 1) 1), ((((rd (setI (setI (setI a i (r0, (rd a i ((bs []), (0, (0, (0, 0))))).2)) i ((rd (setI a i (r0, (rd a i ((bs []), (0, (0, (0, 0))))).2)) i ((bs []), (0, (0, (0, 0))))).1, ((addI .i64 k 1), ((rd (setI a i (r0, (rd a i ((bs []), (0, (0, (0, 0))))).2)) i ((bs []), (0, (0, (0, 0))))).2).2))) i ((rd (setI (setI a i (r0, (rd a i ((bs []), (0, (0, (0, 0))))).2)) i ((rd (setI a i (r0, (rd a i ((bs []), (0, (0, (0, 0))))).2)) i ((bs []), (0, (0, (0, 0))))).1, ((addI .i64 k 1), ((rd (setI a i (r0, (rd a i ((bs []), (0, (0, (0, 0))))).2)) i ((bs []), (0, (0, (0, 0))))).2).2))) i ((bs []), (0, (0, (0, 0))))).1, (((rd (setI (setI a i (r0, (rd a i ((bs []), (0, (0, (0, 0))))).2)) i ((rd (setI a i (r0, (rd a i ((bs []), (0, (0, (0, 0))))).2)) i ((bs []), (0, (0, (0, 0))))).1, ((addI .i64 k 1), ((rd (setI a i (r0, (rd a i ((bs []), (0, (0, (0, 0))))).2)) i ((bs []), (0, (0, (0, 0))))).2).2))) i ((bs []), (0, (0, (0, 0))))).2).1, ((addI .i64 (addI .i64 k 1) 1), (((rd (setI (setI a i (r0, (rd a i ((bs []), (0, (0, (0, 0))))).2)) i ((rd (setI a i (r0, (rd a i ((bs []), (0, (0, (0, 0))))).2)) i ((bs []), (0, (0, (0, 0))))).1, ((addI .i64 k 1), ((rd (setI a i (r0, (rd a i ((bs []), (0, (0, (0, 0))))).2)) i ((bs []), (0, (0, (0, 0))))).2).2))) i ((bs []), (0, (0, (0, 0))))).2).2).2)))) i ((bs []), (0, (0, (0, 0))))).2).2).2).2))))) i ((rd (setI (setI (setI (setI a i (r0, (rd a i ((bs []), (0, (0, (0, 0))))).2)) i ((rd (setI a i (r0, (rd a i ((bs []), (0, (0, (0, 0))))).2)) i ((bs []), (0, (0, (0, 0))))).1, ((addI .i64 k 1), ((rd (setI a i (r0, (rd a i ((bs []), (0, (0, (0, 0))))).2)) i ((bs []), (0, (0, (0, 0))))).2).2))) i ((rd (setI (setI a i (r0, (rd a i ((bs []), (0, (0, (0, 0))))).2)) i ((rd (setI a i (r0, (rd a i ((bs []), (0, (0, (0, 0))))).2)) i ((bs []), (0, (0, (0, 0))))).1, ((addI .i64 k 1), ((rd (setI a i (r0, (rd a i ((bs []), (0, (0, (0, 0))))).2)) i ((bs []), (0, (0, (0, 0))))).2).2))) i ((bs []), (0, (0, (0, 0))))).1, (((rd (setI (setI a i (r0, (rd a i ((bs []), (0, (0, (0, 0))))).2)) i ((rd (setI a i (r0, (rd a i ((bs []), (0, (0, (0, 0))))).2)) i ((bs []), (0, (0, (0, 0))))).1, ((addI .i64 k 1), ((rd (setI a i (r0, (rd a i ((bs []), (0, (0, (0, 0))))).2)) i ((bs []), (0, (0, (0, 0))))).2).2))) i ((bs []), (0, (0, (0, 0))))).2).1, ((addI .i64 (addI .i64 k 1) 1), (((rd (setI (setI a i (r0, (rd a i ((bs []), (0, (0, (0, 0))))).2)) i ((rd (setI a i (r0, (rd a i ((bs []), (0, (0, (0, 0))))).2)) i ((bs []), (0, (0, (0, 0))))).1, ((addI .i64 k 1), ((rd (setI a i (r0, (rd a i ((bs []), (0, (0, (0, 0))))).2)) i ((bs []), (0, (0, (0, 0))))).2).2))) i ((bs []), (0, (0, (0, 0))))).2).2).2)))) i ((rd (setI (setI (setI a i (r0, (rd a i ((bs []), (0, (0, (0, 0))))).2)) i ((rd (setI a i (r0, (rd a i ((bs []), (0, (0, (0, 0))))).2)) i ((bs []), (0, (0, (0, 0))))).1, ((addI .i64 k 1), ((rd (setI a i (r0, (rd a i ((bs []), (0, (0, (0, 0))))).2)) i ((bs []), (0, (0, (0, 0))))).2).2))) i ((rd (setI (setI a i (r0, (rd a i ((bs []), (0, (0, (0, 0))))).2)) i ((rd (setI a i (r0, (rd a i ((bs []), (0, (0, (0, 0))))).2)) i ((bs []), (0, (0, (0, 0))))).1, ((addI .i64 k 1), ((rd (setI a i (r0, (rd a i ((bs []), (0, (0, (0, 0))))).2)) i ((bs []), (0, (0, (0, 0))))).2).2))) i ((bs []), (0, (0, (0, 0))))).1, (((rd (setI (setI a i (r0, (rd a i ((bs []), (0, (0, (0, 0))))).2)) i ((rd (setI a i (r0, (rd a i ((bs []), (0, (0, (0, 0))))).2)) i ((bs []), (0, (0, (0, 0))))).1, ((addI .i64 k 1), ((rd (setI a i (r0, (rd a i ((bs []), (0, (0, (0, 0))))).2)) i ((bs []), (0, (0, (0, 0))))).2).2))) i ((bs []), (0, (0, (0, 0))))).2).1, ((addI .i64 (addI .i64 k 1) 1), (((rd (setI (setI a i (r0, (rd a i ((bs []), (0, (0, (0, 0))))).2)) i ((rd (setI a i (r0, (rd a i ((bs []), (0, (0, (0, 0))))).2)) i ((bs []), (0, (0, (0, 0))))).1, ((addI .i64 k 1), ((rd (setI a i (r0, (rd a i ((bs []), (0, (0, (0, 0))))).2)) i ((bs []), (0, (0, (0, 0))))).2).2))) i ((bs []), (0, (0, (0, 0))))).2).2).2)))) i ((bs []), (0, (0, (0, 0))))).1, (((rd (setI (setI (setI a i (r0, (rd a i ((bs []), (0, (0, (0, 0))))).2)) i ((rd (setI a i (r0, (rd a i ((bs []), (0, (0, (0, 0))))).2)) i ((bs []), (0, (0, (0, 0))))).1, ((addI .i64 k 1), ((rd (setI a i (r0, (rd a i ((bs []), (0, (0, (0, 0))))).2)) i ((bs []), (0, (0, (0, 0))))).2).2))) i ((rd (setI (setI a i (r0, (rd a i ((bs []), (0, (0, (0, 0))))).2)) i ((rd (setI a i (r0, (rd a i ((bs []), (0, (0, (0, 0))))).2)) i ((bs []), (0, (0, (0, 0))))).1, ((addI .i64 k 1), ((rd (setI a i (r0, (rd a i ((bs []), (0, (0, (0, 0))))).2)) i ((bs []), (0, (0, (0, 0))))).2).2))) i ((bs []), (0, (0, (0, 0))))).1, (((rd (setI (setI a i (r0, (rd a i ((bs []), (0, (0, (0, 0))))).2)) i ((rd (setI a i (r0, (rd a i ((bs []), (0, (0, (0, 0))))).2)) i ((bs []), (0, (0, (0, 0))))).1, ((addI .i64 k 1), ((rd (setI a i (r0, (rd a i ((bs []), (0, (0, (0, 0))))).2)) i ((bs []), (0, (0, (0, 0))))).2).2))) i ((bs []), (0, (0, (0, 0))))).2).1, ((addI .i64 (addI .i64 k 1) 1), (((rd (setI (setI a i (r0, (rd a i ((bs []), (0, (0, (0, 0))))).2)) i ((rd (setI a i (r0, (rd a i ((bs []), (0, (0, (0, 0))))).2)) i ((bs []), (0, (0, (0, 0))))).1, ((addI .i64 k 1), ((rd (setI a i (r0, (rd a i ((bs []), (0, (0, (0, 0))))).2)) i ((bs []), (0, (0, (0, 0))))).2).2))) i ((bs []), (0, (0, (0, 0))))).2).2).2)))) i ((bs []), (0, (0, (0, 0))))).2).1, ((((rd (setI (setI (setI a i (r0, (rd a i ((bs []), (0, (0, (0, 0))))).2)) i ((rd (setI a i (r0, (rd a i ((bs []), (0, (0, (0, 0))))).2)) i ((bs []), (0, (0, (0, 0))))).1, ((addI .i64 k 1), ((rd (setI a i (r0, (rd a i ((bs []), (0, (0, (0, 0))))).2)) i ((bs []), (0, (0, (0, 0))))).2).2))) i ((rd (setI (setI a i (r0, (rd a i ((bs []), (0, (0, (0, 0))))).2)) i ((rd (setI a i (r0, (rd a i ((bs []), (0, (0, (0, 0))))).2)) i ((bs []), (0, (0, (0, 0))))).1, ((addI .i64 k 1), ((rd (setI a i (r0, (rd a i ((bs []), (0, (0, (0, 0))))).2)) i ((bs []), (0, (0, (0, 0))))).2).2))) i ((bs []), (0, (0, (0, 0))))).1, (((rd (setI (setI a i (r0, (rd a i ((bs []), (0, (0, (0, 0))))).2)) i ((rd (setI a i (r0, (rd a i ((bs []), (0, (0, (0, 0))))).2)) i ((bs []), (0, (0, (0, 0))))).1, ((addI .i64 k 1), ((rd (setI a i (r0, (rd a i ((bs []), (0, (0, (0, 0))))).2)) i ((bs []), (0, (0, (0, 0))))).2).2))) i ((bs []), (0, (0, (0, 0))))).2).1, ((addI .i64 (addI .i64 k 1) 1), (((rd (setI (setI a i (r0, (rd a i ((bs []), (0, (0, (0, 0))))).2)) i ((rd (setI a i (r0, (rd a i ((bs []), (0, (0, (0, 0))))).2)) i ((bs []), (0, (0, (0, 0))))).1, ((addI .i64 k 1), ((rd (setI a i (r0, (rd a i ((bs []), (0, (0, (0, 0))))).2)) i ((bs []), (0, (0, (0, 0))))).2).2))) i ((bs []), (0, (0, (0, 0))))).2).2).2)))) i ((bs []), (0, (0, (0, 0))))).2).2).1, ((addI .i64 (addI .i64 (addI .i64 k 1) 1) 1), ((((rd (setI (setI (setI a i (r0, (rd a i ((bs []), (0, (0, (0, 0))))).2)) i ((rd (setI a i (r0, (rd a i ((bs []), (0, (0, (0, 0))))).2)) i ((bs []), (0, (0, (0, 0))))).1, ((addI .i64 k 1), ((rd (setI a i (r0, (rd a i ((bs []), (0, (0, (0, 0))))).2)) i ((bs []), (0, (0, (0, 0))))).2).2))) i ((rd (setI (setI a i (r0, (rd a i ((bs []), (0, (0, (0, 0))))).2)) i ((rd (setI a i (r0, (rd a i ((bs []), (0, (0, (0, 0))))).2)) i ((bs []), (0, (0, (0, 0))))).1, ((addI .i64 k 1), ((rd (setI a i (r0, (rd a i ((bs []), (0, (0, (0, 0))))).2)) i ((bs []), (0, (0, (0, 0))))).2).2))) i ((bs []), (0, (0, (0, 0))))).1, (((rd (setI (setI a i (r0, (rd a i ((bs []), (0, (0, (0, 0))))).2)) i ((rd (setI a i (r0, (rd a i ((bs []), (0, (0, (0, 0))))).2)) i ((bs []), (0, (0, (0, 0))))).1, ((addI .i64 k 1), ((rd (setI a i (r0, (rd a i ((bs []), (0, (0, (0, 0))))).2)) i ((bs []), (0, (0, (0, 0))))).2).2))) i ((bs []), (0, (0, (0, 0))))).2).1, ((addI .i64 (addI .i64 k 1) 1), (((rd (setI (setI a i (r0, (rd a i ((bs []), (0, (0, (0, 0))))).2)) i ((rd (setI a i (r0, (rd a i ((bs []), (0, (0, (0, 0))))).2)) i ((bs []), (0, (0, (0, 0))))).1, ((addI .i64 k 1), ((rd (setI a i (r0, (rd a i ((bs []), (0, (0, (0, 0))))).2)) i ((bs []), (0, (0, (0, 0))))).2).2))) i ((bs []), (0, (0, (0, 0))))).2).2).2)))) i ((bs []), (0, (0, (0, 0))))).2).2).2).2))))) i ((bs []), (0, (0, (0, 0))))).1, (((rd (setI (setI (setI (setI a i (r0, (rd a i ((bs []), (0, (0, (0, 0))))).2)) i ((rd (setI a i (r0, (rd a i ((bs []), (0, (0, (0, 0))))).2)) i ((bs []), (0, (0, (0, 0))))).1, ((addI .i64 k 1), ((rd (setI a i (r0, (rd a i ((bs []), (0, (0, (0, 0))))).2)) i ((bs []), (0, (0, (0, 0))))).2).2))) i ((rd (setI (setI a i (r0, (rd a i ((bs []), (0, (0, (0, 0))))).2)) i ((rd (setI a i (r0, (rd a i ((bs []), (0, (0, (0, 0))))).2)) i ((bs []), (0, (0, (0, 0))))).1, ((addI .i64 k 1), ((rd (setI a i (r0, (rd a i ((bs []), (0, (0, (0, 0))))).2)) i ((bs []), (0, (0, (0, 0))))).2).2))) i ((bs []), (0, (0, (0, 0))))).1, (((rd (setI (setI a i (r0, (rd a i ((bs []), (0, (0, (0, 0))))).2)) i ((rd (setI a i (r0, (rd a i ((bs []), (0, (0, (0, 0))))).2)) i ((bs []), (0, (0, (0, 0))))).1, ((addI .i64 k 1), ((rd (setI a i (r0, (rd a i ((bs []), (0, (0, (0, 0))))).2)) i ((bs []), (0, (0, (0, 0))))).2).2))) i ((bs []), (0, (0, (0, 0))))).2).1, ((addI .i64 (addI .i64 k 1) 1), (((rd (setI (setI a i (r0, (rd a i ((bs []), (0, (0, (0, 0))))).2)) i ((rd (setI a i (r0, (rd a i ((bs []), (0, (0, (0, 0))))).2)) i ((bs []), (0, (0, (0, 0))))).1, ((addI .i64 k 1), ((rd (setI a i (r0, (rd a i ((bs []), (0, (0, (0, 0))))).2)) i ((bs []), (0, (0, (0, 0))))).2).2))) i ((bs []), (0, (0, (0, 0))))).2).2).2)))) i ((rd (setI (setI (setI a i (r0, (rd a i ((bs []), (0, (0, (0, 0))))).2)) i ((rd (setI a i (r0, (rd a i ((bs []), (0, (0, (0, 0))))).2)) i ((bs []), (0, (0, (0, 0))))).1, ((addI .i64 k 1), ((rd (setI a i (r0, (rd a i ((bs []), (0, (0, (0, 0))))).2)) i ((bs []), (0, (0, (0, 0))))).2).2))) i ((rd (setI (setI a i (r0, (rd a i ((bs []), (0, (0, (0, 0))))).2)) i ((rd (setI a i (r0, (rd a i ((bs []), (0, (0, (0, 0))))).2)) i ((bs []), (0, (0, (0, 0))))).1, ((addI .i64 k 1), ((rd (setI a i (r0, (rd a i ((bs []), (0, (0, (0, 0))))).2)) i ((bs []), (0, (0, (0, 0))))).2).2))) i ((bs []), (0, (0, (0, 0))))).1, (((rd (setI (setI a i (r0, (rd a i ((bs []), (0, (0, (0, 0))))).2)) i ((rd (setI a i (r0, (rd a i ((bs []), (0, (0, (0, 0))))).2)) i ((bs []), (0, (0, (0, 0))))).1, ((addI .i64 k 1), ((rd (setI a i (r0, (rd a i ((bs []), (0, (0, (0, 0))))).2)) i ((bs []), (0, (0, (0, 0))))).2).2))) i ((bs []), (0, (0, (0, 0))))).2).1, ((addI .i64 (addI .i64 k 1) 1), (((rd (setI (setI a i (r0, (rd a i ((bs []), (0, (0, (0, 0))))).2)) i ((rd (setI a i (r0, (rd a i ((bs []), (0, (0, (0, 0))))).2)) i ((bs []), (0, (0, (0, 0))))).1, ((addI .i64 k 1), ((rd (setI a i (r0, (rd a i ((bs []), (0, (0, (0, 0))))).2)) i ((bs []), (0, (0, (0, 0))))).2).2))) i ((bs []), (0, (0, (0, 0))))).2).2).2)))) i ((bs []), (0, (0, (0, 0))))).1, (((rd (setI (setI (setI a i (r0, (rd a i ((bs []), (0, (0, (0, 0))))).2)) i ((rd (setI a i (r0, (rd a i ((bs []), (0, (0, (0, 0))))).2)) i ((bs []), (0, (0, (0, 0))))).1, ((addI .i64 k 1), ((rd (setI a i (r0, (rd a i ((bs []), (0, (0, (0, 0))))).2)) i ((bs []), (0, (0, (0, 0))))).2).2))) i ((rd (setI (setI a i (r0, (rd a i ((bs []), (0, (0, (0, 0))))).2)) i ((rd (setI a i (r0, (rd a i ((bs []), (0, (0, (0, 0))))).2)) i ((bs []), (0, (0, (0, 0))))).1, ((addI .i64 k 1), ((rd (setI a i (r0, (rd a i ((bs []), (0, (0, (0, 0))))).2)) i ((bs []), (0, (0, (0, 0))))).2).2))) i ((bs []), (0, (0, (0, 0))))).1, (((rd (setI (setI a i (r0, (rd a i ((bs []), (0, (0, (0, 0))))).2)) i ((rd (setI a i (r0, (rd a i ((bs []), (0, (0, (0, 0))))).2)) i ((bs []), (0, (0, (0, 0))))).1, ((addI .i64 k 1), ((rd (setI a i (r0, (rd a i ((bs []), (0, (0, (0, 0))))).2)) i ((bs []), (0, (0, (0, 0))))).2).2))) i ((bs []), (0, (0, (0, 0))))).2).1, ((addI .i64 (addI .i64 k 1) 1), (((rd (setI (setI a i (r0, (rd a i ((bs []), (0, (0, (0, 0))))).2)) i ((rd (setI a i (r0, (rd a i ((bs []), (0, (0, (0, 0))))).2)) i ((bs []), (0, (0, (0, 0))))).1, ((addI .i64 k 1), ((rd (setI a i (r0, (rd a i ((bs []), (0, (0, (0, 0))))).2)) i ((bs []), (0, (0, (0, 0))))).2).2))) i ((bs []), (0, (0, (0, 0))))).2).2).2)))) i ((bs []), (0, (0, (0, 0))))).2).1, ((((rd (setI (setI (setI a i (r0, (rd a i ((bs []), (0, (0, (0, 0))))).2)) i ((rd (setI a i (r0, (rd a i ((bs []), (0, (0, (0, 0))))).2)) i ((bs []), (0, (0, (0, 0))))).1, ((addI .i64 k 1), ((rd (setI a i (r0, (rd a i ((bs []), (0, (0, (0, 0))))).2)) i ((bs []), (0, (0, (0, 0))))).2).2))) i ((rd (setI (setI a i (r0, (rd a i ((bs []), (0, (0, (0, 0))))).2)) i ((rd (setI a i (r0, (rd a i ((bs []), (0, (0, (0, 0))))).2)) i ((bs []), (0, (0, (0, 0))))).1, ((addI .i64 k 1), ((rd (setI a i (r0, (rd a i ((bs []), (0, (0, (0, 0))))).2)) i ((bs []), (0, (0, (0, 0))))).2).2))) i ((bs []), (0, (0, (0, 0))))).1, (((rd (setI (setI a i (r0, (rd a i ((bs []), (0, (0, (0, 0))))).2)) i ((rd (setI a i (r0, (rd a i ((bs []), (0, (0, (0, 0))))).2)) i ((bs []), (0, (0, (0, 0))))).1, ((addI .i64 k 1), ((rd (setI a i (r0, (rd a i ((bs []), (0, (0, (0, 0))))).2)) i ((bs []), (0, (0, (0, 0))))).2).2))) i ((bs []), (0, (0, (0, 0))))).2).1, ((addI .i64 (addI .i64 k 1) 1), (((rd (setI (setI a i (r0, (rd a i ((bs []), (0, (0, (0, 0))))).2)) i ((rd (setI a i (r0, (rd a i ((bs []), (0, (0, (0, 0))))).2)) i ((bs []), (0, (0, (0, 0))))).1, ((addI .i64 k 1), ((rd (setI a i (r0, (rd a i ((bs []), (0, (0, (0, 0))))).2)) i ((bs []), (0, (0, (0, 0))))).2).2))) i ((bs []), (0, (0, (0, 0))))).2).2).2)))) i ((bs []), (0, (0, (0, 0))))).2).2).1, ((addI .i64 (addI .i64 (addI .i64 k 1) 1) 1), ((((rd (setI (setI (setI a i (r0, (rd a i ((bs []), (0, (0, (0, 0))))).2)) i ((rd (setI a i (r0, (rd a i ((bs []), (0, (0, (0, 0))))).2)) i ((bs []), (0, (0, (0, 0))))).1, ((addI .i64 k 1), ((rd (setI a i (r0, (rd a i ((bs []), (0, (0, (0, 0))))).2)) i ((bs []), (0, (0, (0, 0))))).2).2))) i ((rd (setI (setI a i (r0, (rd a i ((bs []), (0, (0, (0, 0))))).2)) i ((rd (setI a i (r0, (rd a i ((bs []), (0, (0, (0, 0))))).2)) i ((bs []), (0, (0, (0, 0))))).1, ((addI .i64 k 1), ((rd (setI a i (r0, (rd a i ((bs []), (0, (0, (0, 0))))).2)) i ((bs []), (0, (0, (0, 0))))).2).2))) i ((bs []), (0, (0, (0, 0))))).1, (((rd (setI (setI a i (r0, (rd a i ((bs []), (0, (0, (0, 0))))).2)) i ((rd (setI a i (r0, (rd a i ((bs []), (0, (0, (0, 0))))).2)) i ((bs []), (0, (0, (0, 0))))).1, ((addI .i64 k 1), ((rd (setI a i (r0, (rd a i ((bs []), (0, (0, (0, 0))))).2)) i ((bs []), (0, (0, (0, 0))))).2).2))) i ((bs []), (0, (0, (0, 0))))).2).1, ((addI .i64 (addI .i64 k 1) 1), (((rd (setI (setI a i (r0, (rd a i ((bs []), (0, (0, (0, 0))))).2)) i ((rd (setI a i (r0, (rd a i ((bs []), (0, (0, (0, 0))))).2)) i ((bs []), (0, (0, (0, 0))))).1, ((addI .i64 k 1), ((rd (setI a i (r0, (rd a i ((bs []), (0, (0, (0, 0))))).2)) i ((bs []), (0, (0, (0, 0))))).2).2))) i ((bs []), (0, (0, (0, 0))))).2).2).2)))) i ((bs []), (0, (0, (0, 0))))).2).2).2).2))))) i ((bs []), (0, (0, (0, 0))))).2).1, ((((rd (setI (setI (setI (setI a i (r0, (rd a i ((bs []), (0, (0, (0, 0))))).2)) i ((rd (setI a i (r0, (rd a i ((bs []), (0, (0, (0, 0))))).2)) i ((bs []), (0, (0, (0, 0))))).1, ((addI .i64 k 1), ((rd (setI a i (r0, (rd a i ((bs []), (0, (0, (0, 0))))).2)) i ((bs []), (0, (0, (0, 0))))).2).2))) i ((rd (setI (setI a i (r0, (rd a i ((bs []), (0, (0, (0, 0))))).2)) i ((rd (setI a i (r0, (rd a i ((bs []), (0, (0, (0, 0))))).2)) i ((bs []), (0, (0, (0, 0))))).1, ((addI .i64 k 1), ((rd (setI a i (r0, (rd a i ((bs []), (0, (0, (0, 0))))).2)) i ((bs []), (0, (0, (0, 0))))).2).2))) i ((bs []), (0, (0, (0, 0))))).1, (((rd (setI (setI a i (r0, (rd a i ((bs []), (0, (0, (0, 0))))).2)) i ((rd (setI a i (r0, (rd a i ((bs []), (0, (0, (0, 0))))).2)) i ((bs []), (0, (0, (0, 0))))).1, ((addI .i64 k 1), ((rd (setI a i (r0, (rd a i ((bs []), (0, (0, (0, 0))))).2)) i ((bs []), (0, (0, (0, 0))))).2).2))) i ((bs []), (0, (0, (0, 0))))).2).1, ((addI .i64 (addI .i64 k 1) 1), (((rd (setI (setI a i (r0, (rd a i ((bs []), (0, (0, (0, 0))))).2)) i ((rd (setI a i (r0, (rd a i ((bs []), (0, (0, (0, 0))))).2)) i ((bs []), (0, (0, (0, 0))))).1, ((addI .i64 k 1), ((rd (setI a i (r0, (rd a i ((bs []), (0, (0, (0, 0))))).2)) i ((bs []), (0, (0, (0, 0))))).2).2))) i ((bs []), (0, (0, (0, 0))))).2).2).2)))) i ((rd (setI (setI (setI a i (r0, (rd a i ((bs []), (0, (0, (0, 0))))).2)) i ((rd (setI a i (r0, (rd a i ((bs []), (0, (0, (0, 0))))).2)) i ((bs []), (0, (0, (0, 0))))).1, ((addI .i64 k 1), ((rd (setI a i (r0, (rd a i ((bs []), (0, (0, (0, 0))))).2)) i ((bs []), (0, (0, (0, 0))))).2).2))) i ((rd (setI (setI a i (r0, (rd a i ((bs []), (0, (0, (0, 0))))).2)) i ((rd (setI a i (r0, (rd a i ((bs []), (0, (0, (0, 0))))).2)) i ((bs []), (0, (0, (0, 0))))).1, ((addI .i64 k 1), ((rd (setI a i (r0, (rd a i ((bs []), (0, (0, (0, 0))))).2)) i ((bs []), (0, (0, (0, 0))))).2).2))) i ((bs []), (0, (0, (0, 0))))).1, (((rd (setI (setI a i (r0, (rd a i ((bs []), (0, (0, (0, 0))))).2)) i ((rd (setI a i (r0, (rd a i ((bs []), (0, (0, (0, 0))))).2)) i ((bs []), (0, (0, (0, 0))))).1, ((addI .i64 k 1), ((rd (setI a i (r0, (rd a i ((bs []), (0, (0, (0, 0))))).2)) i ((bs []), (0, (0, (0, 0))))).2).2))) i ((bs []), (0, (0, (0, 0))))).2).1, ((addI .i64 (addI .i64 k 1) 1), (((rd (setI (setI a i (r0, (rd a i ((bs []), (0, (0, (0, 0))))).2)) i ((rd (setI a i (r0, (rd a i ((bs []), (0, (0, (0, 0))))).2)) i ((bs []), (0, (0, (0, 0))))).1, ((addI .i64 k 1), ((rd (setI a i (r0, (rd a i ((bs []), (0, (0, (0, 0))))).2)) i ((bs []), (0, (0, (0, 0))))).2).2))) i ((bs []), (0, (0, (0, 0))))).2).2).2)))) i ((bs []), (0, (0, (0, 0))))).1, (((rd (setI (setI (setI a i (r0, (rd a i ((bs []), (0, (0, (0, 0))))).2)) i ((rd (setI a i (r0, (rd a i ((bs []), (0, (0, (0, 0))))).2)) i ((bs []), (0, (0, (0, 0))))).1, ((addI .i64 k 1), ((rd (setI a i (r0, (rd a i ((bs []), (0, (0, (0, 0))))).2)) i ((bs []), (0, (0, (0, 0))))).2).2))) i ((rd (setI (setI a i (r0, (rd a i ((bs []), (0, (0, (0, 0))))).2)) i ((rd (setI a i (r0, (rd a i ((bs []), (0, (0, (0, 0))))).2)) i ((bs []), (0, (0, (0, 0))))).1, ((addI .i64 k 1), ((rd (setI a i (r0, (rd a i ((bs []), (0, (0, (0, 0))))).2)) i ((bs []), (0, (0, (0, 0))))).2).2))) i ((bs []), (0, (0, (0, 0))))).1, (((rd (setI (setI a i (r0, (rd a i ((bs []), (0, (0, (0, 0))))).2)) i ((rd (setI a i (r0, (rd a i ((bs []), (0, (0, (0, 0))))).2)) i ((bs []), (0, (0, (0, 0))))).1, ((addI .i64 k 1), ((rd (setI a i (r0, (rd a i ((bs []), (0, (0, (0, 0))))).2)) i ((bs []), (0, (0, (0, 0))))).2).2))) i ((bs []), (0, (0, (0, 0))))).2).1, ((addI .i64 (addI .i64 k 1) 1), (((rd (setI (setI a i (r0, (rd a i ((bs []), (0, (0, (0, 0))))).2)) i ((rd (setI a i (r0, (rd a i ((bs []), (0, (0, (0, 0))))).2)) i ((bs []), (0, (0, (0, 0))))).1, ((addI .i64 k 1), ((rd (setI a i (r0, (rd a i ((bs []), (0, (0, (0, 0))))).2)) i ((bs []), (0, (0, (0, 0))))).2).2))) i ((bs []), (0, (0, (0, 0))))).2).2).2)))) i ((bs []), (0, (0, (0, 0))))).2).1, ((((rd (setI (setI (setI a i (r0, (rd a i ((bs []), (0, (0, (0, 0))))).2)) i ((rd (setI a i (r0, (rd a i ((bs []), (0, (0, (0, 0))))).2)) i ((bs []), (0, (0, (0, 0))))).1, ((addI .i64 k 1), ((rd (setI a i (r0, (rd a i ((bs []), (0, (0, (0, 0))))).2)) i ((bs []), (0, (0, (0, 0))))).2).2))) i ((rd (setI (setI a i (r0, (rd a i ((bs []), (0, (0, (0, 0))))).2)) i ((rd (setI a i (r0, (rd a i ((bs []), (0, (0, (0, 0))))).2)) i ((bs []), (0, (0, (0, 0))))).1, ((addI .i64 k 1), ((rd (setI a i (r0, (rd a i ((bs []), (0, (0, (0, 0))))).2)) i ((bs []), (0, (0, (0, 0))))).2).2))) i ((bs []), (0, (0, (0, 0))))).1, (((rd (setI (setI a i (r0, (rd a i ((bs []), (0, (0, (0, 0))))).2)) i ((rd (setI a i (r0, (rd a i ((bs []), (0, (0, (0, 0))))).2)) i ((bs []), (0, (0, (0, 0))))).1, ((addI .i64 k 1), ((rd (setI a i (r0, (rd a i ((bs []), (0, (0, (0, 0))))).2)) i ((bs []), (0, (0, (0, 0))))).2).2))) i ((bs []), (0, (0, (0, 0))))).2).1, ((addI .i64 (addI .i64 k 1) 1), (((rd (setI (setI a i (r0, (rd a i ((bs []), (0, (0, (0, 0))))).2)) i ((rd (setI a i (r0, (rd a i ((bs []), (0, (0, (0, 0))))).2)) i ((bs []), (0, (0, (0, 0))))).1, ((addI .i64 k 1), ((rd (setI a i (r0, (rd a i ((bs []), (0, (0, (0, 0))))).2)) i ((bs []), (0, (0, (0, 0))))).2).2))) i ((bs []), (0, (0, (0, 0))))).2).2).2)))) i ((bs []), (0, (0, (0, 0))))).2).2).1, ((addI .i64 (addI .i64 (addI .i64 k 1) 1) 1), ((((rd (setI (setI (setI a i (r0, (rd a i ((bs []), (0, (0, (0, 0))))).2)) i ((rd (setI a i (r0, (rd a i ((bs []), (0, (0, (0, 0))))).2)) i ((bs []), (0, (0, (0, 0))))).1, ((addI .i64 k 1), ((rd (setI a i (r0, (rd a i ((bs []), (0, (0, (0, 0))))).2)) i ((bs []), (0, (0, (0, 0))))).2).2))) i ((rd (setI (setI a i (r0, (rd a i ((bs []), (0, (0, (0, 0))))).2)) i ((rd (setI a i (r0, (rd a i ((bs []), (0, (0, (0, 0))))).2)) i ((bs []), (0, (0, (0, 0))))).1, ((addI .i64 k 1), ((rd (setI a i (r0, (rd a i ((bs []), (0, (0, (0, 0))))).2)) i ((bs []), (0, (0, (0, 0))))).2).2))) i ((bs []), (0, (0, (0, 0))))).1, (((rd (setI (setI a i (r0, (rd a i ((bs []), (0, (0, (0, 0))))).2)) i ((rd (setI a i (r0, (rd a i ((bs []), (0, (0, (0, 0))))).2)) i ((bs []), (0, (0, (0, 0))))).1, ((addI .i64 k 1), ((rd (setI a i (r0, (rd a i ((bs []), (0, (0, (0, 0))))).2)) i ((bs []), (0, (0, (0, 0))))).2).2))) i ((bs []), (0, (0, (0, 0))))).2).1, ((addI .i64 (addI .i64 k 1) 1), (((rd (setI (setI a i (r0, (rd a i ((bs []), (0, (0, (0, 0))))).2)) i ((rd (setI a i (r0, (rd a i ((bs []), (0, (0, (0, 0))))).2)) i ((bs []), (0, (0, (0, 0))))).1, ((addI .i64 k 1), ((rd (setI a i (r0, (rd a i ((bs []), (0, (0, (0, 0))))).2)) i ((bs []), (0, (0, (0, 0))))).2).2))) i ((bs []), (0, (0, (0, 0))))).2).2).2)))) i ((bs []), (0, (0, (0, 0))))).2).2).2).2))))) i ((bs []), (0, (0, (0, 0))))).2).2).1, (((((rd (setI (setI (setI (setI a i (r0, (rd a i ((bs []), (0, (0, (0, 0))))).2)) i ((rd (setI a i (r0, (rd a i ((bs []), (0, (0, (0, 0))))).2)) i ((bs []), (0, (0, (0, 0))))).1, ((addI .i64 k 1), ((rd (setI a i (r0, (rd a i ((bs []), (0, (0, (0, 0))))).2)) i ((bs []), (0, (0, (0, 0))))).2).2))) i ((rd (setI (setI a i (r0, (rd a i ((bs []), (0, (0, (0, 0))))).2)) i ((rd (setI a i (r0, (rd a i ((bs []), (0, (0, (0, 0))))).2)) i ((bs []), (0, (0, (0, 0))))).1, ((addI .i64 k 1), ((rd (setI a i (r0, (rd a i ((bs []), (0, (0, (0, 0))))).2)) i ((bs []), (0, (0, (0, 0))))).2).2))) i ((bs []), (0, (0, (0, 0))))).1, (((rd (setI (setI a i (r0, (rd a i ((bs []), (0, (0, (0, 0))))).2)) i ((rd (setI a i (r0, (rd a i ((bs []), (0, (0, (0, 0))))).2)) i ((bs []), (0, (0, (0, 0))))).1, ((addI .i64 k 1), ((rd (setI a i (r0, (rd a i ((bs []), (0, (0, (0, 0))))).2)) i ((bs []), (0, (0, (0, 0))))).2).2))) i ((bs []), (0, (0, (0, 0))))).2).1, ((addI .i64 (addI .i64 k 1) 1), (((rd (setI (setI a i (r0, (rd a i ((bs []), (0, (0, (0, 0))))).2)) i ((rd (setI a i (r0, (rd a i ((bs []), (0, (0, (0, 0))))).2)) i ((bs []), (0, (0, (0, 0))))).1, ((addI .i64 k 1), ((rd (setI a i (r0, (rd a i ((bs []), (0, (0, (0, 0))))).2)) i ((bs []), (0, (0, (0, 0))))).2).2))) i ((bs []), (0, (0, (0, 0))))).2).2).2)))) i ((rd (setI (setI (setI a i (r0, (rd a i ((bs []), (0, (0, (0, 0))))).2)) i ((rd (setI a i (r0, (rd a i ((bs []), (0, (0, (0, 0))))).2)) i ((bs []), (0, (0, (0, 0))))).1, ((addI .i64 k 1), ((rd (setI a i (r0, (rd a i ((bs []), (0, (0, (0, 0))))).2)) i ((bs []), (0, (0, (0, 0))))).2).2))) i ((rd (setI (setI a i (r0, (rd a i ((bs []), (0, (0, (0, 0))))).2)) i ((rd (setI a i (r0, (rd a i ((bs []), (0, (0, (0, 0))))).2)) i ((bs []), (0, (0, (0, 0))))).1, ((addI .i64 k 1), ((rd (setI a i (r0, (rd a i ((bs []), (0, (0, (0, 0))))).2)) i ((bs []), (0, (0, (0, 0))))).2).2))) i ((bs []), (0, (0, (0, 0))))).1, (((rd (setI (setI a i (r0, (rd a i ((bs []), (0, (0, (0, 0))))).2)) i ((rd (setI a i (r0, (rd a i ((bs []), (0, (0, (0, 0))))).2)) i ((bs []), (0, (0, (0, 0))))).1, ((addI .i64 k 1), ((rd (setI a i (r0, (rd a i ((bs []), (0, (0, (0, 0))))).2)) i ((bs []), (0, (0, (0, 0))))).2).2))) i ((bs []), (0, (0, (0, 0))))).2).1, ((addI .i64 (addI .i64 k 1) 1), (((rd (setI (setI a i (r0, (rd a i ((bs []), (0, (0, (0, 0))))).2)) i ((rd (setI a i (r0, (rd a i ((bs []), (0, (0, (0, 0))))).2)) i ((bs []), (0, (0, (0, 0))))).1, ((addI .i64 k 1), ((rd (setI a i (r0, (rd a i ((bs []), (0, (0, (0, 0))))).2)) i ((bs []), (0, (0, (0, 0))))).2).2))) i ((bs []), (0, (0, (0, 0))))).2).2).2)))) i ((bs []), (0, (0, (0, 0))))).1, (((rd (setI (setI (setI a i (r0, (rd a i ((bs []), (0, (0, (0, 0))))).2)) i ((rd (setI a i (r0, (rd a i ((bs []), (0, (0, (0, 0))))).2)) i ((bs []), (0, (0, (0, 0))))).1, ((addI .i64 k 1), ((rd (setI a i (r0, (rd a i ((bs []), (0, (0, (0, 0))))).2)) i ((bs []), (0, (0, (0, 0))))).2).2))) i ((rd (setI (setI a i (r0, (rd a i ((bs []), (0, (0, (0, 0))))).2)) i ((rd (setI a i (r0, (rd a i ((bs []), (0, (0, (0, 0))))).2)) i ((bs []), (0, (0, (0, 0))))).1, ((addI .i64 k 1), ((rd (setI a i (r0, (rd a i ((bs []), (0, (0, (0, 0))))).2)) i ((bs []), (0, (0, (0, 0))))).2).2))) i ((bs []), (0, (0, (0, 0))))).1, (((rd (setI (setI a i (r0, (rd a i ((bs []), (0, (0, (0, 0))))).2)) i ((rd (setI a i (r0, (rd a i ((bs []), (0, (0, (0, 0))))).2)) i ((bs []), (0, (0, (0, 0))))).1, ((addI .i64 k 1), ((rd (setI a i (r0, (rd a i ((bs []), (0, (0, (0, 0))))).2)) i ((bs []), (0, (0, (0, 0))))).2).2))) i ((bs []), (0, (0, (0, 0))))).2).1, ((addI .i64 (addI .i64 k 1) 1), (((rd (setI (setI a i (r0, (rd a i ((bs []), (0, (0, (0, 0))))).2)) i ((rd (setI a i (r0, (rd a i ((bs []), (0, (0, (0, 0))))).2)) i ((bs []), (0, (0, (0, 0))))).1, ((addI .i64 k 1), ((rd (setI a i (r0, (rd a i ((bs []), (0, (0, (0, 0))))).2)) i ((bs []), (0, (0, (0, 0))))).2).2))) i ((bs []), (0, (0, (0, 0))))).2).2).2)))) i ((bs []), (0, (0, (0, 0))))).2).1, ((((rd (setI (setI (setI a i (r0, (rd a i ((bs []), (0, (0, (0, 0))))).2)) i ((rd (setI a i (r0, (rd a i ((bs []), (0, (0, (0, 0))))).2)) i ((bs []), (0, (0, (0, 0))))).1, ((addI .i64 k 1), ((rd (setI a i (r0, (rd a i ((bs []), (0, (0, (0, 0))))).2)) i ((bs []), (0, (0, (0, 0))))).2).2))) i ((rd (setI (setI a i (r0, (rd a i ((bs []), (0, (0, (0, 0))))).2)) i ((rd (setI a i (r0, (rd a i ((bs []), (0, (0, (0, 0))))).2)) i ((bs []), (0, (0, (0, 0))))).1, ((addI .i64 k 1), ((rd (setI a i (r0, (rd a i ((bs []), (0, (0, (0, 0))))).2)) i ((bs []), (0, (0, (0, 0))))).2).2))) i ((bs []), (0, (0, (0, 0))))).1, (((rd (setI (setI a i (r0, (rd a i ((bs []), (0, (0, (0, 0))))).2)) i ((rd (setI a i (r0, (rd a i ((bs []), (0, (0, (0, 0))))).2)) i ((bs []), (0, (0, (0, 0))))).1, ((addI .i64 k 1), ((rd (setI a i (r0, (rd a i ((bs []), (0, (0, (0, 0))))).2)) i ((bs []), (0, (0, (0, 0))))).2).2))) i ((bs []), (0, (0, (0, 0))))).2).1, ((addI .i64 (addI .i64 k 1) 1), (((rd (setI (setI a i (r0, (rd a i ((bs []), (0, (0, (0, 0))))).2)) i ((rd (setI a i (r0, (rd a i ((bs []), (0, (0, (0, 0))))).2)) i ((bs []), (0, (0, (0, 0))))).1, ((addI .i64 k 1), ((rd (setI a i (r0, (rd a i ((bs []), (0, (0, (0, 0))))).2)) i ((bs []), (0, (0, (0, 0))))).2).2))) i ((bs []), (0, (0, (0, 0))))).2).2).2)))) i ((bs []), (0, (0, (0, 0))))).2).2).1, ((addI .i64 (addI .i64 (addI .i64 k 1) 1) 1), ((((rd (setI (setI (setI a i (r0, (rd a i ((bs []), (0, (0, (0, 0))))).2)) i ((rd (setI a i (r0, (rd a i ((bs []), (0, (0, (0, 0))))).2)) i ((bs []), (0, (0, (0, 0))))).1, ((addI .i64 k 1), ((rd (setI a i (r0, (rd a i ((bs []), (0, (0, (0, 0))))).2)) i ((bs []), (0, (0, (0, 0))))).2).2))) i ((rd (setI (setI a i (r0, (rd a i ((bs []), (0, (0, (0, 0))))).2)) i ((rd (setI a i (r0, (rd a i ((bs []), (0, (0, (0, 0))))).2)) i ((bs []), (0, (0, (0, 0))))).1, ((addI .i64 k 1), ((rd (setI a i (r0, (rd a i ((bs []), (0, (0, (0, 0))))).2)) i ((bs []), (0, (0, (0, 0))))).2).2))) i ((bs []), (0, (0, (0, 0))))).1, (((rd (setI (setI a i (r0, (rd a i ((bs []), (0, (0, (0, 0))))).2)) i ((rd (setI a i (r0, (rd a i ((bs []), (0, (0, (0, 0))))).2)) i ((bs []), (0, (0, (0, 0))))).1, ((addI .i64 k 1), ((rd (setI a i (r0, (rd a i ((bs []), (0, (0, (0, 0))))).2)) i ((bs []), (0, (0, (0, 0))))).2).2))) i ((bs []), (0, (0, (0, 0))))).2).1, ((addI .i64 (addI .i64 k 1) 1), (((rd (setI (setI a i (r0, (rd a i ((bs []), (0, (0, (0, 0))))).2)) i ((rd (setI a i (r0, (rd a i ((bs []), (0, (0, (0, 0))))).2)) i ((bs []), (0, (0, (0, 0))))).1, ((addI .i64 k 1), ((rd (setI a i (r0, (rd a i ((bs []), (0, (0, (0, 0))))).2)) i ((bs []), (0, (0, (0, 0))))).2).2))) i ((bs []), (0, (0, (0, 0))))).2).2).2)))) i ((bs []), (0, (0, (0, 0))))).2).2).2).2))))) i ((bs []), (0, (0, (0, 0))))).2).2).2).1, (addI .i64 (addI .i64 (addI .i64 (addI .i64 k 1) 1) 1) 1)))))))
   (some (k, a))) := by kernel_rfl
theorem laws_markMarkS_L2.eq (k : Int) (i : Int) (a : List T_sib) (fu fu1 : Nat) : laws_markMarkS_L2 fu (fu1 + 1) k i a =
  (brB (ltI i (ln a))
   (optB (laws_markText fu k) fun r0 =>
   chk (leI 0 i) <|
   chk (ltI i (ln a)) <|
   chk (leI 0 i) <|
   chk (ltI i (ln (setI a i (r0, (rd a i ((bs []), (0, false))).2)))) <|
   chk (notB (eqI 3 0)) <|
   chk (leI 0 i) <|
   chk (ltI i (ln (setI (setI a i (r0, (rd a i ((bs []), (0, false))).2)) i ((rd (setI a i (r0, (rd a i ((bs []), (0, false))).2)) i ((bs []), (0, false))).1, ((addI .i64 k 1), ((rd (setI a i (r0, (rd a i ((bs []), (0, false))).2)) i ((bs []), (0, false))).2).2))))) <|
   laws_markMarkS_L2 fu fu1 (addI .i64 (addI .i64 (addI .i64 k 1) 1) 1) (addI .i64 i 1) (setI (setI (setI a i (r0, (rd a i ((bs []), (0, false))).2)) i ((rd (setI a i (r0, (rd a i ((bs []), (0, false))).2)) i ((bs []), (0, false))).1, ((addI .i64 k 1), ((rd (setI a i (r0, (rd a i ((bs []), (0, false))).2)) i ((bs []), (0, false))).2).2))) i ((rd (setI (setI a i (r0, (rd a i ((bs []), (0, false))).2)) i ((rd (setI a i (r0, (rd a i ((bs []), (0, false))).2)) i ((bs []), (0, false))).1, ((addI .i64 k 1), ((rd (setI a i (r0, (rd a i ((bs []), (0, false))).2)) i ((bs []), (0, false))).2).2))) i ((bs []), (0, false))).1, (((rd (setI (setI a i (r0, (rd a i ((bs []), (0, false))).2)) i ((rd (setI a i (r0, (rd a i ((bs []), (0, false))).2)) i ((bs []), (0, false))).1, ((addI .i64 k 1), ((rd (setI a i (r0, (rd a i ((bs []), (0, false))).2)) i ((bs []), (0, false))).2).2))) i ((bs []), (0, false))).2).1, (eqI (remI (addI .i64 (addI .i64 k 1) 1) 3) 0)))))
   (some (k, a))) := by kernel_rfl
theorem laws_heldRope.eq (a : List T_siiii) (a_1 : List T_sib) (k : Int) (fu : Nat) : laws_heldRope (fu + 1) a a_1 k =
  (optB (laws_heldRopeNodeS fu a k) fun r0 =>
  brB (ltI r0 0)
   (some (-1))
   (optB (laws_heldMarkS fu a_1 r0) fun r1 =>
   brB (ltI r1 0)
    (some (-1))
    (some r1))) := by kernel_rfl
theorem spec_l01Source_L3.eq (code : List T_y) (i : Int) (s : List T_y) (s_1 : Int) (s_2 : Int) (s_3 : Int) (fu fu1 : Nat) : spec_l01Source_L3 fu (fu1 + 1) code i s s_1 s_2 s_3 =
  (brB (ltI i (ln code))
   (brB (ltI i 64)
    (chk (leI 0 i) <|
    chk (ltI i (ln code)) <|
    spec_l01Source_L3 fu fu1 code (addI .i64 i 1) s s_1 (mulI .u64 (xorI .u64 s_2 (wrI .u64 (rd code i 0))) 1099511628211) s_3)
    (chk (notB (eqI 20 0)) <|
    brB (ltI 12 (quoI .i64 (ln code) 20))
     (some (s, (s_1, (s_2, 12))))
     (some (s, (s_1, (s_2, (quoI .i64 (ln code) 20)))))))
   (chk (notB (eqI 20 0)) <|
   brB (ltI 12 (quoI .i64 (ln code) 20))
    (some (s, (s_1, (s_2, 12))))
    (some (s, (s_1, (s_2, (quoI .i64 (ln code) 20))))))) := by kernel_rfl
theorem spec_l01Src_rope.eq (s : List T_y) (s_1 : Int) (s_2 : Int) (s_3 : Int) (fu : Nat) : spec_l01Src_rope (fu + 1) s s_1 s_2 s_3 =
  (optB (spec_l01Src_ropeText fu s s_1 s_2 s_3) fun r0 =>
  optB (spec_RopeOf fu r0.1) fun r1 =>
  spec_l01Src_rope_L5 fu fu r0.1 0 r0.2.1 r0.2.2.1 r0.2.2.2.1 r0.2.2.2.2 r1.1 r1.2 ((bs [97]) :: ((bs [98]) :: ((bs [99]) :: ((bs [100]) :: ([] : List ByteArray)))))) := by kernel_rfl
theorem spec_l01Src_anyRope_J4.eq (x : Bool) (s : List T_y) (s_1 : Int) (s_2 : Int) (s_3 : Int) (x_1 : List T_siiii) (x_2 : List T_sib) (fu : Nat) : spec_l01Src_anyRope_J4 fu x s s_1 s_2 s_3 x_1 x_2 =
  (brB x
   (optB (spec_l01Src_n fu (ln x_1) s s_1 s_2 s_3) fun r0 =>
   optB (spec_l01Src_n fu 5 r0.2.1 r0.2.2.1 r0.2.2.2.1 r0.2.2.2.2) fun r1 =>
   brB (eqI r1.1 0)
    (chk (leI 0 r0.1) <|
    chk (ltI r0.1 (ln x_1)) <|
    chk (leI 0 r0.1) <|
    chk (ltI r0.1 (ln x_1)) <|
    spec_l01Src_anyRope_J17 fu r1.2.1 r1.2.2.1 r1.2.2.2.1 r1.2.2.2.2 (setI x_1 r0.1 ((rd x_1 r0.1 ((bs []), (0, (0, (0, 0))))).1, (((rd x_1 r0.1 ((bs []), (0, (0, (0, 0))))).2).1, ((((rd x_1 r0.1 ((bs []), (0, (0, (0, 0))))).2).2).1, ((addI .i64 (((((rd x_1 r0.1 ((bs []), (0, (0, (0, 0))))).2).2).2).1) 1), ((((rd x_1 r0.1 ((bs []), (0, (0, (0, 0))))).2).2).2).2))))) x_2)
    (brB (eqI r1.1 1)
     (optB (spec_l01Src_n fu 3 r1.2.1 r1.2.2.1 r1.2.2.2.1 r1.2.2.2.2) fun r2 =>
     chk (leI 0 r0.1) <|
     chk (ltI r0.1 (ln x_1)) <|
     spec_l01Src_anyRope_J17 fu r2.2.1 r2.2.2.1 r2.2.2.2.1 r2.2.2.2.2 (setI x_1 r0.1 ((rd x_1 r0.1 ((bs []), (0, (0, (0, 0))))).1, ((subI .i64 r2.1 1), ((rd x_1 r0.1 ((bs []), (0, (0, (0, 0))))).2).2))) x_2)
     (brB (eqI r1.1 2)
      (optB (spec_l01Src_pick fu ((bs []) :: ((bs [120]) :: ([] : List ByteArray))) r1.2.1 r1.2.2.1 r1.2.2.2.1 r1.2.2.2.2) fun r2 =>
      chk (leI 0 r0.1) <|
      chk (ltI r0.1 (ln x_1)) <|
      spec_l01Src_anyRope_J17 fu r2.2.1 r2.2.2.1 r2.2.2.2.1 r2.2.2.2.2 (setI x_1 r0.1 (r2.1, (rd x_1 r0.1 ((bs []), (0, (0, (0, 0))))).2)) x_2)
      (brB (eqI r1.1 3)
       (chk (leI 0 r0.1) <|
       chk (leI r0.1 (ln x_1)) <|
       spec_l01Src_anyRope_J17'1 fu r1.2.1 r1.2.2.1 r1.2.2.2.1 r1.2.2.2.2 r0.1 x_1 x_2)
       (brB (eqI r1.1 4)
        (chk (leI 0 r0.1) <|
        chk (ltI r0.1 (ln x_1)) <|
        spec_l01Src_anyRope_J17 fu r1.2.1 r1.2.2.1 r1.2.2.2.1 r1.2.2.2.2 (setI x_1 r0.1 ((rd x_1 r0.1 ((bs []), (0, (0, (0, 0))))).1, (((rd x_1 r0.1 ((bs []), (0, (0, (0, 0))))).2).1, ((((rd x_1 r0.1 ((bs []), (0, (0, (0, 0))))).2).2).1, (((((rd x_1 r0.1 ((bs []), (0, (0, (0, 0))))).2).2).2).1, 9))))) x_2)
        (spec_l01Src_anyRope_J17 fu r1.2.1 r1.2.2.1 r1.2.2.2.1 r1.2.2.2.2 x_1 x_2))))))
   (optB (spec_l01Src_pick fu ((bs []) :: ((bs [97]) :: ((bs [122, 122]) :: ((bs [122, 122]) :: ([] : List ByteArray))))) s s_1 s_2 s_3) fun r0 =>
   optB (spec_l01Src_n fu 3 r0.2.1 r0.2.2.1 r0.2.2.2.1 r0.2.2.2.2) fun r1 =>
   chk (leI 0 r1.1) <|
   chk (ltI r1.1 (ln (0 :: ((-1) :: (100000 :: ([] : List Int)))))) <|
   chk (ltI (mulZ (addZ (ln x_2) (ln ((r0.1, ((rd (0 :: ((-1) :: (100000 :: ([] : List Int)))) r1.1 0), false)) :: ([] : List (ByteArray × Int × Bool))))) 32) 140737488355328) <|
   spec_l01Src_anyRope_J17 fu r1.2.1 r1.2.2.1 r1.2.2.2.1 r1.2.2.2.2 x_1 (catL x_2 ((r0.1, ((rd (0 :: ((-1) :: (100000 :: ([] : List Int)))) r1.1 0), false)) :: ([] : List (ByteArray × Int × Bool)))))) := by unfold spec_l01Src_anyRope_J4; rw [joinAt_eq]; kernel_rfl
theorem spec_l01Src_anyRope_J17.eq (x : List T_y) (x_1 : Int) (x_2 : Int) (x_3 : Int) (x_4 : List T_siiii) (x_5 : List T_sib) (fu : Nat) : spec_l01Src_anyRope_J17 fu x x_1 x_2 x_3 x_4 x_5 =
  (some ((x_4, x_5), (x, (x_1, (x_2, x_3))))) := by unfold spec_l01Src_anyRope_J17; rw [joinAt_eq]; kernel_rfl
theorem spec_l01Src_n_J7.eq (most : Int) (v : Int) (s : List T_y) (s_1 : Int) (s_2 : Int) (s_3 : Int) (fu : Nat) : spec_l01Src_n_J7 fu most v s s_1 s_2 s_3 =
  (chk (leI 0 13) <|
  chk (leI 0 7) <|
  chk (leI 0 17) <|
  chk (leI 0 20) <|
  chk (notB (eqI (wrI .u64 most) 0)) <|
  some ((wrI .i64 (remI (addI .u64 v (shrI .u64 (xorI .u64 (xorI .u64 (xorI .u64 s_2 (shlI .u64 s_2 13)) (shrI .u64 (xorI .u64 s_2 (shlI .u64 s_2 13)) 7)) (shlI .u64 (xorI .u64 (xorI .u64 s_2 (shlI .u64 s_2 13)) (shrI .u64 (xorI .u64 s_2 (shlI .u64 s_2 13)) 7)) 17)) 20)) (wrI .u64 most))), (s, (s_1, ((xorI .u64 (xorI .u64 (xorI .u64 s_2 (shlI .u64 s_2 13)) (shrI .u64 (xorI .u64 s_2 (shlI .u64 s_2 13)) 7)) (shlI .u64 (xorI .u64 (xorI .u64 s_2 (shlI .u64 s_2 13)) (shrI .u64 (xorI .u64 s_2 (shlI .u64 s_2 13)) 7)) 17)), s_3))))) := by unfold spec_l01Src_n_J7; rw [joinAt_eq]; kernel_rfl
theorem slices_stableCmpFunc_Mark.eq (n : Int) (data : List T_sib) (fu : Nat) : slices_stableCmpFunc_Mark (fu + 1) n data =
  (slices_stableCmpFunc_Mark_L2 fu fu n 20 0 20 data) := by kernel_rfl
theorem impl_in.eq (p : Int) (a : Int) (b : Int) (fu : Nat) : impl_in (fu + 1) p a b =
  (brB (leI a p)
   (some (leI p b))
   (some false)) := by kernel_rfl
theorem impl_MarksAt_L7'1.eq (from' : Int) (to : Int) (x : Int) (x_1 : Int) (out : List T_s) (x_2 : List T_sib) (fu fu1 : Nat) : impl_MarksAt_L7'1 fu (fu1 + 1) from' to x x_1 out x_2 =
  (brB (ltI x_1 x)
   (chk (leI 0 x_1) <|
   chk (ltI x_1 (ln x_2)) <|
   optB (impl_in fu (((rd x_2 x_1 ((bs []), (0, false))).2).1) from' to) fun r0 =>
   brB r0
    (chk (ltI (mulZ (addZ (ln out) (ln ((rd x_2 x_1 ((bs []), (0, false))).1 :: ([] : List ByteArray)))) 16) 140737488355328) <|
    impl_MarksAt_L7'1 fu fu1 from' to x (addI .i64 x_1 1) (catL out ((rd x_2 x_1 ((bs []), (0, false))).1 :: ([] : List ByteArray))) x_2)
    (impl_MarksAt_L7'1 fu fu1 from' to x (addI .i64 x_1 1) out x_2))
   (some out)) := by kernel_rfl
theorem spec_MarksAt_L6.eq (from' : Int) (to : Int) (i : Int) (r : List T_siiii) (r_1 : List T_sib) (out : List T_s) (at' : List T_i) (fu fu1 : Nat) : spec_MarksAt_L6 fu (fu1 + 1) from' to i r r_1 out at' =
  (brB (ltI i (ln r_1))
   (chk (leI 0 i) <|
   chk (ltI i (ln r_1)) <|
   brB (ltI (((rd r_1 i ((bs []), (0, false))).2).1) from')
    (spec_MarksAt_L6 fu fu1 from' to (addI .i64 i 1) r r_1 out at')
    (brB (ltI to (((rd r_1 i ((bs []), (0, false))).2).1))
     (spec_MarksAt_L6 fu fu1 from' to (addI .i64 i 1) r r_1 out at')
     (chk (ltI (mulZ (addZ (ln out) (ln ((bs []) :: ([] : List ByteArray)))) 16) 140737488355328) <|
     chk (ltI (mulZ (addZ (ln at') (ln (0 :: ([] : List Int)))) 8) 140737488355328) <|
     spec_MarksAt_L13 fu fu1 fu from' to i (ln out) r r_1 (catL out ((bs []) :: ([] : List ByteArray))) (catL at' (0 :: ([] : List Int))) ((rd r_1 i ((bs []), (0, false))).1) (((rd r_1 i ((bs []), (0, false))).2).1) (((rd r_1 i ((bs []), (0, false))).2).2))))
   (some out)) := by kernel_rfl
theorem laws_lwTexts_L4.eq (a : List T_s) (b : List T_s) (i : Int) (fu fu1 : Nat) : laws_lwTexts_L4 fu (fu1 + 1) a b i =
  (brB (ltI i (ln a))
   (chk (leI 0 i) <|
   chk (ltI i (ln a)) <|
   chk (leI 0 i) <|
   chk (ltI i (ln b)) <|
   brB (notB (bytesEq (rd a i (bs [])) (rd b i (bs []))))
    (some false)
    (laws_lwTexts_L4 fu fu1 a b (addI .i64 i 1)))
   (some true)) := by kernel_rfl
theorem laws_szRopeNode.eq (a : ByteArray) (a_1 : Int) (a_2 : Int) (a_3 : Int) (a_4 : Int) (left : Int) (fu : Nat) : laws_szRopeNode (fu + 1) a a_1 a_2 a_3 a_4 left =
  (brB (ltI (subI .i64 left (sz a)) 0)
   (some (-1))
   (some (subI .i64 left (sz a)))) := by kernel_rfl
theorem laws_toRopeNode.eq (a : ByteArray) (a_1 : Int) (a_2 : Int) (a_3 : Int) (a_4 : Int) (fu : Nat) : laws_toRopeNode (fu + 1) a a_1 a_2 a_3 a_4 =
  (some (a, (a_1, (a_2, (a_3, a_4))))) := by kernel_rfl
theorem spec_l20Ends.eq (t : ByteArray) (fu : Nat) : spec_l20Ends (fu + 1) t =
  (spec_l20Ends_L3 fu fu t 0 0) := by kernel_rfl
theorem spec_l20Cut.eq (t : ByteArray) (fu : Nat) : spec_l20Cut (fu + 1) t =
  (chk (notB (eqI 2 0)) <|
  spec_l20Cut_L4 fu fu t (quoI .i64 (addI .i64 (sz t) 1) 2) 0 0) := by kernel_rfl
theorem spec_l20Build'1.eq (t : ByteArray) (l : List T_siiii) (fu : Nat) : spec_l20Build'1 (fu + 1) t l =
  (brB (bytesEq t (bs []))
   (some (l, ()))
   (optB (spec_l20Ends fu t) fun r0 =>
   brB (leI (sz t) 64)
    (chk (ltI (mulZ (addZ (ln l) (ln ((t, ((-1), ((-1), ((sz t), r0)))) :: ([] : List (ByteArray × Int × Int × Int × Int))))) 48) 140737488355328) <|
    some ((catL l ((t, ((-1), ((-1), ((sz t), r0)))) :: ([] : List (ByteArray × Int × Int × Int × Int)))), ()))
    (optB (spec_l20Cut fu t) fun r1 =>
    chk (ltI (mulZ (addZ (ln l) (ln (((bs []), ((-1), ((-1), ((sz t), r0)))) :: ([] : List (ByteArray × Int × Int × Int × Int))))) 48) 140737488355328) <|
    chk (leI 0 (ln l)) <|
    chk (ltI (ln l) (ln (catL l (((bs []), ((-1), ((-1), ((sz t), r0)))) :: ([] : List (ByteArray × Int × Int × Int × Int)))))) <|
    chk (leI 0 r1) <|
    chk (leI r1 (sz t)) <|
    optB (spec_l20Build'1 fu (subs t 0 r1) (setI (catL l (((bs []), ((-1), ((-1), ((sz t), r0)))) :: ([] : List (ByteArray × Int × Int × Int × Int)))) (ln l) ((rd (catL l (((bs []), ((-1), ((-1), ((sz t), r0)))) :: ([] : List (ByteArray × Int × Int × Int × Int)))) (ln l) ((bs []), (0, (0, (0, 0))))).1, ((ln (catL l (((bs []), ((-1), ((-1), ((sz t), r0)))) :: ([] : List (ByteArray × Int × Int × Int × Int))))), ((rd (catL l (((bs []), ((-1), ((-1), ((sz t), r0)))) :: ([] : List (ByteArray × Int × Int × Int × Int)))) (ln l) ((bs []), (0, (0, (0, 0))))).2).2)))) fun r2 =>
    chk (leI 0 (ln l)) <|
    chk (ltI (ln l) (ln r2.1)) <|
    chk (leI 0 r1) <|
    chk (leI r1 (sz t)) <|
    optB (spec_l20Build'1 fu (subs t r1 (sz t)) (setI r2.1 (ln l) ((rd r2.1 (ln l) ((bs []), (0, (0, (0, 0))))).1, (((rd r2.1 (ln l) ((bs []), (0, (0, (0, 0))))).2).1, ((ln r2.1), (((rd r2.1 (ln l) ((bs []), (0, (0, (0, 0))))).2).2).2))))) fun r3 =>
    some (r3.1, ())))) := by kernel_rfl
theorem spec_RopeFault_L13.eq (t : ByteArray) (i : Int) (r : List T_siiii) (r_1 : List T_sib) (fu fu1 : Nat) : spec_RopeFault_L13 fu (fu1 + 1) t i r r_1 =
  (brB (ltI i (ln r_1))
   (chk (leI 0 i) <|
   chk (ltI i (ln r_1)) <|
   optB (spec_l20Mark fu ((rd r_1 i ((bs []), (0, false))).1) (((rd r_1 i ((bs []), (0, false))).2).1) (((rd r_1 i ((bs []), (0, false))).2).2) (sz t)) fun r0 =>
   brB (notB r0)
    (some 1)
    (brB (ltI 0 i)
     (chk (leI 0 (subI .i64 i 1)) <|
     chk (ltI (subI .i64 i 1) (ln r_1)) <|
     chk (leI 0 i) <|
     chk (ltI i (ln r_1)) <|
     brB (notB (strLess ((rd r_1 (subI .i64 i 1) ((bs []), (0, false))).1) ((rd r_1 i ((bs []), (0, false))).1)))
      (some 1)
      (spec_RopeFault_L13 fu fu1 t (addI .i64 i 1) r r_1))
     (spec_RopeFault_L13 fu fu1 t (addI .i64 i 1) r r_1)))
   (some 0)) := by kernel_rfl
theorem spec_l17IsName_L4.eq (t : ByteArray) (i : Int) (fu fu1 : Nat) : spec_l17IsName_L4 fu (fu1 + 1) t i =
  (brB (ltI i (sz t))
   (chk (leI 0 i) <|
   chk (ltI i (sz t)) <|
   brB (ltI (bt t i) 97)
    (brB (ltI (bt t i) 48)
     (brB (notB (eqI (bt t i) 45))
      (some false)
      (spec_l17IsName_L4 fu fu1 t (addI .i64 i 1)))
     (brB (ltI 57 (bt t i))
      (brB (notB (eqI (bt t i) 45))
       (some false)
       (spec_l17IsName_L4 fu fu1 t (addI .i64 i 1)))
      (spec_l17IsName_L4 fu fu1 t (addI .i64 i 1))))
    (brB (ltI 122 (bt t i))
     (brB (ltI (bt t i) 48)
      (brB (notB (eqI (bt t i) 45))
       (some false)
       (spec_l17IsName_L4 fu fu1 t (addI .i64 i 1)))
      (brB (ltI 57 (bt t i))
       (brB (notB (eqI (bt t i) 45))
        (some false)
        (spec_l17IsName_L4 fu fu1 t (addI .i64 i 1)))
       (spec_l17IsName_L4 fu fu1 t (addI .i64 i 1))))
     (spec_l17IsName_L4 fu fu1 t (addI .i64 i 1))))
   (some true)) := by kernel_rfl
theorem impl_marksRight_L2.eq (l : List T_sib) (n : Int) (x : List T_sib) (x_1 : Int) (x_2 : Int) (fu fu1 : Nat) : impl_marksRight_L2 fu (fu1 + 1) l n x x_1 x_2 =
  (brB (ltI x_2 x_1)
   (chk (leI 0 x_2) <|
   chk (ltI x_2 (ln x)) <|
   optB (impl_isName fu ((rd x x_2 ((bs []), (0, false))).1)) fun r0 =>
   brB (notB r0)
    (some false)
    (brB (ltI (((rd x x_2 ((bs []), (0, false))).2).1) 0)
     (some false)
     (brB (ltI n (((rd x x_2 ((bs []), (0, false))).2).1))
      (some false)
      (brB (ltI 0 x_2)
       (chk (leI 0 (subI .i64 x_2 1)) <|
       chk (ltI (subI .i64 x_2 1) (ln l)) <|
       brB (notB (strLess ((rd l (subI .i64 x_2 1) ((bs []), (0, false))).1) ((rd x x_2 ((bs []), (0, false))).1)))
        (some false)
        (impl_marksRight_L2 fu fu1 l n x x_1 (addI .i64 x_2 1)))
       (impl_marksRight_L2 fu fu1 l n x x_1 (addI .i64 x_2 1))))))
   (some (leI (ln l) 100))) := by kernel_rfl
theorem impl_ropeTree.eq (s : ByteArray) (out : List T_siiii) (fu : Nat) : impl_ropeTree (fu + 1) s out =
  (optB (strings_Count fu s (bs [10])) fun r0 =>
  brB (leI (sz s) 64)
   (chk (ltI (mulZ (addZ (ln out) (ln ((s, ((-1), ((-1), ((sz s), r0)))) :: ([] : List (ByteArray × Int × Int × Int × Int))))) 48) 140737488355328) <|
   some ((catL out ((s, ((-1), ((-1), ((sz s), r0)))) :: ([] : List (ByteArray × Int × Int × Int × Int)))), ()))
   (impl_ropeTree_L7 fu fu s (sz s) r0 0 0 out)) := by kernel_rfl
theorem slices_Equal_RopeNode_RopeNode_L4.eq (s1 : List T_siiii) (s2 : List T_siiii) (x : Int) (x_1 : Int) (fu fu1 : Nat) : slices_Equal_RopeNode_RopeNode_L4 fu (fu1 + 1) s1 s2 x x_1 =
  (brB (ltI x_1 x)
   (chk (leI 0 x_1) <|
   chk (ltI x_1 (ln s1)) <|
   chk (leI 0 x_1) <|
   chk (ltI x_1 (ln s2)) <|
   brB (notB (andB (bytesEq ((rd s1 x_1 ((bs []), (0, (0, (0, 0))))).1) ((rd s2 x_1 ((bs []), (0, (0, (0, 0))))).1)) (andB (eqI (((rd s1 x_1 ((bs []), (0, (0, (0, 0))))).2).1) (((rd s2 x_1 ((bs []), (0, (0, (0, 0))))).2).1)) (andB (eqI ((((rd s1 x_1 ((bs []), (0, (0, (0, 0))))).2).2).1) ((((rd s2 x_1 ((bs []), (0, (0, (0, 0))))).2).2).1)) (andB (eqI (((((rd s1 x_1 ((bs []), (0, (0, (0, 0))))).2).2).2).1) (((((rd s2 x_1 ((bs []), (0, (0, (0, 0))))).2).2).2).1)) (andB (eqI (((((rd s1 x_1 ((bs []), (0, (0, (0, 0))))).2).2).2).2) (((((rd s2 x_1 ((bs []), (0, (0, (0, 0))))).2).2).2).2)) true))))))
    (some false)
    (slices_Equal_RopeNode_RopeNode_L4 fu fu1 s1 s2 x (addI .i64 x_1 1)))
   (some true)) := by kernel_rfl
theorem slices_IndexFunc_Mark_Mark.eq (s : List T_sib) (x : ByteArray) (x_1 : Int) (x_2 : Bool) (fu : Nat) : slices_IndexFunc_Mark_Mark (fu + 1) s x x_1 x_2 =
  (slices_IndexFunc_Mark_Mark_L2 fu fu s (ln s) 0 x x_1 x_2) := by kernel_rfl
theorem slices_DeleteFunc_Mark_Mark_L5.eq (i : Int) (j : Int) (s : List T_sib) (x : ByteArray) (x_1 : Int) (x_2 : Bool) (fu fu1 : Nat) : slices_DeleteFunc_Mark_Mark_L5 fu (fu1 + 1) i j s x x_1 x_2 =
  (brB (ltI j (ln s))
   (chk (leI 0 j) <|
   chk (ltI j (ln s)) <|
   optB (impl_PutMark_1 fu ((rd s j ((bs []), (0, false))).1) (((rd s j ((bs []), (0, false))).2).1) (((rd s j ((bs []), (0, false))).2).2) x x_1 x_2) fun r0 =>
   brB (notB r0.1)
    (chk (leI 0 i) <|
    chk (ltI i (ln s)) <|
    slices_DeleteFunc_Mark_Mark_L5 fu fu1 (addI .i64 i 1) (addI .i64 j 1) (setI s i ((rd s j ((bs []), (0, false))).1, (((rd s j ((bs []), (0, false))).2).1, ((rd s j ((bs []), (0, false))).2).2))) r0.2.1 r0.2.2.1 r0.2.2.2)
    (slices_DeleteFunc_Mark_Mark_L5 fu fu1 i (addI .i64 j 1) s r0.2.1 r0.2.2.1 r0.2.2.2))
   (chk (leI 0 i) <|
   chk (leI i (ln s)) <|
   chk (leI 0 i) <|
   chk (leI i (ln (catL (catL (takeI s i) (repI (subZ (ln s) i) ((bs []), (0, false)))) (dropI s (ln s))))) <|
   some ((takeI (catL (catL (takeI s i) (repI (subZ (ln s) i) ((bs []), (0, false)))) (dropI s (ln s))) i), ((), (x, (x_1, x_2)))))) := by kernel_rfl
theorem laws_eqRopeNode.eq (a : ByteArray) (a_1 : Int) (a_2 : Int) (a_3 : Int) (a_4 : Int) (b : ByteArray) (b_1 : Int) (b_2 : Int) (b_3 : Int) (b_4 : Int) (fu : Nat) : laws_eqRopeNode (fu + 1) a a_1 a_2 a_3 a_4 b b_1 b_2 b_3 b_4 =
  (brB (notB (bytesEq a b))
   (some false)
   (brB (notB (eqI a_1 b_1))
    (some false)
    (brB (notB (eqI a_2 b_2))
     (some false)
     (brB (notB (eqI a_3 b_3))
      (some false)
      (brB (notB (eqI a_4 b_4))
       (some false)
       (some true)))))) := by kernel_rfl
theorem laws_eqMark.eq (a : ByteArray) (a_1 : Int) (a_2 : Bool) (b : ByteArray) (b_1 : Int) (b_2 : Bool) (fu : Nat) : laws_eqMark (fu + 1) a a_1 a_2 b b_1 b_2 =
  (brB (notB (bytesEq a b))
   (some false)
   (brB (notB (eqI a_1 b_1))
    (some false)
    (brB (notB (eqB a_2 b_2))
     (some false)
     (some true)))) := by kernel_rfl
theorem laws_markText.eq (k : Int) (fu : Nat) : laws_markText (fu + 1) k =
  (brB (leI k 0)
   (some (bs [109, 48]))
   (laws_markText_L4 fu fu k (bs []))) := by kernel_rfl
theorem laws_heldRopeNodeS.eq (a : List T_siiii) (k : Int) (fu : Nat) : laws_heldRopeNodeS (fu + 1) a k =
  (laws_heldRopeNodeS_L2 fu fu a k 0) := by kernel_rfl
theorem laws_heldMarkS.eq (a : List T_sib) (k : Int) (fu : Nat) : laws_heldMarkS (fu + 1) a k =
  (laws_heldMarkS_L2 fu fu a k 0) := by kernel_rfl
theorem spec_l01Src_ropeText.eq (s : List T_y) (s_1 : Int) (s_2 : Int) (s_3 : Int) (fu : Nat) : spec_l01Src_ropeText (fu + 1) s s_1 s_2 s_3 =
  (optB (spec_l01Src_n fu (addI .i64 6 s_3) s s_1 s_2 s_3) fun r0 =>
  spec_l01Src_ropeText_L3 fu fu (bs []) r0.1 r0.2.1 r0.2.2.1 r0.2.2.2.1 r0.2.2.2.2) := by kernel_rfl
theorem spec_RopeOf.eq (text : ByteArray) (fu : Nat) : spec_RopeOf (fu + 1) text =
  (brB (ltI 65536 (sz text))
   (some (([] : List (ByteArray × Int × Int × Int × Int)), ([] : List (ByteArray × Int × Bool))))
   (optB (spec_l20Build fu text ([] : List (ByteArray × Int × Int × Int × Int))) fun r0 =>
   some (r0.1, ([] : List (ByteArray × Int × Bool))))) := by kernel_rfl
theorem spec_l01Src_rope_L5.eq (t : ByteArray) (i : Int) (s : List T_y) (s_1 : Int) (s_2 : Int) (s_3 : Int) (x : List T_siiii) (x_1 : List T_sib) (names : List T_s) (fu fu1 : Nat) : spec_l01Src_rope_L5 fu (fu1 + 1) t i s s_1 s_2 s_3 x x_1 names =
  (brB (ltI i (ln names))
   (optB (spec_l01Src_one fu 2 s s_1 s_2 s_3) fun r0 =>
   brB r0.1
    (chk (leI 0 i) <|
    chk (ltI i (ln names)) <|
    optB (spec_l01Src_n fu (addI .i64 (sz t) 1) r0.2.1 r0.2.2.1 r0.2.2.2.1 r0.2.2.2.2) fun r1 =>
    optB (spec_l01Src_one fu 2 r1.2.1 r1.2.2.1 r1.2.2.2.1 r1.2.2.2.2) fun r2 =>
    chk (ltI (mulZ (addZ (ln x_1) (ln (((rd names i (bs [])), (r1.1, r2.1)) :: ([] : List (ByteArray × Int × Bool))))) 32) 140737488355328) <|
    spec_l01Src_rope_L5 fu fu1 t (addI .i64 i 1) r2.2.1 r2.2.2.1 r2.2.2.2.1 r2.2.2.2.2 x (catL x_1 (((rd names i (bs [])), (r1.1, r2.1)) :: ([] : List (ByteArray × Int × Bool)))) names)
    (spec_l01Src_rope_L5 fu fu1 t (addI .i64 i 1) r0.2.1 r0.2.2.1 r0.2.2.2.1 r0.2.2.2.2 x x_1 names))
   (optB (spec_l01Src_one fu 60 s s_1 s_2 s_3) fun r0 =>
   brB r0.1
    (spec_l01Src_rope_L12 fu fu 0 r0.2.1 r0.2.2.1 r0.2.2.2.1 r0.2.2.2.2 x ([] : List (ByteArray × Int × Bool)))
    (some ((x, x_1), (r0.2.1, (r0.2.2.1, (r0.2.2.2.1, r0.2.2.2.2))))))) := by kernel_rfl
theorem spec_l01Src_anyRope_J17'1.eq (x : List T_y) (x_1 : Int) (x_2 : Int) (x_3 : Int) (rHi : Int) (x_4 : List T_siiii) (x_5 : List T_sib) (fu : Nat) : spec_l01Src_anyRope_J17'1 fu x x_1 x_2 x_3 rHi x_4 x_5 =
  (some (((takeI x_4 rHi), x_5), (x, (x_1, (x_2, x_3))))) := by unfold spec_l01Src_anyRope_J17'1; rw [joinAt_eq]; kernel_rfl
theorem slices_stableCmpFunc_Mark_L2.eq (n : Int) (blockSize : Int) (a : Int) (b : Int) (data : List T_sib) (fu fu1 : Nat) : slices_stableCmpFunc_Mark_L2 fu (fu1 + 1) n blockSize a b data =
  (brB (leI b n)
   (optB (slices_insertionSortCmpFunc_Mark fu a b data) fun r0 =>
   slices_stableCmpFunc_Mark_L2 fu fu1 n blockSize b (addI .i64 b blockSize) r0.2)
   (optB (slices_insertionSortCmpFunc_Mark fu a n data) fun r0 =>
   slices_stableCmpFunc_Mark_L7 fu fu n blockSize r0.2)) := by kernel_rfl
theorem spec_MarksAt_L13.eq (from' : Int) (to : Int) (i : Int) (k : Int) (r : List T_siiii) (r_1 : List T_sib) (out : List T_s) (at' : List T_i) (m : ByteArray) (m_1 : Int) (m_2 : Bool) (fu fu1 fu2 : Nat) : spec_MarksAt_L13 fu fu1 (fu2 + 1) from' to i k r r_1 out at' m m_1 m_2 =
  (brB (ltI 0 k)
   (chk (leI 0 (subI .i64 k 1)) <|
   chk (ltI (subI .i64 k 1) (ln at')) <|
   brB (ltI m_1 (rd at' (subI .i64 k 1) 0))
    (chk (leI 0 (subI .i64 k 1)) <|
    chk (ltI (subI .i64 k 1) (ln out)) <|
    chk (leI 0 k) <|
    chk (ltI k (ln out)) <|
    chk (leI 0 (subI .i64 k 1)) <|
    chk (ltI (subI .i64 k 1) (ln at')) <|
    chk (leI 0 k) <|
    chk (ltI k (ln at')) <|
    spec_MarksAt_L13 fu fu1 fu2 from' to i (subI .i64 k 1) r r_1 (setI out k (rd out (subI .i64 k 1) (bs []))) (setI at' k (rd at' (subI .i64 k 1) 0)) m m_1 m_2)
    (chk (leI 0 k) <|
    chk (ltI k (ln out)) <|
    chk (leI 0 k) <|
    chk (ltI k (ln at')) <|
    spec_MarksAt_L6 fu fu1 from' to (addI .i64 i 1) r r_1 (setI out k m) (setI at' k m_1)))
   (chk (leI 0 k) <|
   chk (ltI k (ln out)) <|
   chk (leI 0 k) <|
   chk (ltI k (ln at')) <|
   spec_MarksAt_L6 fu fu1 from' to (addI .i64 i 1) r r_1 (setI out k m) (setI at' k m_1))) := by kernel_rfl
theorem spec_l20Ends_L3.eq (t : ByteArray) (n : Int) (i : Int) (fu fu1 : Nat) : spec_l20Ends_L3 fu (fu1 + 1) t n i =
  (brB (ltI i (sz t))
   (chk (leI 0 i) <|
   chk (ltI i (sz t)) <|
   brB (eqI (bt t i) 10)
    (spec_l20Ends_L3 fu fu1 t (addI .i64 n 1) (addI .i64 i 1))
    (spec_l20Ends_L3 fu fu1 t n (addI .i64 i 1)))
   (some n)) := by kernel_rfl
theorem spec_l20Cut_L4.eq (t : ByteArray) (most : Int) (at' : Int) (i : Int) (fu fu1 : Nat) : spec_l20Cut_L4 fu (fu1 + 1) t most at' i =
  (brB (ltI i (sz t))
   (brB (leI i most)
    (optB (spec_l01Next fu t i) fun r0 =>
    spec_l20Cut_L4 fu fu1 t most i (addI .i64 i r0.2.1))
    (some at'))
   (some at')) := by kernel_rfl
theorem strings_Count.eq (s : ByteArray) (substr : ByteArray) (fu : Nat) : strings_Count (fu + 1) s substr =
  (brB (eqI (sz substr) 0)
   (optB (unicode_utf8_RuneCountInString fu s) fun r0 =>
   some (addI .i64 r0 1))
   (brB (eqI (sz substr) 1)
    (chk (leI 0 0) <|
    chk (ltI 0 (sz substr)) <|
    optB (internal_bytealg_CountString fu s (bt substr 0)) fun r0 =>
    some r0)
    (strings_Count_L6 fu fu s substr 0))) := by kernel_rfl
theorem impl_ropeTree_L7.eq (s : ByteArray) (n : Int) (lines : Int) (cut : Int) (i : Int) (out : List T_siiii) (fu fu1 : Nat) : impl_ropeTree_L7 fu (fu1 + 1) s n lines cut i out =
  (chk (notB (eqI 2 0)) <|
  brB (leI i (quoI .i64 (addI .i64 (sz s) 1) 2))
   (chk (leI 0 i) <|
   chk (leI i (minI (sz s) (addI .i64 i 4))) <|
   chk (leI (minI (sz s) (addI .i64 i 4)) (sz s)) <|
   optB (impl_read fu (subs s i (minI (sz s) (addI .i64 i 4)))) fun r0 =>
   chk (leI 0 0) <|
   chk (ltI 0 (ln r0)) <|
   impl_ropeTree_L7 fu fu1 s n lines i (addI .i64 i ((((rd r0 0 (0, (0, (0, false)))).2).2).1)) out)
   (chk (ltI (mulZ (addZ (ln out) (ln (((bs []), ((addI .i64 (ln out) 1), (0, (n, lines)))) :: ([] : List (ByteArray × Int × Int × Int × Int))))) 48) 140737488355328) <|
   chk (leI 0 cut) <|
   chk (leI cut (sz s)) <|
   optB (impl_ropeTree'1 fu (subs s 0 cut) (catL out (((bs []), ((addI .i64 (ln out) 1), (0, (n, lines)))) :: ([] : List (ByteArray × Int × Int × Int × Int))))) fun r0 =>
   chk (leI 0 (ln out)) <|
   chk (ltI (ln out) (ln r0.1)) <|
   chk (leI 0 cut) <|
   chk (leI cut (sz s)) <|
   optB (impl_ropeTree'1 fu (subs s cut (sz s)) (setI r0.1 (ln out) ((rd r0.1 (ln out) ((bs []), (0, (0, (0, 0))))).1, (((rd r0.1 (ln out) ((bs []), (0, (0, (0, 0))))).2).1, ((ln r0.1), (((rd r0.1 (ln out) ((bs []), (0, (0, (0, 0))))).2).2).2))))) fun r1 =>
   some (r1.1, ()))) := by kernel_rfl
theorem slices_IndexFunc_Mark_Mark_L2.eq (s : List T_sib) (x : Int) (x_1 : Int) (x_2 : ByteArray) (x_3 : Int) (x_4 : Bool) (fu fu1 : Nat) : slices_IndexFunc_Mark_Mark_L2 fu (fu1 + 1) s x x_1 x_2 x_3 x_4 =
  (brB (ltI x_1 x)
   (chk (leI 0 x_1) <|
   chk (ltI x_1 (ln s)) <|
   optB (impl_PutMark_1 fu ((rd s x_1 ((bs []), (0, false))).1) (((rd s x_1 ((bs []), (0, false))).2).1) (((rd s x_1 ((bs []), (0, false))).2).2) x_2 x_3 x_4) fun r0 =>
   brB r0.1
    (some (x_1, (r0.2.1, (r0.2.2.1, r0.2.2.2))))
    (slices_IndexFunc_Mark_Mark_L2 fu fu1 s x (addI .i64 x_1 1) r0.2.1 r0.2.2.1 r0.2.2.2))
   (some ((-1), (x_2, (x_3, x_4))))) := by kernel_rfl
theorem impl_PutMark_1.eq (x : ByteArray) (x_1 : Int) (x_2 : Bool) (x_3 : ByteArray) (x_4 : Int) (x_5 : Bool) (fu : Nat) : impl_PutMark_1 (fu + 1) x x_1 x_2 x_3 x_4 x_5 =
  (some ((bytesEq x x_3), (x_3, (x_4, x_5)))) := by kernel_rfl
theorem laws_markText_L4.eq (k : Int) (out : ByteArray) (fu fu1 : Nat) : laws_markText_L4 fu (fu1 + 1) k out =
  (brB (ltI 0 k)
   (chk (notB (eqI 10 0)) <|
   chk (leI (addZ (sz (bytesOf ((wrI .u8 (addI .i64 48 (remI k 10))) :: ([] : List Int)))) (sz out)) 9223372036854775807) <|
   chk (notB (eqI 10 0)) <|
   laws_markText_L4 fu fu1 (quoI .i64 k 10) (catS (bytesOf ((wrI .u8 (addI .i64 48 (remI k 10))) :: ([] : List Int))) out))
   (chk (leI (addZ (sz (bs [109])) (sz out)) 9223372036854775807) <|
   some (catS (bs [109]) out))) := by kernel_rfl
theorem laws_heldRopeNodeS_L2.eq (a : List T_siiii) (k : Int) (i : Int) (fu fu1 : Nat) : laws_heldRopeNodeS_L2 fu (fu1 + 1) a k i =
  (brB (ltI i (ln a))
   (chk (leI 0 i) <|
   chk (ltI i (ln a)) <|
   optB (laws_markText fu k) fun r0 =>
   brB (notB (bytesEq ((rd a i ((bs []), (0, (0, (0, 0))))).1) r0))
    (some (-1))
    (chk (leI 0 i) <|
    chk (ltI i (ln a)) <|
    brB (notB (eqI (((rd a i ((bs []), (0, (0, (0, 0))))).2).1) (addI .i64 k 1)))
     (some (-1))
     (chk (leI 0 i) <|
     chk (ltI i (ln a)) <|
     brB (notB (eqI ((((rd a i ((bs []), (0, (0, (0, 0))))).2).2).1) (addI .i64 (addI .i64 k 1) 1)))
      (some (-1))
      (chk (leI 0 i) <|
      chk (ltI i (ln a)) <|
      brB (notB (eqI (((((rd a i ((bs []), (0, (0, (0, 0))))).2).2).2).1) (addI .i64 (addI .i64 (addI .i64 k 1) 1) 1)))
       (some (-1))
       (chk (leI 0 i) <|
       chk (ltI i (ln a)) <|
       brB (notB (eqI (((((rd a i ((bs []), (0, (0, (0, 0))))).2).2).2).2) (addI .i64 (addI .i64 (addI .i64 (addI .i64 k 1) 1) 1) 1)))
        (some (-1))
        (laws_heldRopeNodeS_L2 fu fu1 a (addI .i64 (addI .i64 (addI .i64 (addI .i64 (addI .i64 k 1) 1) 1) 1) 1) (addI .i64 i 1)))))))
   (some k)) := by kernel_rfl
theorem laws_heldMarkS_L2.eq (a : List T_sib) (k : Int) (i : Int) (fu fu1 : Nat) : laws_heldMarkS_L2 fu (fu1 + 1) a k i =
  (brB (ltI i (ln a))
   (chk (leI 0 i) <|
   chk (ltI i (ln a)) <|
   optB (laws_markText fu k) fun r0 =>
   brB (notB (bytesEq ((rd a i ((bs []), (0, false))).1) r0))
    (some (-1))
    (chk (leI 0 i) <|
    chk (ltI i (ln a)) <|
    brB (notB (eqI (((rd a i ((bs []), (0, false))).2).1) (addI .i64 k 1)))
     (some (-1))
     (chk (leI 0 i) <|
     chk (ltI i (ln a)) <|
     chk (notB (eqI 3 0)) <|
     brB (notB (eqB (((rd a i ((bs []), (0, false))).2).2) (eqI (remI (addI .i64 (addI .i64 k 1) 1) 3) 0)))
      (some (-1))
      (laws_heldMarkS_L2 fu fu1 a (addI .i64 (addI .i64 (addI .i64 k 1) 1) 1) (addI .i64 i 1)))))
   (some k)) := by kernel_rfl
theorem spec_l01Src_ropeText_L3.eq (out : ByteArray) (k : Int) (s : List T_y) (s_1 : Int) (s_2 : Int) (s_3 : Int) (fu fu1 : Nat) : spec_l01Src_ropeText_L3 fu (fu1 + 1) out k s s_1 s_2 s_3 =
  (brB (ltI 0 k)
   (optB (spec_l01Write fu 512) fun r0 =>
   optB (spec_l01Write fu 24576) fun r1 =>
   optB (spec_l01Write fu 24577) fun r2 =>
   chk (leI (addZ (sz r1) (sz r2)) 9223372036854775807) <|
   optB (spec_l01Write fu 65536) fun r3 =>
   optB (spec_l01Src_pick fu ((bs [97, 98, 99, 100, 101, 102, 103, 104, 105, 106]) :: ((bs [10]) :: ((bs [120, 121]) :: (r0 :: ((catS r1 r2) :: ((bs [255]) :: ((bs [119, 111, 114, 100, 32]) :: ((bs [10, 10]) :: (r3 :: ((bs [48, 49, 50, 51, 52, 53, 54, 55, 56, 57, 48, 49, 50, 51, 52, 53, 54, 55, 56, 57, 48, 49, 50, 51, 52, 53, 54, 55, 56, 57, 48, 49, 50, 51, 52, 53, 54, 55, 56, 57]) :: ([] : List ByteArray))))))))))) s s_1 s_2 s_3) fun r4 =>
   chk (leI (addZ (sz out) (sz r4.1)) 9223372036854775807) <|
   spec_l01Src_ropeText_L3 fu fu1 (catS out r4.1) (subI .i64 k 1) r4.2.1 r4.2.2.1 r4.2.2.2.1 r4.2.2.2.2)
   (optB (spec_l01Src_one fu 60 s s_1 s_2 s_3) fun r0 =>
   brB r0.1
    (optB (spec_l01Src_n fu 5 r0.2.1 r0.2.2.1 r0.2.2.2.1 r0.2.2.2.2) fun r1 =>
    optB (spec_l01Src_long fu (bs [97, 98, 99, 10]) (addI .i64 65533 r1.1) r1.2.1 r1.2.2.1 r1.2.2.2.1 r1.2.2.2.2) fun r2 =>
    some (r2.1, (r2.2.1, (r2.2.2.1, (r2.2.2.2.1, r2.2.2.2.2)))))
    (some (out, (r0.2.1, (r0.2.2.1, (r0.2.2.2.1, r0.2.2.2.2))))))) := by kernel_rfl
theorem spec_l01Src_rope_L12.eq (k : Int) (x : List T_y) (x_1 : Int) (x_2 : Int) (x_3 : Int) (x_4 : List T_siiii) (x_5 : List T_sib) (fu fu1 : Nat) : spec_l01Src_rope_L12 fu (fu1 + 1) k x x_1 x_2 x_3 x_4 x_5 =
  (brB (ltI k 100)
   (optB (spec_l04Dec fu (addI .i64 100 k)) fun r0 =>
   chk (leI (addZ (sz (bs [109])) (sz r0)) 9223372036854775807) <|
   chk (ltI (mulZ (addZ (ln x_5) (ln (((catS (bs [109]) r0), (0, false)) :: ([] : List (ByteArray × Int × Bool))))) 32) 140737488355328) <|
   spec_l01Src_rope_L12 fu fu1 (addI .i64 k 1) x x_1 x_2 x_3 x_4 (catL x_5 (((catS (bs [109]) r0), (0, false)) :: ([] : List (ByteArray × Int × Bool)))))
   (some ((x_4, x_5), (x, (x_1, (x_2, x_3)))))) := by kernel_rfl
theorem slices_insertionSortCmpFunc_Mark.eq (a : Int) (b : Int) (data : List T_sib) (fu : Nat) : slices_insertionSortCmpFunc_Mark (fu + 1) a b data =
  (slices_insertionSortCmpFunc_Mark_L1 fu fu a b (addI .i64 a 1) data) := by kernel_rfl
theorem slices_stableCmpFunc_Mark_L7.eq (n : Int) (blockSize : Int) (data : List T_sib) (fu fu1 : Nat) : slices_stableCmpFunc_Mark_L7 fu (fu1 + 1) n blockSize data =
  (brB (ltI blockSize n)
   (slices_stableCmpFunc_Mark_L9 fu fu1 fu n blockSize 0 (mulI .i64 2 blockSize) data)
   (some ((), data))) := by kernel_rfl
theorem spec_l01Next.eq (t : ByteArray) (at' : Int) (fu : Nat) : spec_l01Next (fu + 1) t at' =
  (chk (leI 0 at') <|
  chk (ltI at' (sz t)) <|
  brB (ltI (wrI .i64 (bt t at')) 128)
   (some ((wrI .i64 (bt t at')), (1, true)))
   (brB (leI 194 (wrI .i64 (bt t at')))
    (brB (ltI (wrI .i64 (bt t at')) 224)
     (chk (notB (eqI 32 0)) <|
     spec_l01Next_J16 fu t at' 1 (remI (wrI .i64 (bt t at')) 32))
     (brB (leI 224 (wrI .i64 (bt t at')))
      (brB (ltI (wrI .i64 (bt t at')) 240)
       (chk (notB (eqI 16 0)) <|
       spec_l01Next_J16 fu t at' 2 (remI (wrI .i64 (bt t at')) 16))
       (brB (leI 240 (wrI .i64 (bt t at')))
        (brB (ltI (wrI .i64 (bt t at')) 245)
         (chk (notB (eqI 8 0)) <|
         spec_l01Next_J16 fu t at' 3 (remI (wrI .i64 (bt t at')) 8))
         (some (65533, (1, false))))
        (some (65533, (1, false)))))
      (brB (leI 240 (wrI .i64 (bt t at')))
       (brB (ltI (wrI .i64 (bt t at')) 245)
        (chk (notB (eqI 8 0)) <|
        spec_l01Next_J16 fu t at' 3 (remI (wrI .i64 (bt t at')) 8))
        (some (65533, (1, false))))
       (some (65533, (1, false))))))
    (brB (leI 224 (wrI .i64 (bt t at')))
     (brB (ltI (wrI .i64 (bt t at')) 240)
      (chk (notB (eqI 16 0)) <|
      spec_l01Next_J16 fu t at' 2 (remI (wrI .i64 (bt t at')) 16))
      (brB (leI 240 (wrI .i64 (bt t at')))
       (brB (ltI (wrI .i64 (bt t at')) 245)
        (chk (notB (eqI 8 0)) <|
        spec_l01Next_J16 fu t at' 3 (remI (wrI .i64 (bt t at')) 8))
        (some (65533, (1, false))))
       (some (65533, (1, false)))))
     (brB (leI 240 (wrI .i64 (bt t at')))
      (brB (ltI (wrI .i64 (bt t at')) 245)
       (chk (notB (eqI 8 0)) <|
       spec_l01Next_J16 fu t at' 3 (remI (wrI .i64 (bt t at')) 8))
       (some (65533, (1, false))))
      (some (65533, (1, false))))))) := by kernel_rfl
theorem unicode_utf8_RuneCountInString.eq (s : ByteArray) (fu : Nat) : unicode_utf8_RuneCountInString (fu + 1) s =
  (none) := by kernel_rfl
theorem strings_Count_L6.eq (s : ByteArray) (substr : ByteArray) (n : Int) (fu fu1 : Nat) : strings_Count_L6 fu (fu1 + 1) s substr n =
  (optB (strings_Index fu s substr) fun r0 =>
  brB (eqI r0 (-1))
   (some n)
   (chk (leI 0 (addI .i64 r0 (sz substr))) <|
   chk (leI (addI .i64 r0 (sz substr)) (sz s)) <|
   strings_Count_L6 fu fu1 (subs s (addI .i64 r0 (sz substr)) (sz s)) substr (addI .i64 n 1))) := by kernel_rfl
theorem impl_read.eq (s : ByteArray) (fu : Nat) : impl_read (fu + 1) s =
  (impl_read_L3 fu fu s 0) := by kernel_rfl
theorem impl_ropeTree'1.eq (s : ByteArray) (out : List T_siiii) (fu : Nat) : impl_ropeTree'1 (fu + 1) s out =
  (optB (strings_Count fu s (bs [10])) fun r0 =>
  brB (leI (sz s) 64)
   (chk (ltI (mulZ (addZ (ln out) (ln ((s, ((-1), ((-1), ((sz s), r0)))) :: ([] : List (ByteArray × Int × Int × Int × Int))))) 48) 140737488355328) <|
   some ((catL out ((s, ((-1), ((-1), ((sz s), r0)))) :: ([] : List (ByteArray × Int × Int × Int × Int)))), ()))
   (impl_ropeTree_L7'1 fu fu s (sz s) r0 0 0 out)) := by kernel_rfl
theorem spec_l01Write.eq (p : Int) (fu : Nat) : spec_l01Write (fu + 1) p =
  (optB (spec_l01IsPoint fu p) fun r0 =>
  brB (notB r0)
   (spec_l01Write_J3 fu 65533)
   (spec_l01Write_J3 fu p)) := by kernel_rfl
theorem spec_l01Src_long.eq (c : ByteArray) (n : Int) (s : List T_y) (s_1 : Int) (s_2 : Int) (s_3 : Int) (fu : Nat) : spec_l01Src_long (fu + 1) c n s s_1 s_2 s_3 =
  (spec_l01Src_long_L2 fu fu c n s s_1 s_2 s_3 ([] : List Int)) := by kernel_rfl
theorem spec_l04Dec.eq (n : Int) (fu : Nat) : spec_l04Dec (fu + 1) n =
  (brB (ltI n 0)
   (optB (spec_l04Digits fu (subI .i64 0 n)) fun r0 =>
   chk (leI (addZ (sz (bs [45])) (sz r0)) 9223372036854775807) <|
   some (catS (bs [45]) r0))
   (optB (spec_l04Digits fu n) fun r0 =>
   some r0)) := by kernel_rfl
theorem slices_insertionSortCmpFunc_Mark_L1.eq (a : Int) (b : Int) (i : Int) (data : List T_sib) (fu fu1 : Nat) : slices_insertionSortCmpFunc_Mark_L1 fu (fu1 + 1) a b i data =
  (brB (ltI i b)
   (slices_insertionSortCmpFunc_Mark_L4 fu fu1 fu a b i i data)
   (some ((), data))) := by kernel_rfl
theorem slices_stableCmpFunc_Mark_L9.eq (n : Int) (blockSize : Int) (a : Int) (b : Int) (data : List T_sib) (fu fu1 fu2 : Nat) : slices_stableCmpFunc_Mark_L9 fu fu1 (fu2 + 1) n blockSize a b data =
  (brB (leI b n)
   (optB (slices_symMergeCmpFunc_Mark fu a (addI .i64 a blockSize) b data) fun r0 =>
   slices_stableCmpFunc_Mark_L9 fu fu1 fu2 n blockSize b (addI .i64 b (mulI .i64 2 blockSize)) r0.2)
   (brB (ltI (addI .i64 a blockSize) n)
    (optB (slices_symMergeCmpFunc_Mark fu a (addI .i64 a blockSize) n data) fun r0 =>
    slices_stableCmpFunc_Mark_L7 fu fu1 n (mulI .i64 blockSize 2) r0.2)
    (slices_stableCmpFunc_Mark_L7 fu fu1 n (mulI .i64 blockSize 2) data))) := by kernel_rfl
theorem spec_l01Next_J16.eq (t : ByteArray) (at' : Int) (n : Int) (p : Int) (fu : Nat) : spec_l01Next_J16 fu t at' n p =
  (brB (leI (sz t) (addI .i64 at' n))
   (some (65533, (1, false)))
   (spec_l01Next_L19 fu fu t at' n p 1)) := by unfold spec_l01Next_J16; rw [joinAt_eq]; kernel_rfl
theorem strings_Index.eq (s : ByteArray) (substr : ByteArray) (fu : Nat) : strings_Index (fu + 1) s substr =
  (optB (internal_stringslite_Index fu s substr) fun r0 =>
  some r0) := by kernel_rfl
theorem impl_read_L3.eq (s : ByteArray) (i : Int) (fu fu1 : Nat) : impl_read_L3 fu (fu1 + 1) s i =
  (brB (ltI i (sz s))
   (chk (leI 0 i) <|
   chk (leI i (sz s)) <|
   optB (unicode_utf8_DecodeRuneInString fu (subs s i (sz s))) fun r0 =>
   brB (eqI r0.1 65533)
    (chk (ltI (mulZ (addZ (ln ([] : List (Int × Int × Int × Bool))) (ln (((wrI .i64 r0.1), (i, ((addI .i64 i r0.2), (eqI r0.2 1)))) :: ([] : List (Int × Int × Int × Bool))))) 32) 140737488355328) <|
    impl_read_L3'1 fu fu1 s (addI .i64 i r0.2) (catL ([] : List (Int × Int × Int × Bool)) (((wrI .i64 r0.1), (i, ((addI .i64 i r0.2), (eqI r0.2 1)))) :: ([] : List (Int × Int × Int × Bool)))))
    (chk (ltI (mulZ (addZ (ln ([] : List (Int × Int × Int × Bool))) (ln (((wrI .i64 r0.1), (i, ((addI .i64 i r0.2), false))) :: ([] : List (Int × Int × Int × Bool))))) 32) 140737488355328) <|
    impl_read_L3'1 fu fu1 s (addI .i64 i r0.2) (catL ([] : List (Int × Int × Int × Bool)) (((wrI .i64 r0.1), (i, ((addI .i64 i r0.2), false))) :: ([] : List (Int × Int × Int × Bool))))))
   (some ([] : List (Int × Int × Int × Bool)))) := by kernel_rfl
theorem impl_ropeTree_L7'1.eq (s : ByteArray) (n : Int) (lines : Int) (cut : Int) (i : Int) (out : List T_siiii) (fu fu1 : Nat) : impl_ropeTree_L7'1 fu (fu1 + 1) s n lines cut i out =
  (chk (notB (eqI 2 0)) <|
  brB (leI i (quoI .i64 (addI .i64 (sz s) 1) 2))
   (chk (leI 0 i) <|
   chk (leI i (minI (sz s) (addI .i64 i 4))) <|
   chk (leI (minI (sz s) (addI .i64 i 4)) (sz s)) <|
   optB (impl_read fu (subs s i (minI (sz s) (addI .i64 i 4)))) fun r0 =>
   chk (leI 0 0) <|
   chk (ltI 0 (ln r0)) <|
   impl_ropeTree_L7'1 fu fu1 s n lines i (addI .i64 i ((((rd r0 0 (0, (0, (0, false)))).2).2).1)) out)
   (chk (ltI (mulZ (addZ (ln out) (ln (((bs []), ((addI .i64 (ln out) 1), (0, (n, lines)))) :: ([] : List (ByteArray × Int × Int × Int × Int))))) 48) 140737488355328) <|
   chk (leI 0 cut) <|
   chk (leI cut (sz s)) <|
   optB (impl_ropeTree'1 fu (subs s 0 cut) (catL out (((bs []), ((addI .i64 (ln out) 1), (0, (n, lines)))) :: ([] : List (ByteArray × Int × Int × Int × Int))))) fun r0 =>
   chk (leI 0 (ln out)) <|
   chk (ltI (ln out) (ln r0.1)) <|
   chk (leI 0 cut) <|
   chk (leI cut (sz s)) <|
   optB (impl_ropeTree'1 fu (subs s cut (sz s)) (setI r0.1 (ln out) ((rd r0.1 (ln out) ((bs []), (0, (0, (0, 0))))).1, (((rd r0.1 (ln out) ((bs []), (0, (0, (0, 0))))).2).1, ((ln r0.1), (((rd r0.1 (ln out) ((bs []), (0, (0, (0, 0))))).2).2).2))))) fun r1 =>
   some (r1.1, ()))) := by kernel_rfl
theorem spec_l01IsPoint.eq (p : Int) (fu : Nat) : spec_l01IsPoint (fu + 1) p =
  (brB (leI 0 p)
   (brB (leI p 1114111)
    (brB (ltI p 55296)
     (some true)
     (some (ltI 57343 p)))
    (some false))
   (some false)) := by kernel_rfl
theorem spec_l01Write_J3.eq (p : Int) (fu : Nat) : spec_l01Write_J3 fu p =
  (brB (ltI p 128)
   (some (bytesOf ((wrI .u8 p) :: ([] : List Int))))
   (brB (ltI p 2048)
    (chk (notB (eqI 64 0)) <|
    chk (notB (eqI 64 0)) <|
    some (bytesOf ((wrI .u8 (addI .i64 192 (quoI .i64 p 64))) :: ((wrI .u8 (addI .i64 128 (remI p 64))) :: ([] : List Int)))))
    (brB (ltI p 65536)
     (chk (notB (eqI 4096 0)) <|
     chk (notB (eqI 64 0)) <|
     chk (notB (eqI 64 0)) <|
     chk (notB (eqI 64 0)) <|
     some (bytesOf ((wrI .u8 (addI .i64 224 (quoI .i64 p 4096))) :: ((wrI .u8 (addI .i64 128 (remI (quoI .i64 p 64) 64))) :: ((wrI .u8 (addI .i64 128 (remI p 64))) :: ([] : List Int))))))
     (chk (notB (eqI 262144 0)) <|
     chk (notB (eqI 4096 0)) <|
     chk (notB (eqI 64 0)) <|
     chk (notB (eqI 64 0)) <|
     chk (notB (eqI 64 0)) <|
     chk (notB (eqI 64 0)) <|
     some (bytesOf ((wrI .u8 (addI .i64 240 (quoI .i64 p 262144))) :: ((wrI .u8 (addI .i64 128 (remI (quoI .i64 p 4096) 64))) :: ((wrI .u8 (addI .i64 128 (remI (quoI .i64 p 64) 64))) :: ((wrI .u8 (addI .i64 128 (remI p 64))) :: ([] : List Int)))))))))) := by unfold spec_l01Write_J3; rw [joinAt_eq]; kernel_rfl
theorem spec_l01Src_long_L2.eq (c : ByteArray) (n : Int) (x : List T_y) (x_1 : Int) (x_2 : Int) (x_3 : Int) (b : List T_y) (fu fu1 : Nat) : spec_l01Src_long_L2 fu (fu1 + 1) c n x x_1 x_2 x_3 b =
  (brB (ltI (ln b) n)
   (chk (ltI (mulZ (addZ (ln b) (ln (numsOf c))) 1) 140737488355328) <|
   spec_l01Src_long_L2 fu fu1 c n x x_1 x_2 x_3 (catL b (numsOf c)))
   (chk (leI 0 n) <|
   chk (leI n (ln b)) <|
   some ((bytesOf (dropI (takeI b n) 0)), (x, (x_1, (x_2, x_3)))))) := by kernel_rfl
theorem spec_l04Digits.eq (n : Int) (fu : Nat) : spec_l04Digits (fu + 1) n =
  (brB (ltI n 0)
   (some (bs [57, 50, 50, 51, 51, 55, 50, 48, 51, 54, 56, 53, 52, 55, 55, 53, 56, 48, 56]))
   (spec_l04Digits_L4 fu fu n (bs []))) := by kernel_rfl
theorem slices_insertionSortCmpFunc_Mark_L4.eq (a : Int) (b : Int) (i : Int) (j : Int) (data : List T_sib) (fu fu1 fu2 : Nat) : slices_insertionSortCmpFunc_Mark_L4 fu fu1 (fu2 + 1) a b i j data =
  (brB (ltI a j)
   (chk (leI 0 j) <|
   chk (ltI j (ln data)) <|
   chk (leI 0 (subI .i64 j 1)) <|
   chk (ltI (subI .i64 j 1) (ln data)) <|
   optB (impl_MarksAt_1 fu ((rd data j ((bs []), (0, false))).1) (((rd data j ((bs []), (0, false))).2).1) (((rd data j ((bs []), (0, false))).2).2) ((rd data (subI .i64 j 1) ((bs []), (0, false))).1) (((rd data (subI .i64 j 1) ((bs []), (0, false))).2).1) (((rd data (subI .i64 j 1) ((bs []), (0, false))).2).2)) fun r0 =>
   brB (ltI r0 0)
    (chk (leI 0 (subI .i64 j 1)) <|
    chk (ltI (subI .i64 j 1) (ln data)) <|
    chk (leI 0 j) <|
    chk (ltI j (ln data)) <|
    chk (leI 0 j) <|
    chk (ltI j (ln data)) <|
    chk (leI 0 (subI .i64 j 1)) <|
    chk (ltI (subI .i64 j 1) (ln (setI data j ((rd data (subI .i64 j 1) ((bs []), (0, false))).1, (((rd data (subI .i64 j 1) ((bs []), (0, false))).2).1, ((rd data (subI .i64 j 1) ((bs []), (0, false))).2).2))))) <|
    slices_insertionSortCmpFunc_Mark_L4 fu fu1 fu2 a b i (subI .i64 j 1) (setI (setI data j ((rd data (subI .i64 j 1) ((bs []), (0, false))).1, (((rd data (subI .i64 j 1) ((bs []), (0, false))).2).1, ((rd data (subI .i64 j 1) ((bs []), (0, false))).2).2))) (subI .i64 j 1) ((rd data j ((bs []), (0, false))).1, (((rd data j ((bs []), (0, false))).2).1, ((rd data j ((bs []), (0, false))).2).2))))
    (slices_insertionSortCmpFunc_Mark_L1 fu fu1 a b (addI .i64 i 1) data))
   (slices_insertionSortCmpFunc_Mark_L1 fu fu1 a b (addI .i64 i 1) data)) := by kernel_rfl
theorem slices_symMergeCmpFunc_Mark.eq (a : Int) (m : Int) (b : Int) (data : List T_sib) (fu : Nat) : slices_symMergeCmpFunc_Mark (fu + 1) a m b data =
  (brB (eqI (subI .i64 m a) 1)
   (slices_symMergeCmpFunc_Mark_L3 fu fu a m b data)
   (brB (eqI (subI .i64 b m) 1)
    (slices_symMergeCmpFunc_Mark_L15 fu fu m a m data)
    (chk (leI 0 1) <|
    brB (ltI (wrI .i64 (shrI .u64 (wrI .u64 (addI .i64 a b)) 1)) m)
     (slices_symMergeCmpFunc_Mark_L33 fu fu a m b (wrI .i64 (shrI .u64 (wrI .u64 (addI .i64 a b)) 1)) (addI .i64 (wrI .i64 (shrI .u64 (wrI .u64 (addI .i64 a b)) 1)) m) (subI .i64 (addI .i64 (wrI .i64 (shrI .u64 (wrI .u64 (addI .i64 a b)) 1)) m) b) (wrI .i64 (shrI .u64 (wrI .u64 (addI .i64 a b)) 1)) (subI .i64 (addI .i64 (wrI .i64 (shrI .u64 (wrI .u64 (addI .i64 a b)) 1)) m) 1) data)
     (slices_symMergeCmpFunc_Mark_L33 fu fu a m b (wrI .i64 (shrI .u64 (wrI .u64 (addI .i64 a b)) 1)) (addI .i64 (wrI .i64 (shrI .u64 (wrI .u64 (addI .i64 a b)) 1)) m) a m (subI .i64 (addI .i64 (wrI .i64 (shrI .u64 (wrI .u64 (addI .i64 a b)) 1)) m) 1) data)))) := by kernel_rfl
theorem spec_l01Next_L19.eq (t : ByteArray) (at' : Int) (n : Int) (p : Int) (i : Int) (fu fu1 : Nat) : spec_l01Next_L19 fu (fu1 + 1) t at' n p i =
  (brB (leI i n)
   (chk (leI 0 (addI .i64 at' i)) <|
   chk (ltI (addI .i64 at' i) (sz t)) <|
   brB (ltI (wrI .i64 (bt t (addI .i64 at' i))) 128)
    (some (65533, (1, false)))
    (brB (ltI 191 (wrI .i64 (bt t (addI .i64 at' i))))
     (some (65533, (1, false)))
     (chk (notB (eqI 64 0)) <|
     spec_l01Next_L19 fu fu1 t at' n (addI .i64 (mulI .i64 p 64) (remI (wrI .i64 (bt t (addI .i64 at' i))) 64)) (addI .i64 i 1))))
   (optB (spec_l01IsPoint fu p) fun r0 =>
   brB (notB r0)
    (some (65533, (1, false)))
    (optB (spec_l01Write fu p) fun r1 =>
    brB (notB (eqI (sz r1) (addI .i64 n 1)))
     (some (65533, (1, false)))
     (some (p, ((addI .i64 n 1), true)))))) := by kernel_rfl
theorem internal_stringslite_Index.eq (s : ByteArray) (substr : ByteArray) (fu : Nat) : internal_stringslite_Index (fu + 1) s substr =
  (brB (eqI (sz substr) 0)
   (some 0)
   (brB (bytesEq substr s)
    (some 0)
    (brB (eqI (sz substr) 1)
     (chk (leI 0 0) <|
     chk (ltI 0 (sz substr)) <|
     optB (internal_stringslite_IndexByte fu s (bt substr 0)) fun r0 =>
     some r0)
     (chk (leI (sz s) (sz substr)) <|
     some (-1))))) := by kernel_rfl
theorem impl_read_L3'1.eq (s : ByteArray) (i : Int) (out : List T_iiib) (fu fu1 : Nat) : impl_read_L3'1 fu (fu1 + 1) s i out =
  (brB (ltI i (sz s))
   (chk (leI 0 i) <|
   chk (leI i (sz s)) <|
   optB (unicode_utf8_DecodeRuneInString fu (subs s i (sz s))) fun r0 =>
   brB (eqI r0.1 65533)
    (chk (ltI (mulZ (addZ (ln out) (ln (((wrI .i64 r0.1), (i, ((addI .i64 i r0.2), (eqI r0.2 1)))) :: ([] : List (Int × Int × Int × Bool))))) 32) 140737488355328) <|
    impl_read_L3'1 fu fu1 s (addI .i64 i r0.2) (catL out (((wrI .i64 r0.1), (i, ((addI .i64 i r0.2), (eqI r0.2 1)))) :: ([] : List (Int × Int × Int × Bool)))))
    (chk (ltI (mulZ (addZ (ln out) (ln (((wrI .i64 r0.1), (i, ((addI .i64 i r0.2), false))) :: ([] : List (Int × Int × Int × Bool))))) 32) 140737488355328) <|
    impl_read_L3'1 fu fu1 s (addI .i64 i r0.2) (catL out (((wrI .i64 r0.1), (i, ((addI .i64 i r0.2), false))) :: ([] : List (Int × Int × Int × Bool))))))
   (some out)) := by kernel_rfl
theorem spec_l04Digits_L4.eq (n : Int) (out : ByteArray) (fu fu1 : Nat) : spec_l04Digits_L4 fu (fu1 + 1) n out =
  (brB (ltI 9 n)
   (chk (notB (eqI 10 0)) <|
   chk (leI (addZ (sz (bytesOf ((wrI .u8 (addI .i64 48 (remI n 10))) :: ([] : List Int)))) (sz out)) 9223372036854775807) <|
   chk (notB (eqI 10 0)) <|
   spec_l04Digits_L4 fu fu1 (quoI .i64 n 10) (catS (bytesOf ((wrI .u8 (addI .i64 48 (remI n 10))) :: ([] : List Int))) out))
   (chk (leI (addZ (sz (bytesOf ((wrI .u8 (addI .i64 48 n)) :: ([] : List Int)))) (sz out)) 9223372036854775807) <|
   some (catS (bytesOf ((wrI .u8 (addI .i64 48 n)) :: ([] : List Int))) out))) := by kernel_rfl
theorem impl_MarksAt_1.eq (a : ByteArray) (a_1 : Int) (a_2 : Bool) (b : ByteArray) (b_1 : Int) (b_2 : Bool) (fu : Nat) : impl_MarksAt_1 (fu + 1) a a_1 a_2 b b_1 b_2 =
  (optB (cmp_Compare_int64 fu a_1 b_1) fun r0 =>
  some r0) := by kernel_rfl
theorem slices_symMergeCmpFunc_Mark_L3.eq (a : Int) (i : Int) (j : Int) (data : List T_sib) (fu fu1 : Nat) : slices_symMergeCmpFunc_Mark_L3 fu (fu1 + 1) a i j data =
  (brB (ltI i j)
   (chk (leI 0 1) <|
   chk (leI 0 (wrI .i64 (shrI .u64 (wrI .u64 (addI .i64 i j)) 1))) <|
   chk (ltI (wrI .i64 (shrI .u64 (wrI .u64 (addI .i64 i j)) 1)) (ln data)) <|
   chk (leI 0 a) <|
   chk (ltI a (ln data)) <|
   optB (impl_MarksAt_1 fu ((rd data (wrI .i64 (shrI .u64 (wrI .u64 (addI .i64 i j)) 1)) ((bs []), (0, false))).1) (((rd data (wrI .i64 (shrI .u64 (wrI .u64 (addI .i64 i j)) 1)) ((bs []), (0, false))).2).1) (((rd data (wrI .i64 (shrI .u64 (wrI .u64 (addI .i64 i j)) 1)) ((bs []), (0, false))).2).2) ((rd data a ((bs []), (0, false))).1) (((rd data a ((bs []), (0, false))).2).1) (((rd data a ((bs []), (0, false))).2).2)) fun r0 =>
   brB (ltI r0 0)
    (slices_symMergeCmpFunc_Mark_L3 fu fu1 a (addI .i64 (wrI .i64 (shrI .u64 (wrI .u64 (addI .i64 i j)) 1)) 1) j data)
    (slices_symMergeCmpFunc_Mark_L3 fu fu1 a i (wrI .i64 (shrI .u64 (wrI .u64 (addI .i64 i j)) 1)) data))
   (slices_symMergeCmpFunc_Mark_L9 fu fu i a data)) := by kernel_rfl
theorem slices_symMergeCmpFunc_Mark_L15.eq (m : Int) (i : Int) (j : Int) (data : List T_sib) (fu fu1 : Nat) : slices_symMergeCmpFunc_Mark_L15 fu (fu1 + 1) m i j data =
  (brB (ltI i j)
   (chk (leI 0 1) <|
   chk (leI 0 m) <|
   chk (ltI m (ln data)) <|
   chk (leI 0 (wrI .i64 (shrI .u64 (wrI .u64 (addI .i64 i j)) 1))) <|
   chk (ltI (wrI .i64 (shrI .u64 (wrI .u64 (addI .i64 i j)) 1)) (ln data)) <|
   optB (impl_MarksAt_1 fu ((rd data m ((bs []), (0, false))).1) (((rd data m ((bs []), (0, false))).2).1) (((rd data m ((bs []), (0, false))).2).2) ((rd data (wrI .i64 (shrI .u64 (wrI .u64 (addI .i64 i j)) 1)) ((bs []), (0, false))).1) (((rd data (wrI .i64 (shrI .u64 (wrI .u64 (addI .i64 i j)) 1)) ((bs []), (0, false))).2).1) (((rd data (wrI .i64 (shrI .u64 (wrI .u64 (addI .i64 i j)) 1)) ((bs []), (0, false))).2).2)) fun r0 =>
   brB (notB (ltI r0 0))
    (slices_symMergeCmpFunc_Mark_L15 fu fu1 m (addI .i64 (wrI .i64 (shrI .u64 (wrI .u64 (addI .i64 i j)) 1)) 1) j data)
    (slices_symMergeCmpFunc_Mark_L15 fu fu1 m i (wrI .i64 (shrI .u64 (wrI .u64 (addI .i64 i j)) 1)) data))
   (slices_symMergeCmpFunc_Mark_L21 fu fu i m data)) := by kernel_rfl
theorem slices_symMergeCmpFunc_Mark_L33.eq (a : Int) (m : Int) (b : Int) (mid : Int) (n : Int) (start : Int) (r : Int) (p : Int) (data : List T_sib) (fu fu1 : Nat) : slices_symMergeCmpFunc_Mark_L33 fu (fu1 + 1) a m b mid n start r p data =
  (brB (ltI start r)
   (chk (leI 0 1) <|
   chk (leI 0 (subI .i64 p (wrI .i64 (shrI .u64 (wrI .u64 (addI .i64 start r)) 1)))) <|
   chk (ltI (subI .i64 p (wrI .i64 (shrI .u64 (wrI .u64 (addI .i64 start r)) 1))) (ln data)) <|
   chk (leI 0 (wrI .i64 (shrI .u64 (wrI .u64 (addI .i64 start r)) 1))) <|
   chk (ltI (wrI .i64 (shrI .u64 (wrI .u64 (addI .i64 start r)) 1)) (ln data)) <|
   optB (impl_MarksAt_1 fu ((rd data (subI .i64 p (wrI .i64 (shrI .u64 (wrI .u64 (addI .i64 start r)) 1))) ((bs []), (0, false))).1) (((rd data (subI .i64 p (wrI .i64 (shrI .u64 (wrI .u64 (addI .i64 start r)) 1))) ((bs []), (0, false))).2).1) (((rd data (subI .i64 p (wrI .i64 (shrI .u64 (wrI .u64 (addI .i64 start r)) 1))) ((bs []), (0, false))).2).2) ((rd data (wrI .i64 (shrI .u64 (wrI .u64 (addI .i64 start r)) 1)) ((bs []), (0, false))).1) (((rd data (wrI .i64 (shrI .u64 (wrI .u64 (addI .i64 start r)) 1)) ((bs []), (0, false))).2).1) (((rd data (wrI .i64 (shrI .u64 (wrI .u64 (addI .i64 start r)) 1)) ((bs []), (0, false))).2).2)) fun r0 =>
   brB (notB (ltI r0 0))
    (slices_symMergeCmpFunc_Mark_L33 fu fu1 a m b mid n (addI .i64 (wrI .i64 (shrI .u64 (wrI .u64 (addI .i64 start r)) 1)) 1) r p data)
    (slices_symMergeCmpFunc_Mark_L33 fu fu1 a m b mid n start (wrI .i64 (shrI .u64 (wrI .u64 (addI .i64 start r)) 1)) p data))
   (brB (ltI start m)
    (brB (ltI m (subI .i64 n start))
     (optB (slices_rotateCmpFunc_Mark fu start m (subI .i64 n start) data) fun r0 =>
     slices_symMergeCmpFunc_Mark_J41 fu a b mid start (subI .i64 n start) r0.2)
     (slices_symMergeCmpFunc_Mark_J41 fu a b mid start (subI .i64 n start) data))
    (slices_symMergeCmpFunc_Mark_J41 fu a b mid start (subI .i64 n start) data))) := by kernel_rfl
theorem internal_stringslite_IndexByte.eq (s : ByteArray) (c : Int) (fu : Nat) : internal_stringslite_IndexByte (fu + 1) s c =
  (optB (internal_bytealg_IndexByteString fu s c) fun r0 =>
  some r0) := by kernel_rfl
theorem cmp_Compare_int64.eq (x : Int) (y : Int) (fu : Nat) : cmp_Compare_int64 (fu + 1) x y =
  (optB (cmp_isNaN_int64 fu x) fun r0 =>
  optB (cmp_isNaN_int64 fu y) fun r1 =>
  brB r0
   (brB r1
    (some 0)
    (some (-1)))
   (brB r1
    (some 1)
    (brB (ltI x y)
     (some (-1))
     (brB (ltI y x)
      (some 1)
      (some 0))))) := by kernel_rfl
theorem slices_symMergeCmpFunc_Mark_L9.eq (i : Int) (k : Int) (data : List T_sib) (fu fu1 : Nat) : slices_symMergeCmpFunc_Mark_L9 fu (fu1 + 1) i k data =
  (brB (ltI k (subI .i64 i 1))
   (chk (leI 0 (addI .i64 k 1)) <|
   chk (ltI (addI .i64 k 1) (ln data)) <|
   chk (leI 0 k) <|
   chk (ltI k (ln data)) <|
   chk (leI 0 k) <|
   chk (ltI k (ln data)) <|
   chk (leI 0 (addI .i64 k 1)) <|
   chk (ltI (addI .i64 k 1) (ln (setI data k ((rd data (addI .i64 k 1) ((bs []), (0, false))).1, (((rd data (addI .i64 k 1) ((bs []), (0, false))).2).1, ((rd data (addI .i64 k 1) ((bs []), (0, false))).2).2))))) <|
   slices_symMergeCmpFunc_Mark_L9 fu fu1 i (addI .i64 k 1) (setI (setI data k ((rd data (addI .i64 k 1) ((bs []), (0, false))).1, (((rd data (addI .i64 k 1) ((bs []), (0, false))).2).1, ((rd data (addI .i64 k 1) ((bs []), (0, false))).2).2))) (addI .i64 k 1) ((rd data k ((bs []), (0, false))).1, (((rd data k ((bs []), (0, false))).2).1, ((rd data k ((bs []), (0, false))).2).2))))
   (some ((), data))) := by kernel_rfl
theorem slices_symMergeCmpFunc_Mark_L21.eq (i : Int) (k : Int) (data : List T_sib) (fu fu1 : Nat) : slices_symMergeCmpFunc_Mark_L21 fu (fu1 + 1) i k data =
  (brB (ltI i k)
   (chk (leI 0 (subI .i64 k 1)) <|
   chk (ltI (subI .i64 k 1) (ln data)) <|
   chk (leI 0 k) <|
   chk (ltI k (ln data)) <|
   chk (leI 0 k) <|
   chk (ltI k (ln data)) <|
   chk (leI 0 (subI .i64 k 1)) <|
   chk (ltI (subI .i64 k 1) (ln (setI data k ((rd data (subI .i64 k 1) ((bs []), (0, false))).1, (((rd data (subI .i64 k 1) ((bs []), (0, false))).2).1, ((rd data (subI .i64 k 1) ((bs []), (0, false))).2).2))))) <|
   slices_symMergeCmpFunc_Mark_L21 fu fu1 i (subI .i64 k 1) (setI (setI data k ((rd data (subI .i64 k 1) ((bs []), (0, false))).1, (((rd data (subI .i64 k 1) ((bs []), (0, false))).2).1, ((rd data (subI .i64 k 1) ((bs []), (0, false))).2).2))) (subI .i64 k 1) ((rd data k ((bs []), (0, false))).1, (((rd data k ((bs []), (0, false))).2).1, ((rd data k ((bs []), (0, false))).2).2))))
   (some ((), data))) := by kernel_rfl
theorem slices_rotateCmpFunc_Mark.eq (a : Int) (m : Int) (b : Int) (data : List T_sib) (fu : Nat) : slices_rotateCmpFunc_Mark (fu + 1) a m b data =
  (slices_rotateCmpFunc_Mark_L2 fu fu m (subI .i64 m a) (subI .i64 b m) data) := by kernel_rfl
theorem slices_symMergeCmpFunc_Mark_J41.eq (a : Int) (b : Int) (mid : Int) (start : Int) (end' : Int) (data : List T_sib) (fu : Nat) : slices_symMergeCmpFunc_Mark_J41 fu a b mid start end' data =
  (brB (ltI a start)
   (brB (ltI start mid)
    (optB (slices_symMergeCmpFunc_Mark fu a start mid data) fun r0 =>
    slices_symMergeCmpFunc_Mark_J43 fu b mid end' r0.2)
    (slices_symMergeCmpFunc_Mark_J43 fu b mid end' data))
   (slices_symMergeCmpFunc_Mark_J43 fu b mid end' data)) := by unfold slices_symMergeCmpFunc_Mark_J41; rw [joinAt_eq]; kernel_rfl
theorem cmp_isNaN_int64.eq (x : Int) (fu : Nat) : cmp_isNaN_int64 (fu + 1) x =
  (some (notB (eqI x x))) := by kernel_rfl
theorem slices_rotateCmpFunc_Mark_L2.eq (m : Int) (i : Int) (j : Int) (data : List T_sib) (fu fu1 : Nat) : slices_rotateCmpFunc_Mark_L2 fu (fu1 + 1) m i j data =
  (brB (notB (eqI i j))
   (brB (ltI j i)
    (optB (slices_swapRangeCmpFunc_Mark fu (subI .i64 m i) m j data) fun r0 =>
    slices_rotateCmpFunc_Mark_L2 fu fu1 m (subI .i64 i j) j r0.2)
    (optB (slices_swapRangeCmpFunc_Mark fu (subI .i64 m i) (subI .i64 (addI .i64 m j) i) i data) fun r0 =>
    slices_rotateCmpFunc_Mark_L2 fu fu1 m i (subI .i64 j i) r0.2))
   (optB (slices_swapRangeCmpFunc_Mark fu (subI .i64 m i) m i data) fun r0 =>
   some ((), r0.2))) := by kernel_rfl
theorem slices_symMergeCmpFunc_Mark_J43.eq (b : Int) (mid : Int) (end' : Int) (data : List T_sib) (fu : Nat) : slices_symMergeCmpFunc_Mark_J43 fu b mid end' data =
  (brB (ltI mid end')
   (brB (ltI end' b)
    (optB (slices_symMergeCmpFunc_Mark fu mid end' b data) fun r0 =>
    some ((), r0.2))
    (some ((), data)))
   (some ((), data))) := by unfold slices_symMergeCmpFunc_Mark_J43; rw [joinAt_eq]; kernel_rfl
theorem slices_swapRangeCmpFunc_Mark.eq (a : Int) (b : Int) (n : Int) (data : List T_sib) (fu : Nat) : slices_swapRangeCmpFunc_Mark (fu + 1) a b n data =
  (slices_swapRangeCmpFunc_Mark_L1 fu fu a b n 0 data) := by kernel_rfl
theorem slices_swapRangeCmpFunc_Mark_L1.eq (a : Int) (b : Int) (n : Int) (i : Int) (data : List T_sib) (fu fu1 : Nat) : slices_swapRangeCmpFunc_Mark_L1 fu (fu1 + 1) a b n i data =
  (brB (ltI i n)
   (chk (leI 0 (addI .i64 b i)) <|
   chk (ltI (addI .i64 b i) (ln data)) <|
   chk (leI 0 (addI .i64 a i)) <|
   chk (ltI (addI .i64 a i) (ln data)) <|
   chk (leI 0 (addI .i64 a i)) <|
   chk (ltI (addI .i64 a i) (ln data)) <|
   chk (leI 0 (addI .i64 b i)) <|
   chk (ltI (addI .i64 b i) (ln (setI data (addI .i64 a i) ((rd data (addI .i64 b i) ((bs []), (0, false))).1, (((rd data (addI .i64 b i) ((bs []), (0, false))).2).1, ((rd data (addI .i64 b i) ((bs []), (0, false))).2).2))))) <|
   slices_swapRangeCmpFunc_Mark_L1 fu fu1 a b n (addI .i64 i 1) (setI (setI data (addI .i64 a i) ((rd data (addI .i64 b i) ((bs []), (0, false))).1, (((rd data (addI .i64 b i) ((bs []), (0, false))).2).1, ((rd data (addI .i64 b i) ((bs []), (0, false))).2).2))) (addI .i64 b i) ((rd data (addI .i64 a i) ((bs []), (0, false))).1, (((rd data (addI .i64 a i) ((bs []), (0, false))).2).1, ((rd data (addI .i64 a i) ((bs []), (0, false))).2).2))))
   (some ((), data))) := by kernel_rfl
end Go.Proofs.YtfbhkkedmfbgbaaDoor.PM
