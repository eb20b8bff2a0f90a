/- What the functions compute: their equations, checked by the kernel. -/
import Derived.ProofKit
import Derived.Test.YtopbiepiceajnaaDS
namespace Go.Proofs.Ytopbiepiceajnaa.S
open Go.Eng
set_option maxRecDepth 100000
set_option maxHeartbeats 4000000
theorem laws_FnExactStyleFault.eq (aS : Int) (aS_1 : Int) (aS_2 : Int) (aS_3 : List T_s) (fu : Nat) : laws_FnExactStyleFault (fu + 1) aS aS_1 aS_2 aS_3 =
  (optB (laws_szStyle fu aS aS_1 aS_2 aS_3 1048576) fun r0 =>
  brB (ltI r0 0)
   (some true)
   (optB (laws_toStyle fu aS aS_1 aS_2 aS_3) fun r1 =>
   optB (spec_StyleFault fu r1.1 r1.2.1 r1.2.2.1 r1.2.2.2) fun r2 =>
   optB (laws_toStyle fu aS aS_1 aS_2 aS_3) fun r3 =>
   optB (impl_StyleFault fu r3.1 r3.2.1 r3.2.2.1 r3.2.2.2) fun r4 =>
   brB (notB (eqI r4 r2))
    (some false)
    (optB (laws_toStyle fu aS aS_1 aS_2 aS_3) fun r5 =>
    optB (laws_eqStyle fu r3.1 r3.2.1 r3.2.2.1 r3.2.2.2 r5.1 r5.2.1 r5.2.2.1 r5.2.2.2) fun r6 =>
    brB (notB r6)
     (some false)
     (some true)))) := by kernel_rfl
theorem laws_FnExactHyphensOf.eq (aPatterns : List T_s) (aWord : ByteArray) (fu : Nat) : laws_FnExactHyphensOf (fu + 1) aPatterns aWord =
  (brB (ltI 1048576 (sz aWord))
   (some true)
   (optB (laws_szStringS fu aPatterns 1048576) fun r0 =>
   brB (ltI r0 0)
    (some true)
    (optB (laws_toStringS fu aPatterns) fun r1 =>
    optB (spec_HyphensOf fu r1 aWord) fun r2 =>
    optB (laws_toStringS fu aPatterns) fun r3 =>
    optB (impl_HyphensOf fu r3 aWord) fun r4 =>
    optB (laws_eqInt64S fu r4 r2) fun r5 =>
    brB (notB r5)
     (some false)
     (optB (laws_toStringS fu aPatterns) fun r6 =>
     optB (laws_eqStringS fu r3 r6) fun r7 =>
     brB (notB r7)
      (some false)
      (optB (laws_markStringS fu 1 r3) fun r8 =>
      brB (ltI r8.1 0)
       (some false)
       (optB (laws_eqInt64S fu r4 r2) fun r9 =>
       brB (notB r9)
        (some false)
        (laws_FnExactHyphensOf_J18 fu aPatterns aWord r2 r4))))))) := by kernel_rfl
theorem laws_szStyle.eq (a : Int) (a_1 : Int) (a_2 : Int) (a_3 : List T_s) (left : Int) (fu : Nat) : laws_szStyle (fu + 1) a a_1 a_2 a_3 left =
  (optB (laws_szStringS fu a_3 left) fun r0 =>
  brB (ltI r0 0)
   (some (-1))
   (some r0)) := by kernel_rfl
theorem laws_toStyle.eq (a : Int) (a_1 : Int) (a_2 : Int) (a_3 : List T_s) (fu : Nat) : laws_toStyle (fu + 1) a a_1 a_2 a_3 =
  (optB (laws_toStringS fu a_3) fun r0 =>
  some (a, (a_1, (a_2, r0)))) := by kernel_rfl
theorem spec_StyleFault.eq (s : Int) (s_1 : Int) (s_2 : Int) (s_3 : List T_s) (fu : Nat) : spec_StyleFault (fu + 1) s s_1 s_2 s_3 =
  (brB (ltI s 1)
   (some 1)
   (brB (ltI 200 s)
    (some 1)
    (brB (ltI s_1 0)
     (some 1)
     (brB (ltI s s_1)
      (some 1)
      (brB (ltI s_2 0)
       (some 1)
       (brB (ltI 1000000 s_2)
        (some 1)
        (optB (spec_PatternsFault fu s_3) fun r0 =>
        some r0))))))) := by kernel_rfl
theorem impl_StyleFault.eq (s : Int) (s_1 : Int) (s_2 : Int) (s_3 : List T_s) (fu : Nat) : impl_StyleFault (fu + 1) s s_1 s_2 s_3 =
  (brB (ltI s 1)
   (some 1)
   (brB (ltI 200 s)
    (some 1)
    (brB (ltI s_1 0)
     (some 1)
     (brB (ltI s s_1)
      (some 1)
      (brB (ltI s_2 0)
       (some 1)
       (brB (ltI 1000000 s_2)
        (some 1)
        (optB (impl_PatternsFault fu s_3) fun r0 =>
        some r0))))))) := by kernel_rfl
theorem laws_eqStyle.eq (a : Int) (a_1 : Int) (a_2 : Int) (a_3 : List T_s) (b : Int) (b_1 : Int) (b_2 : Int) (b_3 : List T_s) (fu : Nat) : laws_eqStyle (fu + 1) a a_1 a_2 a_3 b b_1 b_2 b_3 =
  (brB (notB (eqI a b))
   (some false)
   (brB (notB (eqI a_1 b_1))
    (some false)
    (brB (notB (eqI a_2 b_2))
     (some false)
     (optB (laws_eqStringS fu a_3 b_3) fun r0 =>
     brB (notB r0)
      (some false)
      (some true))))) := by kernel_rfl
theorem laws_szStringS.eq (a : List T_s) (left : Int) (fu : Nat) : laws_szStringS (fu + 1) a left =
  (brB (ltI (subI .i64 left (ln a)) 0)
   (some (-1))
   (laws_szStringS_L5 fu fu a (subI .i64 left (ln a)) 0)) := by kernel_rfl
theorem laws_toStringS.eq (a : List T_s) (fu : Nat) : laws_toStringS (fu + 1) a =
  (chk (leI 0 (ln a)) <|
  chk (leI (ln a) (ln a)) <|
  chk (ltI (mulZ (ln a) 16) 140737488355328) <|
  laws_toStringS_L3 fu fu a 0 (repI (ln a) (bs []))) := by kernel_rfl
theorem spec_HyphensOf.eq (patterns : List T_s) (word : ByteArray) (fu : Nat) : spec_HyphensOf (fu + 1) patterns word =
  (brB (ltI 65536 (sz word))
   (some ([] : List Int))
   (optB (spec_PatternsFault fu patterns) fun r0 =>
   brB (notB (eqI r0 0))
    (some ([] : List Int))
    (spec_HyphensOf_L4 fu fu patterns word 0))) := by kernel_rfl
theorem impl_HyphensOf.eq (patterns : List T_s) (word : ByteArray) (fu : Nat) : impl_HyphensOf (fu + 1) patterns word =
  (optB (impl_long fu word) fun r0 =>
  brB r0
   (some ([] : List Int))
   (optB (impl_PatternsFault fu patterns) fun r1 =>
   brB (notB (eqI r1 0))
    (some ([] : List Int))
    (impl_HyphensOf_L4 fu fu patterns word (sz word) 0))) := by kernel_rfl
theorem laws_eqInt64S.eq (a : List T_i) (b : List T_i) (fu : Nat) : laws_eqInt64S (fu + 1) a b =
  (brB (notB (eqI (ln a) (ln b)))
   (some false)
   (laws_eqInt64S_L4 fu fu a b 0)) := by kernel_rfl
theorem laws_eqStringS.eq (a : List T_s) (b : List T_s) (fu : Nat) : laws_eqStringS (fu + 1) a b =
  (brB (notB (eqI (ln a) (ln b)))
   (some false)
   (laws_eqStringS_L4 fu fu a b 0)) := by kernel_rfl
theorem laws_markStringS.eq (k : Int) (a : List T_s) (fu : Nat) : laws_markStringS (fu + 1) k a =
  (laws_markStringS_L2 fu fu k 0 a) := by kernel_rfl
theorem laws_FnExactHyphensOf_J18.eq (aPatterns : List T_s) (aWord : ByteArray) (w0 : List T_i) (g0 : List T_i) (fu : Nat) : laws_FnExactHyphensOf_J18 fu aPatterns aWord w0 g0 =
  (optB (laws_markInt64S fu 1 g0) fun r0 =>
  optB (laws_heldInt64S fu r0.2 1) fun r1 =>
  brB (ltI r1 0)
   (some false)
   (brB (notB (eqI r1 r0.1))
    (some false)
    (optB (laws_toStringS fu aPatterns) fun r2 =>
    optB (impl_HyphensOf fu r2 aWord) fun r3 =>
    optB (laws_eqInt64S fu r3 w0) fun r4 =>
    brB (notB r4)
     (some false)
     (optB (laws_heldInt64S fu r0.2 1) fun r5 =>
     brB (ltI r5 0)
      (some false)
      (brB (notB (eqI r5 r0.1))
       (some false)
       (some true)))))) := by unfold laws_FnExactHyphensOf_J18; rw [joinAt_eq]; kernel_rfl
theorem spec_PatternsFault.eq (patterns : List T_s) (fu : Nat) : spec_PatternsFault (fu + 1) patterns =
  (brB (ltI 1000 (ln patterns))
   (some 1)
   (spec_PatternsFault_L4 fu fu patterns 0)) := by kernel_rfl
theorem impl_PatternsFault.eq (patterns : List T_s) (fu : Nat) : impl_PatternsFault (fu + 1) patterns =
  (brB (ltI 1000 (ln patterns))
   (some 1)
   (impl_PatternsFault_L4 fu fu patterns patterns (ln patterns) 0)) := by kernel_rfl
theorem laws_szStringS_L5.eq (a : List T_s) (left : Int) (i : Int) (fu fu1 : Nat) : laws_szStringS_L5 fu (fu1 + 1) a left i =
  (brB (ltI i (ln a))
   (chk (leI 0 i) <|
   chk (ltI i (ln a)) <|
   brB (ltI (subI .i64 left (sz (rd a i (bs [])))) 0)
    (some (-1))
    (laws_szStringS_L5 fu fu1 a (subI .i64 left (sz (rd a i (bs [])))) (addI .i64 i 1)))
   (some left)) := by kernel_rfl
theorem laws_toStringS_L3.eq (a : List T_s) (i : Int) (out : List T_s) (fu fu1 : Nat) : laws_toStringS_L3 fu (fu1 + 1) a i out =
  (brB (ltI i (ln a))
   (chk (leI 0 i) <|
   chk (ltI i (ln a)) <|
   chk (leI 0 i) <|
   chk (ltI i (ln out)) <|
   laws_toStringS_L3 fu fu1 a (addI .i64 i 1) (setI out i (rd a i (bs []))))
   (some out)) := by kernel_rfl
theorem spec_HyphensOf_L4.eq (patterns : List T_s) (word : ByteArray) (i : Int) (fu fu1 : Nat) : spec_HyphensOf_L4 fu (fu1 + 1) patterns word i =
  (brB (ltI i (sz word))
   (chk (leI 0 i) <|
   chk (ltI i (sz word)) <|
   optB (spec_l22Small fu (bt word i)) fun r0 =>
   brB (notB r0)
    (some ([] : List Int))
    (spec_HyphensOf_L4 fu fu1 patterns word (addI .i64 i 1)))
   (optB (spec_l22Hyphens fu patterns word) fun r0 =>
   some r0)) := by kernel_rfl
theorem impl_long.eq (s : ByteArray) (fu : Nat) : impl_long (fu + 1) s =
  (some (ltI 65536 (sz s))) := by kernel_rfl
theorem impl_HyphensOf_L4.eq (patterns : List T_s) (word : ByteArray) (x : Int) (x_1 : Int) (fu fu1 : Nat) : impl_HyphensOf_L4 fu (fu1 + 1) patterns word x x_1 =
  (brB (ltI x_1 x)
   (chk (leI 0 x_1) <|
   chk (ltI x_1 (sz word)) <|
   optB (impl_letterAZ fu (bt word x_1)) fun r0 =>
   brB (notB r0)
    (some ([] : List Int))
    (impl_HyphensOf_L4 fu fu1 patterns word x (addI .i64 x_1 1)))
   (optB (impl_hyphens fu patterns word) fun r0 =>
   some r0)) := by kernel_rfl
theorem laws_eqInt64S_L4.eq (a : List T_i) (b : List T_i) (i : Int) (fu fu1 : Nat) : laws_eqInt64S_L4 fu (fu1 + 1) a b i =
  (brB (ltI i (ln a))
   (chk (leI 0 i) <|
   chk (ltI i (ln a)) <|
   chk (leI 0 i) <|
   chk (ltI i (ln b)) <|
   brB (notB (eqI (rd a i 0) (rd b i 0)))
    (some false)
    (laws_eqInt64S_L4 fu fu1 a b (addI .i64 i 1)))
   (some true)) := by kernel_rfl
theorem laws_eqStringS_L4.eq (a : List T_s) (b : List T_s) (i : Int) (fu fu1 : Nat) : laws_eqStringS_L4 fu (fu1 + 1) a b i =
  (brB (ltI i (ln a))
   (chk (leI 0 i) <|
   chk (ltI i (ln a)) <|
   chk (leI 0 i) <|
   chk (ltI i (ln b)) <|
   brB (notB (bytesEq (rd a i (bs [])) (rd b i (bs []))))
    (some false)
    (laws_eqStringS_L4 fu fu1 a b (addI .i64 i 1)))
   (some true)) := by kernel_rfl
theorem laws_markStringS_L2.eq (k : Int) (i : Int) (a : List T_s) (fu fu1 : Nat) : laws_markStringS_L2 fu (fu1 + 1) k i a =
  (brB (ltI i (ln a))
   (optB (laws_markText fu k) fun r0 =>
   chk (leI 0 i) <|
   chk (ltI i (ln a)) <|
   laws_markStringS_L2 fu fu1 (addI .i64 k 1) (addI .i64 i 1) (setI a i r0))
   (some (k, a))) := by kernel_rfl
theorem laws_markInt64S.eq (k : Int) (a : List T_i) (fu : Nat) : laws_markInt64S (fu + 1) k a =
  (laws_markInt64S_L2 fu fu k 0 a) := by kernel_rfl
theorem laws_heldInt64S.eq (a : List T_i) (k : Int) (fu : Nat) : laws_heldInt64S (fu + 1) a k =
  (laws_heldInt64S_L2 fu fu a k 0) := by kernel_rfl
theorem spec_PatternsFault_L4.eq (patterns : List T_s) (i : Int) (fu fu1 : Nat) : spec_PatternsFault_L4 fu (fu1 + 1) patterns i =
  (brB (ltI i (ln patterns))
   (chk (leI 0 i) <|
   chk (ltI i (ln patterns)) <|
   optB (spec_l22Pattern fu (rd patterns i (bs []))) fun r0 =>
   brB (notB r0.2.2)
    (some 1)
    (brB (ltI 0 i)
     (chk (leI 0 (subI .i64 i 1)) <|
     chk (ltI (subI .i64 i 1) (ln patterns)) <|
     chk (leI 0 i) <|
     chk (ltI i (ln patterns)) <|
     brB (notB (strLess (rd patterns (subI .i64 i 1) (bs [])) (rd patterns i (bs []))))
      (some 1)
      (spec_PatternsFault_L4 fu fu1 patterns (addI .i64 i 1)))
     (spec_PatternsFault_L4 fu fu1 patterns (addI .i64 i 1))))
   (some 0)) := by kernel_rfl
theorem impl_PatternsFault_L4.eq (patterns : List T_s) (x : List T_s) (x_1 : Int) (x_2 : Int) (fu fu1 : Nat) : impl_PatternsFault_L4 fu (fu1 + 1) patterns x x_1 x_2 =
  (brB (ltI x_2 x_1)
   (chk (leI 0 x_2) <|
   chk (ltI x_2 (ln x)) <|
   optB (impl_readHyphens fu (rd x x_2 (bs []))) fun r0 =>
   brB (notB r0.2)
    (some 1)
    (brB (ltI 0 x_2)
     (chk (leI 0 (subI .i64 x_2 1)) <|
     chk (ltI (subI .i64 x_2 1) (ln patterns)) <|
     brB (notB (strLess (rd patterns (subI .i64 x_2 1) (bs [])) (rd x x_2 (bs []))))
      (some 1)
      (impl_PatternsFault_L4 fu fu1 patterns x x_1 (addI .i64 x_2 1)))
     (impl_PatternsFault_L4 fu fu1 patterns x x_1 (addI .i64 x_2 1))))
   (some 0)) := by kernel_rfl
theorem spec_l22Small.eq (c : Int) (fu : Nat) : spec_l22Small (fu + 1) c =
  (brB (leI 97 c)
   (some (leI c 122))
   (some false)) := by kernel_rfl
theorem spec_l22Hyphens.eq (patterns : List T_s) (word : ByteArray) (fu : Nat) : spec_l22Hyphens (fu + 1) patterns word =
  (chk (leI (addZ (sz (bs [46])) (sz word)) 9223372036854775807) <|
  chk (leI (addZ (sz (catS (bs [46]) word)) (sz (bs [46]))) 9223372036854775807) <|
  chk (leI 0 (addI .i64 (sz (catS (catS (bs [46]) word) (bs [46]))) 1)) <|
  chk (leI (addI .i64 (sz (catS (catS (bs [46]) word) (bs [46]))) 1) (addI .i64 (sz (catS (catS (bs [46]) word) (bs [46]))) 1)) <|
  chk (ltI (mulZ (addI .i64 (sz (catS (catS (bs [46]) word) (bs [46]))) 1) 8) 140737488355328) <|
  spec_l22Hyphens_L4 fu fu patterns word (catS (catS (bs [46]) word) (bs [46])) 0 (repI (addI .i64 (sz (catS (catS (bs [46]) word) (bs [46]))) 1) 0)) := by kernel_rfl
theorem impl_letterAZ.eq (c : Int) (fu : Nat) : impl_letterAZ (fu + 1) c =
  (brB (leI 97 c)
   (some (leI c 122))
   (some false)) := by kernel_rfl
theorem impl_hyphens.eq (patterns : List T_s) (word : ByteArray) (fu : Nat) : impl_hyphens (fu + 1) patterns word =
  (chk (leI (addZ (sz (bs [46])) (sz word)) 9223372036854775807) <|
  chk (leI (addZ (sz (catS (bs [46]) word)) (sz (bs [46]))) 9223372036854775807) <|
  chk (leI 0 (addI .i64 (sz (catS (catS (bs [46]) word) (bs [46]))) 1)) <|
  chk (leI (addI .i64 (sz (catS (catS (bs [46]) word) (bs [46]))) 1) (addI .i64 (sz (catS (catS (bs [46]) word) (bs [46]))) 1)) <|
  chk (ltI (mulZ (addI .i64 (sz (catS (catS (bs [46]) word) (bs [46]))) 1) 8) 140737488355328) <|
  impl_hyphens_L4 fu fu word (catS (catS (bs [46]) word) (bs [46])) patterns (ln patterns) 0 (repI (addI .i64 (sz (catS (catS (bs [46]) word) (bs [46]))) 1) 0)) := by kernel_rfl
theorem laws_markText.eq (k : Int) (fu : Nat) : laws_markText (fu + 1) k =
  (brB (leI k 0)
   (some (bs [109, 48]))
   (laws_markText_L4 fu fu k (bs []))) := by kernel_rfl
theorem laws_markInt64S_L2.eq (k : Int) (i : Int) (a : List T_i) (fu fu1 : Nat) : laws_markInt64S_L2 fu (fu1 + 1) k i a =
  (brB (ltI i (ln a))
   (chk (leI 0 i) <|
   chk (ltI i (ln a)) <|
   laws_markInt64S_L2 fu fu1 (addI .i64 k 1) (addI .i64 i 1) (setI a i k))
   (some (k, a))) := by kernel_rfl
theorem laws_heldInt64S_L2.eq (a : List T_i) (k : Int) (i : Int) (fu fu1 : Nat) : laws_heldInt64S_L2 fu (fu1 + 1) a k i =
  (brB (ltI i (ln a))
   (chk (leI 0 i) <|
   chk (ltI i (ln a)) <|
   brB (notB (eqI (rd a i 0) k))
    (some (-1))
    (laws_heldInt64S_L2 fu fu1 a (addI .i64 k 1) (addI .i64 i 1)))
   (some k)) := by kernel_rfl
theorem spec_l22Pattern.eq (t : ByteArray) (fu : Nat) : spec_l22Pattern (fu + 1) t =
  (spec_l22Pattern_L5 fu fu t false 0 ([] : List Int) (0 :: ([] : List Int))) := by kernel_rfl
theorem impl_readHyphens.eq (s : ByteArray) (fu : Nat) : impl_readHyphens (fu + 1) s =
  (impl_readHyphens_L4 fu fu s false (sz s) 0 (bs []) (bs []) (0 :: ([] : List Int))) := by kernel_rfl
theorem spec_l22Hyphens_L4.eq (patterns : List T_s) (word : ByteArray) (t : ByteArray) (i : Int) (best : List T_i) (fu fu1 : Nat) : spec_l22Hyphens_L4 fu (fu1 + 1) patterns word t i best =
  (brB (ltI i (ln patterns))
   (chk (leI 0 i) <|
   chk (ltI i (ln patterns)) <|
   optB (spec_l22Pattern fu (rd patterns i (bs []))) fun r0 =>
   spec_l22Hyphens_L8 fu fu1 fu patterns word t i r0.1 0 best r0.2.1)
   (spec_l22Hyphens_L18 fu fu word 2 best ([] : List Int))) := by kernel_rfl
theorem impl_hyphens_L4.eq (word : ByteArray) (s : ByteArray) (x : List T_s) (x_1 : Int) (x_2 : Int) (best : List T_i) (fu fu1 : Nat) : impl_hyphens_L4 fu (fu1 + 1) word s x x_1 x_2 best =
  (brB (ltI x_2 x_1)
   (chk (leI 0 x_2) <|
   chk (ltI x_2 (ln x)) <|
   optB (impl_readHyphens fu (rd x x_2 (bs []))) fun r0 =>
   impl_hyphens_L8 fu fu1 fu word s 0 x x_1 x_2 best r0.1.1 r0.1.2)
   (impl_hyphens_L19 fu fu word 2 best)) := by kernel_rfl
theorem laws_markText_L4.eq (k : Int) (out : ByteArray) (fu fu1 : Nat) : laws_markText_L4 fu (fu1 + 1) k out =
  (brB (ltI 0 k)
   (chk (notB (eqI 10 0)) <|
   chk (leI (addZ (sz (bytesOf ((wrI .u8 (addI .i64 48 (remI k 10))) :: ([] : List Int)))) (sz out)) 9223372036854775807) <|
   chk (notB (eqI 10 0)) <|
   laws_markText_L4 fu fu1 (quoI .i64 k 10) (catS (bytesOf ((wrI .u8 (addI .i64 48 (remI k 10))) :: ([] : List Int))) out))
   (chk (leI (addZ (sz (bs [109])) (sz out)) 9223372036854775807) <|
   some (catS (bs [109]) out))) := by kernel_rfl
theorem spec_l22Pattern_L5.eq (t : ByteArray) (has : Bool) (i : Int) (letters : List T_y) (digits : List T_i) (fu fu1 : Nat) : spec_l22Pattern_L5 fu (fu1 + 1) t has i letters digits =
  (brB (ltI i (sz t))
   (chk (leI 0 i) <|
   chk (ltI i (sz t)) <|
   brB (leI 49 (bt t i))
    (brB (leI (bt t i) 57)
     (chk (leI 0 (subI .i64 (ln digits) 1)) <|
     chk (ltI (subI .i64 (ln digits) 1) (ln digits)) <|
     spec_l22Pattern_J11 fu fu1 t has i (bt t i) (subI .i64 (ln digits) 1) (eqI (rd digits (subI .i64 (ln digits) 1) 0) 0) letters digits)
     (spec_l22Pattern_J11 fu fu1 t has i (bt t i) (subI .i64 (ln digits) 1) false letters digits))
    (spec_l22Pattern_J11 fu fu1 t has i (bt t i) (subI .i64 (ln digits) 1) false letters digits))
   (spec_l22Pattern_L17 fu fu has 1 letters digits)) := by kernel_rfl
theorem impl_readHyphens_L4.eq (s : ByteArray) (some' : Bool) (x : Int) (x_1 : Int) (x_2 : ByteArray) (p : ByteArray) (x_3 : List T_i) (fu fu1 : Nat) : impl_readHyphens_L4 fu (fu1 + 1) s some' x x_1 x_2 p x_3 =
  (brB (ltI x_1 x)
   (chk (leI 0 x_1) <|
   chk (ltI x_1 (sz s)) <|
   brB (leI 49 (bt s x_1))
    (impl_readHyphens_J9 fu fu1 s some' (bt s x_1) x x_1 (leI (bt s x_1) 57) x_2 p x_3)
    (impl_readHyphens_J9 fu fu1 s some' (bt s x_1) x x_1 false x_2 p x_3))
   (brB (ltI (sz p) 1)
    (some ((p, x_3), false))
    (brB (ltI 20 (sz p))
     (some ((p, x_3), false))
     (brB (notB some')
      (some ((p, x_3), false))
      (brB (ltI 2 (sz p))
       (chk (leI 0 1) <|
       chk (leI 1 (subI .i64 (sz p) 1)) <|
       chk (leI (subI .i64 (sz p) 1) (sz p)) <|
       optB (strings_Contains fu (subs p 1 (subI .i64 (sz p) 1)) (bs [46])) fun r0 =>
       brB r0
        (some ((p, x_3), false))
        (some ((p, x_3), true)))
       (some ((p, x_3), true))))))) := by kernel_rfl
theorem spec_l22Hyphens_L8.eq (patterns : List T_s) (word : ByteArray) (t : ByteArray) (i : Int) (letters : ByteArray) (at' : Int) (best : List T_i) (digits : List T_i) (fu fu1 fu2 : Nat) : spec_l22Hyphens_L8 fu fu1 (fu2 + 1) patterns word t i letters at' best digits =
  (brB (leI (addI .i64 at' (sz letters)) (sz t))
   (chk (leI 0 at') <|
   chk (leI at' (addI .i64 at' (sz letters))) <|
   chk (leI (addI .i64 at' (sz letters)) (sz t)) <|
   brB (notB (bytesEq (subs t at' (addI .i64 at' (sz letters))) letters))
    (spec_l22Hyphens_L8 fu fu1 fu2 patterns word t i letters (addI .i64 at' 1) best digits)
    (spec_l22Hyphens_L12 fu fu1 fu2 fu patterns word t i letters at' 0 best digits))
   (spec_l22Hyphens_L4 fu fu1 patterns word t (addI .i64 i 1) best)) := by kernel_rfl
theorem spec_l22Hyphens_L18.eq (word : ByteArray) (k : Int) (best : List T_i) (out : List T_i) (fu fu1 : Nat) : spec_l22Hyphens_L18 fu (fu1 + 1) word k best out =
  (brB (leI (addI .i64 k 3) (sz word))
   (chk (leI 0 (addI .i64 k 1)) <|
   chk (ltI (addI .i64 k 1) (ln best)) <|
   chk (notB (eqI 2 0)) <|
   brB (eqI (remI (rd best (addI .i64 k 1) 0) 2) 1)
    (chk (ltI (mulZ (addZ (ln out) (ln (k :: ([] : List Int)))) 8) 140737488355328) <|
    spec_l22Hyphens_L18 fu fu1 word (addI .i64 k 1) best (catL out (k :: ([] : List Int))))
    (spec_l22Hyphens_L18 fu fu1 word (addI .i64 k 1) best out))
   (some out)) := by kernel_rfl
theorem impl_hyphens_L8.eq (word : ByteArray) (s : ByteArray) (i : Int) (x : List T_s) (x_1 : Int) (x_2 : Int) (best : List T_i) (p : ByteArray) (x_3 : List T_i) (fu fu1 fu2 : Nat) : impl_hyphens_L8 fu fu1 (fu2 + 1) word s i x x_1 x_2 best p x_3 =
  (brB (leI (addI .i64 i (sz p)) (sz s))
   (chk (leI 0 i) <|
   chk (leI i (addI .i64 i (sz p))) <|
   chk (leI (addI .i64 i (sz p)) (sz s)) <|
   brB (notB (bytesEq (subs s i (addI .i64 i (sz p))) p))
    (impl_hyphens_L8 fu fu1 fu2 word s (addI .i64 i 1) x x_1 x_2 best p x_3)
    (impl_hyphens_L12 fu fu1 fu2 fu word s i x x_1 x_2 (ln x_3) 0 best p x_3))
   (impl_hyphens_L4 fu fu1 word s x x_1 (addI .i64 x_2 1) best)) := by kernel_rfl
theorem impl_hyphens_L19.eq (word : ByteArray) (i : Int) (best : List T_i) (fu fu1 : Nat) : impl_hyphens_L19 fu (fu1 + 1) word i best =
  (brB (leI (addI .i64 i 3) (sz word))
   (chk (leI 0 (addI .i64 i 1)) <|
   chk (ltI (addI .i64 i 1) (ln best)) <|
   chk (notB (eqI 2 0)) <|
   brB (eqI (remI (rd best (addI .i64 i 1) 0) 2) 1)
    (chk (ltI (mulZ (addZ (ln ([] : List Int)) (ln (i :: ([] : List Int)))) 8) 140737488355328) <|
    impl_hyphens_L19'1 fu fu1 word (addI .i64 i 1) best (catL ([] : List Int) (i :: ([] : List Int))))
    (impl_hyphens_L19 fu fu1 word (addI .i64 i 1) best))
   (some ([] : List Int))) := by kernel_rfl
theorem spec_l22Pattern_J11.eq (t : ByteArray) (has : Bool) (i : Int) (c : Int) (last : Int) (x : Bool) (letters : List T_y) (digits : List T_i) (fu fu1 : Nat) : spec_l22Pattern_J11 fu fu1 t has i c last x letters digits =
  (brB x
   (chk (leI 0 last) <|
   chk (ltI last (ln digits)) <|
   spec_l22Pattern_L5 fu fu1 t true (addI .i64 i 1) letters (setI digits last (wrI .i64 (subI .u8 c 48))))
   (brB (leI 97 c)
    (brB (leI c 122)
     (chk (ltI (mulZ (addZ (ln letters) (ln (c :: ([] : List Int)))) 1) 140737488355328) <|
     chk (ltI (mulZ (addZ (ln digits) (ln (0 :: ([] : List Int)))) 8) 140737488355328) <|
     spec_l22Pattern_L5 fu fu1 t has (addI .i64 i 1) (catL letters (c :: ([] : List Int))) (catL digits (0 :: ([] : List Int))))
     (brB (eqI c 46)
      (chk (ltI (mulZ (addZ (ln letters) (ln (c :: ([] : List Int)))) 1) 140737488355328) <|
      chk (ltI (mulZ (addZ (ln digits) (ln (0 :: ([] : List Int)))) 8) 140737488355328) <|
      spec_l22Pattern_L5 fu fu1 t has (addI .i64 i 1) (catL letters (c :: ([] : List Int))) (catL digits (0 :: ([] : List Int))))
      (some ((bs []), (([] : List Int), false)))))
    (brB (eqI c 46)
     (chk (ltI (mulZ (addZ (ln letters) (ln (c :: ([] : List Int)))) 1) 140737488355328) <|
     chk (ltI (mulZ (addZ (ln digits) (ln (0 :: ([] : List Int)))) 8) 140737488355328) <|
     spec_l22Pattern_L5 fu fu1 t has (addI .i64 i 1) (catL letters (c :: ([] : List Int))) (catL digits (0 :: ([] : List Int))))
     (some ((bs []), (([] : List Int), false)))))) := by unfold spec_l22Pattern_J11; rw [joinAt_eq]; kernel_rfl
theorem spec_l22Pattern_L17.eq (has : Bool) (i : Int) (letters : List T_y) (digits : List T_i) (fu fu1 : Nat) : spec_l22Pattern_L17 fu (fu1 + 1) has i letters digits =
  (brB (ltI (addI .i64 i 1) (ln letters))
   (chk (leI 0 i) <|
   chk (ltI i (ln letters)) <|
   brB (eqI (rd letters i 0) 46)
    (some ((bs []), (([] : List Int), false)))
    (spec_l22Pattern_L17 fu fu1 has (addI .i64 i 1) letters digits))
   (brB has
    (brB (leI 1 (ln letters))
     (some ((bytesOf letters), (digits, (leI (ln letters) 20))))
     (some ((bytesOf letters), (digits, false))))
    (some ((bytesOf letters), (digits, false))))) := by kernel_rfl
theorem impl_readHyphens_J9.eq (s : ByteArray) (some' : Bool) (c : Int) (x : Int) (x_1 : Int) (x_2 : Bool) (x_3 : ByteArray) (p : ByteArray) (x_4 : List T_i) (fu fu1 : Nat) : impl_readHyphens_J9 fu fu1 s some' c x x_1 x_2 x_3 p x_4 =
  (brB x_2
   (chk (leI 0 (subI .i64 (ln x_4) 1)) <|
   chk (ltI (subI .i64 (ln x_4) 1) (ln x_4)) <|
   brB (notB (eqI (rd x_4 (subI .i64 (ln x_4) 1) 0) 0))
    (some ((p, x_4), false))
    (chk (leI 0 (subI .i64 (ln x_4) 1)) <|
    chk (ltI (subI .i64 (ln x_4) 1) (ln x_4)) <|
    impl_readHyphens_L4 fu fu1 s true x (addI .i64 x_1 1) x_3 p (setI x_4 (subI .i64 (ln x_4) 1) (wrI .i64 (subI .u8 c 48)))))
   (optB (impl_letterAZ fu c) fun r0 =>
   brB r0
    (chk (leI (addZ (sz p) (sz (Go.Utf8.encode c))) 9223372036854775807) <|
    chk (ltI (mulZ (addZ (ln x_4) (ln (0 :: ([] : List Int)))) 8) 140737488355328) <|
    impl_readHyphens_L4 fu fu1 s some' x (addI .i64 x_1 1) x_3 (catS p (Go.Utf8.encode c)) (catL x_4 (0 :: ([] : List Int))))
    (brB (eqI c 46)
     (chk (leI (addZ (sz p) (sz (Go.Utf8.encode c))) 9223372036854775807) <|
     chk (ltI (mulZ (addZ (ln x_4) (ln (0 :: ([] : List Int)))) 8) 140737488355328) <|
     impl_readHyphens_L4 fu fu1 s some' x (addI .i64 x_1 1) x_3 (catS p (Go.Utf8.encode c)) (catL x_4 (0 :: ([] : List Int))))
     (some ((p, x_4), false))))) := by unfold impl_readHyphens_J9; rw [joinAt_eq]; kernel_rfl
theorem strings_Contains.eq (s : ByteArray) (substr : ByteArray) (fu : Nat) : strings_Contains (fu + 1) s substr =
  (optB (strings_Index fu s substr) fun r0 =>
  some (leI 0 r0)) := by kernel_rfl
theorem spec_l22Hyphens_L12.eq (patterns : List T_s) (word : ByteArray) (t : ByteArray) (i : Int) (letters : ByteArray) (at' : Int) (k : Int) (best : List T_i) (digits : List T_i) (fu fu1 fu2 fu3 : Nat) : spec_l22Hyphens_L12 fu fu1 fu2 (fu3 + 1) patterns word t i letters at' k best digits =
  (brB (ltI k (ln digits))
   (chk (leI 0 k) <|
   chk (ltI k (ln digits)) <|
   chk (leI 0 (addI .i64 at' k)) <|
   chk (ltI (addI .i64 at' k) (ln best)) <|
   brB (ltI (rd best (addI .i64 at' k) 0) (rd digits k 0))
    (chk (leI 0 k) <|
    chk (ltI k (ln digits)) <|
    chk (leI 0 (addI .i64 at' k)) <|
    chk (ltI (addI .i64 at' k) (ln best)) <|
    spec_l22Hyphens_L12 fu fu1 fu2 fu3 patterns word t i letters at' (addI .i64 k 1) (setI best (addI .i64 at' k) (rd digits k 0)) digits)
    (spec_l22Hyphens_L12 fu fu1 fu2 fu3 patterns word t i letters at' (addI .i64 k 1) best digits))
   (spec_l22Hyphens_L8 fu fu1 fu2 patterns word t i letters (addI .i64 at' 1) best digits)) := by kernel_rfl
theorem impl_hyphens_L12.eq (word : ByteArray) (s : ByteArray) (i : Int) (x : List T_s) (x_1 : Int) (x_2 : Int) (x_3 : Int) (x_4 : Int) (best : List T_i) (p : ByteArray) (x_5 : List T_i) (fu fu1 fu2 fu3 : Nat) : impl_hyphens_L12 fu fu1 fu2 (fu3 + 1) word s i x x_1 x_2 x_3 x_4 best p x_5 =
  (brB (ltI x_4 x_3)
   (chk (leI 0 x_4) <|
   chk (ltI x_4 (ln x_5)) <|
   chk (leI 0 (addI .i64 i x_4)) <|
   chk (ltI (addI .i64 i x_4) (ln best)) <|
   chk (leI 0 (addI .i64 i x_4)) <|
   chk (ltI (addI .i64 i x_4) (ln best)) <|
   impl_hyphens_L12 fu fu1 fu2 fu3 word s i x x_1 x_2 x_3 (addI .i64 x_4 1) (setI best (addI .i64 i x_4) (maxI (rd best (addI .i64 i x_4) 0) (rd x_5 x_4 0))) p x_5)
   (impl_hyphens_L8 fu fu1 fu2 word s (addI .i64 i 1) x x_1 x_2 best p x_5)) := by kernel_rfl
theorem impl_hyphens_L19'1.eq (word : ByteArray) (i : Int) (best : List T_i) (out : List T_i) (fu fu1 : Nat) : impl_hyphens_L19'1 fu (fu1 + 1) word i best out =
  (brB (leI (addI .i64 i 3) (sz word))
   (chk (leI 0 (addI .i64 i 1)) <|
   chk (ltI (addI .i64 i 1) (ln best)) <|
   chk (notB (eqI 2 0)) <|
   brB (eqI (remI (rd best (addI .i64 i 1) 0) 2) 1)
    (chk (ltI (mulZ (addZ (ln out) (ln (i :: ([] : List Int)))) 8) 140737488355328) <|
    impl_hyphens_L19'1 fu fu1 word (addI .i64 i 1) best (catL out (i :: ([] : List Int))))
    (impl_hyphens_L19'1 fu fu1 word (addI .i64 i 1) best out))
   (some out)) := by kernel_rfl
theorem strings_Index.eq (s : ByteArray) (substr : ByteArray) (fu : Nat) : strings_Index (fu + 1) s substr =
  (optB (internal_stringslite_Index fu s substr) fun r0 =>
  some r0) := by kernel_rfl
theorem internal_stringslite_Index.eq (s : ByteArray) (substr : ByteArray) (fu : Nat) : internal_stringslite_Index (fu + 1) s substr =
  (brB (eqI (sz substr) 0)
   (some 0)
   (brB (bytesEq substr s)
    (some 0)
    (brB (eqI (sz substr) 1)
     (chk (leI 0 0) <|
     chk (ltI 0 (sz substr)) <|
     optB (internal_stringslite_IndexByte fu s (bt substr 0)) fun r0 =>
     some r0)
     (chk (leI (sz s) (sz substr)) <|
     some (-1))))) := by kernel_rfl
theorem internal_stringslite_IndexByte.eq (s : ByteArray) (c : Int) (fu : Nat) : internal_stringslite_IndexByte (fu + 1) s c =
  (optB (internal_bytealg_IndexByteString fu s c) fun r0 =>
  some r0) := by kernel_rfl
end Go.Proofs.Ytopbiepiceajnaa.S
