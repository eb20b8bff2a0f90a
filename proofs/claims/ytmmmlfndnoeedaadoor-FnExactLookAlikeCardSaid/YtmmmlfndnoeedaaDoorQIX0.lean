/- What the functions compute: their equations, checked by the kernel. -/
import Derived.ProofKit
import Derived.Test.YtmmmlfndnoeedaaDoorDIX
namespace Go.Proofs.YtmmmlfndnoeedaaDoor.IX
open Go.Eng
set_option maxRecDepth 100000
set_option maxHeartbeats 4000000
theorem laws_FnExactLookAlike.eq (aA : ByteArray) (aB : ByteArray) (fu : Nat) : laws_FnExactLookAlike (fu + 1) aA aB =
  (brB (ltI 1048576 (sz aA))
   (some true)
   (brB (ltI 1048576 (sz aB))
    (some true)
    (optB (spec_LookAlike fu aA aB) fun r0 =>
    optB (impl_LookAlike fu aA aB) fun r1 =>
    brB (notB (eqB r1 r0))
     (some false)
     (some true)))) := by kernel_rfl
theorem laws_FnExactSkeletonOf.eq (aText : ByteArray) (fu : Nat) : laws_FnExactSkeletonOf (fu + 1) aText =
  (brB (ltI 1048576 (sz aText))
   (some true)
   (optB (spec_SkeletonOf fu aText) fun r0 =>
   optB (impl_SkeletonOf fu aText) fun r1 =>
   brB (notB (bytesEq r1 r0))
    (some false)
    (some true))) := by kernel_rfl
theorem spec_LookAlike.eq (a : ByteArray) (b : ByteArray) (fu : Nat) : spec_LookAlike (fu + 1) a b =
  (brB (leI (sz a) 65536)
   (brB (leI (sz b) 65536)
    (optB (spec_l19Skeleton fu a) fun r0 =>
    optB (spec_l19Skeleton fu b) fun r1 =>
    optB (spec_l04Same fu r0 r1) fun r2 =>
    some r2)
    (some false))
   (some false)) := by kernel_rfl
theorem impl_LookAlike.eq (a : ByteArray) (b : ByteArray) (fu : Nat) : impl_LookAlike (fu + 1) a b =
  (optB (impl_long fu a) fun r0 =>
  brB (notB r0)
   (optB (impl_long fu b) fun r1 =>
   brB (notB r1)
    (optB (impl_skeleton fu a) fun r2 =>
    optB (impl_skeleton fu b) fun r3 =>
    some (bytesEq r2 r3))
    (some false))
   (some false)) := by kernel_rfl
theorem spec_SkeletonOf.eq (text : ByteArray) (fu : Nat) : spec_SkeletonOf (fu + 1) text =
  (brB (ltI 65536 (sz text))
   (some (bs []))
   (optB (spec_l19Skeleton fu text) fun r0 =>
   optB (spec_l01Text fu r0) fun r1 =>
   optB (spec_l01Small fu r1) fun r2 =>
   some r2)) := by kernel_rfl
theorem impl_SkeletonOf.eq (text : ByteArray) (fu : Nat) : impl_SkeletonOf (fu + 1) text =
  (optB (impl_long fu text) fun r0 =>
  brB r0
   (some (bs []))
   (optB (impl_skeleton fu text) fun r1 =>
   optB (impl_short fu r1) fun r2 =>
   some r2)) := by kernel_rfl
theorem spec_l19Skeleton.eq (t : ByteArray) (fu : Nat) : spec_l19Skeleton (fu + 1) t =
  (optB (spec_l01Points fu t) fun r0 =>
  optB (spec_l05Norm fu 1 r0) fun r1 =>
  spec_l19Skeleton_L4 fu fu 0 r1 ([] : List Int)) := by kernel_rfl
theorem spec_l04Same.eq (a : List T_i) (b : List T_i) (fu : Nat) : spec_l04Same (fu + 1) a b =
  (brB (notB (eqI (ln a) (ln b)))
   (some false)
   (spec_l04Same_L4 fu fu a b 0)) := by kernel_rfl
theorem impl_long.eq (s : ByteArray) (fu : Nat) : impl_long (fu + 1) s =
  (some (ltI 65536 (sz s))) := by kernel_rfl
theorem impl_skeleton.eq (text : ByteArray) (fu : Nat) : impl_skeleton (fu + 1) text =
  (optB (impl_points fu text) fun r0 =>
  optB (impl_normal fu 1 r0) fun r1 =>
  impl_skeleton_L3 fu fu (ln r1) 0 ([] : List Int) r1) := by kernel_rfl
theorem spec_l01Text.eq (points : List T_i) (fu : Nat) : spec_l01Text (fu + 1) points =
  (spec_l01Text_L3 fu fu points 0 ([] : List Int)) := by kernel_rfl
theorem spec_l01Small.eq (t : ByteArray) (fu : Nat) : spec_l01Small (fu + 1) t =
  (brB (ltI 65536 (sz t))
   (some (bs []))
   (some t)) := by kernel_rfl
theorem impl_short.eq (s : ByteArray) (fu : Nat) : impl_short (fu + 1) s =
  (optB (impl_long fu s) fun r0 =>
  brB r0
   (some (bs []))
   (some s)) := by kernel_rfl
theorem spec_l01Points.eq (t : ByteArray) (fu : Nat) : spec_l01Points (fu + 1) t =
  (spec_l01Points_L3 fu fu t 0 ([] : List Int)) := by kernel_rfl
theorem spec_l05Norm.eq (form : Int) (points : List T_i) (fu : Nat) : spec_l05Norm (fu + 1) form points =
  (spec_l05Norm_L3 fu fu form points 0 ([] : List Int)) := by kernel_rfl
theorem spec_l19Skeleton_L4.eq (i : Int) (l : List T_i) (out : List T_i) (fu fu1 : Nat) : spec_l19Skeleton_L4 fu (fu1 + 1) i l out =
  (brB (ltI i (ln l))
   (chk (leI 0 i) <|
   chk (ltI i (ln l)) <|
   optB (spec_l19Seen fu (rd l i 0)) fun r0 =>
   chk (ltI (mulZ (addZ (ln out) (ln r0)) 8) 140737488355328) <|
   spec_l19Skeleton_L4 fu fu1 (addI .i64 i 1) l (catL out r0))
   (optB (spec_l05Norm fu 1 out) fun r0 =>
   some r0)) := by kernel_rfl
theorem spec_l04Same_L4.eq (a : List T_i) (b : List T_i) (i : Int) (fu fu1 : Nat) : spec_l04Same_L4 fu (fu1 + 1) a b i =
  (brB (ltI i (ln a))
   (chk (leI 0 i) <|
   chk (ltI i (ln a)) <|
   chk (leI 0 i) <|
   chk (ltI i (ln b)) <|
   brB (notB (eqI (rd a i 0) (rd b i 0)))
    (some false)
    (spec_l04Same_L4 fu fu1 a b (addI .i64 i 1)))
   (some true)) := by kernel_rfl
theorem impl_points.eq (s : ByteArray) (fu : Nat) : impl_points (fu + 1) s =
  (optB (impl_read fu s) fun r0 =>
  impl_points_L3 fu fu (ln r0) 0 ([] : List Int) r0) := by kernel_rfl
theorem impl_normal.eq (form : Int) (l : List T_i) (fu : Nat) : impl_normal (fu + 1) form l =
  (impl_normal_L3 fu fu form l (ln l) 0 ([] : List Int)) := by kernel_rfl
theorem impl_skeleton_L3.eq (x : Int) (x_1 : Int) (l : List T_i) (x_2 : List T_i) (fu fu1 : Nat) : impl_skeleton_L3 fu (fu1 + 1) x x_1 l x_2 =
  (brB (ltI x_1 x)
   (chk (leI 0 x_1) <|
   chk (ltI x_1 (ln x_2)) <|
   optB (impl_looks fu (rd x_2 x_1 0)) fun r0 =>
   chk (ltI (mulZ (addZ (ln l) (ln r0)) 8) 140737488355328) <|
   impl_skeleton_L3 fu fu1 x (addI .i64 x_1 1) (catL l r0) x_2)
   (optB (impl_normal fu 1 l) fun r0 =>
   optB (impl_write fu r0) fun r1 =>
   some r1)) := by kernel_rfl
theorem spec_l01Text_L3.eq (points : List T_i) (i : Int) (out : List T_y) (fu fu1 : Nat) : spec_l01Text_L3 fu (fu1 + 1) points i out =
  (brB (ltI i (ln points))
   (chk (leI 0 i) <|
   chk (ltI i (ln points)) <|
   optB (spec_l01Write fu (rd points i 0)) fun r0 =>
   chk (ltI (mulZ (addZ (ln out) (ln (numsOf r0))) 1) 140737488355328) <|
   spec_l01Text_L3 fu fu1 points (addI .i64 i 1) (catL out (numsOf r0)))
   (some (bytesOf out))) := by kernel_rfl
theorem spec_l01Points_L3.eq (t : ByteArray) (i : Int) (out : List T_i) (fu fu1 : Nat) : spec_l01Points_L3 fu (fu1 + 1) t i out =
  (brB (ltI i (sz t))
   (optB (spec_l01Next fu t i) fun r0 =>
   chk (ltI (mulZ (addZ (ln out) (ln (r0.1 :: ([] : List Int)))) 8) 140737488355328) <|
   spec_l01Points_L3 fu fu1 t (addI .i64 i r0.2.1) (catL out (r0.1 :: ([] : List Int))))
   (some out)) := by kernel_rfl
theorem spec_l05Norm_L3.eq (form : Int) (points : List T_i) (i : Int) (out : List T_i) (fu fu1 : Nat) : spec_l05Norm_L3 fu (fu1 + 1) form points i out =
  (brB (ltI i (ln points))
   (chk (leI 0 i) <|
   chk (ltI i (ln points)) <|
   optB (spec_l05K fu form) fun r0 =>
   optB (spec_l05All fu (rd points i 0) r0) fun r1 =>
   chk (ltI (mulZ (addZ (ln out) (ln r1)) 8) 140737488355328) <|
   spec_l05Norm_L3 fu fu1 form points (addI .i64 i 1) (catL out r1))
   (optB (spec_l05Ordered fu out) fun r0 =>
   optB (spec_l05C fu form) fun r1 =>
   brB r1
    (optB (spec_l05Composed fu r0) fun r2 =>
    some r2)
    (some r0))) := by kernel_rfl
theorem spec_l19Seen.eq (p : Int) (fu : Nat) : spec_l19Seen (fu + 1) p =
  (optB (spec_l01Cat fu p) fun r0 =>
  optB (spec_l06Block fu p) fun r1 =>
  optB (spec_l05Wide fu p) fun r2 =>
  brB (eqI r0 1)
   (spec_l19Seen_J5 fu p r0 r1 true r2)
   (spec_l19Seen_J5 fu p r0 r1 (eqI r0 11) r2)) := by kernel_rfl
theorem impl_read.eq (s : ByteArray) (fu : Nat) : impl_read (fu + 1) s =
  (impl_read_L3 fu fu s 0) := by kernel_rfl
theorem impl_points_L3.eq (x : Int) (x_1 : Int) (out : List T_i) (x_2 : List T_iiib) (fu fu1 : Nat) : impl_points_L3 fu (fu1 + 1) x x_1 out x_2 =
  (brB (ltI x_1 x)
   (chk (leI 0 x_1) <|
   chk (ltI x_1 (ln x_2)) <|
   chk (ltI (mulZ (addZ (ln out) (ln ((rd x_2 x_1 (0, (0, (0, false)))).1 :: ([] : List Int)))) 8) 140737488355328) <|
   impl_points_L3 fu fu1 x (addI .i64 x_1 1) (catL out ((rd x_2 x_1 (0, (0, (0, false)))).1 :: ([] : List Int))) x_2)
   (some out)) := by kernel_rfl
theorem impl_normal_L3.eq (form : Int) (x : List T_i) (x_1 : Int) (x_2 : Int) (out : List T_i) (fu fu1 : Nat) : impl_normal_L3 fu (fu1 + 1) form x x_1 x_2 out =
  (brB (ltI x_2 x_1)
   (chk (leI 0 x_2) <|
   chk (ltI x_2 (ln x)) <|
   optB (impl_decompose fu (rd x x_2 0) (leI 3 form)) fun r0 =>
   chk (ltI (mulZ (addZ (ln out) (ln r0)) 8) 140737488355328) <|
   impl_normal_L3 fu fu1 form x x_1 (addI .i64 x_2 1) (catL out r0))
   (impl_normal_L8 fu fu form 0 out)) := by kernel_rfl
theorem impl_looks.eq (p : Int) (fu : Nat) : impl_looks (fu + 1) p =
  (optB (impl_Category fu p) fun r0 =>
  optB (impl_block fu p) fun r1 =>
  optB (impl_systemOf fu p) fun r2 =>
  brB (eqI r0 1)
   (impl_looks_J5 fu p r0 r1.1 r1.2 r2.2 true)
   (impl_looks_J5 fu p r0 r1.1 r1.2 r2.2 (eqI r0 11))) := by kernel_rfl
theorem impl_write.eq (l : List T_i) (fu : Nat) : impl_write (fu + 1) l =
  (impl_write_L3 fu fu l (ln l) 0 ([] : List Int)) := by kernel_rfl
theorem spec_l01Write.eq (p : Int) (fu : Nat) : spec_l01Write (fu + 1) p =
  (optB (spec_l01IsPoint fu p) fun r0 =>
  brB (notB r0)
   (spec_l01Write_J3 fu 65533)
   (spec_l01Write_J3 fu p)) := by kernel_rfl
theorem spec_l01Next.eq (t : ByteArray) (at' : Int) (fu : Nat) : spec_l01Next (fu + 1) t at' =
  (chk (leI 0 at') <|
  chk (ltI at' (sz t)) <|
  brB (ltI (wrI .i64 (bt t at')) 128)
   (some ((wrI .i64 (bt t at')), (1, true)))
   (brB (leI 194 (wrI .i64 (bt t at')))
    (brB (ltI (wrI .i64 (bt t at')) 224)
     (chk (notB (eqI 32 0)) <|
     spec_l01Next_J16 fu t at' 1 (remI (wrI .i64 (bt t at')) 32))
     (brB (leI 224 (wrI .i64 (bt t at')))
      (brB (ltI (wrI .i64 (bt t at')) 240)
       (chk (notB (eqI 16 0)) <|
       spec_l01Next_J16 fu t at' 2 (remI (wrI .i64 (bt t at')) 16))
       (brB (leI 240 (wrI .i64 (bt t at')))
        (brB (ltI (wrI .i64 (bt t at')) 245)
         (chk (notB (eqI 8 0)) <|
         spec_l01Next_J16 fu t at' 3 (remI (wrI .i64 (bt t at')) 8))
         (some (65533, (1, false))))
        (some (65533, (1, false)))))
      (brB (leI 240 (wrI .i64 (bt t at')))
       (brB (ltI (wrI .i64 (bt t at')) 245)
        (chk (notB (eqI 8 0)) <|
        spec_l01Next_J16 fu t at' 3 (remI (wrI .i64 (bt t at')) 8))
        (some (65533, (1, false))))
       (some (65533, (1, false))))))
    (brB (leI 224 (wrI .i64 (bt t at')))
     (brB (ltI (wrI .i64 (bt t at')) 240)
      (chk (notB (eqI 16 0)) <|
      spec_l01Next_J16 fu t at' 2 (remI (wrI .i64 (bt t at')) 16))
      (brB (leI 240 (wrI .i64 (bt t at')))
       (brB (ltI (wrI .i64 (bt t at')) 245)
        (chk (notB (eqI 8 0)) <|
        spec_l01Next_J16 fu t at' 3 (remI (wrI .i64 (bt t at')) 8))
        (some (65533, (1, false))))
       (some (65533, (1, false)))))
     (brB (leI 240 (wrI .i64 (bt t at')))
      (brB (ltI (wrI .i64 (bt t at')) 245)
       (chk (notB (eqI 8 0)) <|
       spec_l01Next_J16 fu t at' 3 (remI (wrI .i64 (bt t at')) 8))
       (some (65533, (1, false))))
      (some (65533, (1, false))))))) := by kernel_rfl
theorem spec_l05K.eq (form : Int) (fu : Nat) : spec_l05K (fu + 1) form =
  (some (leI 3 form)) := by kernel_rfl
theorem spec_l05All.eq (p : Int) (wide : Bool) (fu : Nat) : spec_l05All (fu + 1) p wide =
  (optB (spec_l05Parts fu p wide) fun r0 =>
  brB (eqI (ln r0) 0)
   (some (p :: ([] : List Int)))
   (spec_l05All_L6 fu fu wide 0 r0 ([] : List Int))) := by kernel_rfl
theorem spec_l05Ordered.eq (l : List T_i) (fu : Nat) : spec_l05Ordered (fu + 1) l =
  (chk (ltI (mulZ (addZ (ln ([] : List Int)) (ln l)) 8) 140737488355328) <|
  spec_l05Ordered_L3 fu fu 0 (catL ([] : List Int) l)) := by kernel_rfl
theorem spec_l05C.eq (form : Int) (fu : Nat) : spec_l05C (fu + 1) form =
  (chk (notB (eqI 2 0)) <|
  some (eqI (remI form 2) 0)) := by kernel_rfl
theorem spec_l05Composed.eq (l : List T_i) (fu : Nat) : spec_l05Composed (fu + 1) l =
  (spec_l05Composed_L4 fu fu l (-1) 0 ([] : List Int)) := by kernel_rfl
theorem spec_l01Cat.eq (p : Int) (fu : Nat) : spec_l01Cat (fu + 1) p =
  (optB (spec_l01Known fu p) fun r0 =>
  some r0.1) := by kernel_rfl
theorem spec_l06Block.eq (p : Int) (fu : Nat) : spec_l06Block (fu + 1) p =
  (brB (ltI p 512)
   (some 0)
   (brB (leI 1280 p)
    (some 0)
    (chk (notB (eqI 256 0)) <|
    some (mulI .i64 (quoI .i64 p 256) 256)))) := by kernel_rfl
theorem spec_l05Wide.eq (p : Int) (fu : Nat) : spec_l05Wide (fu + 1) p =
  (brB (leI 9984 p)
   (spec_l05Wide_J2 fu p (leI p 10009))
   (spec_l05Wide_J2 fu p false)) := by kernel_rfl
theorem spec_l19Seen_J5.eq (p : Int) (c : Int) (b : Int) (x : Bool) (wide : List T_i) (fu : Nat) : spec_l19Seen_J5 fu p c b x wide =
  (brB x
   (some ([] : List Int))
   (brB (ltI 0 b)
    (spec_l19Seen_J7 fu p c b (leI p (addI .i64 b 5)) wide)
    (spec_l19Seen_J7 fu p c b false wide))) := by unfold spec_l19Seen_J5; rw [joinAt_eq]; kernel_rfl
theorem impl_read_L3.eq (s : ByteArray) (i : Int) (fu fu1 : Nat) : impl_read_L3 fu (fu1 + 1) s i =
  (brB (ltI i (sz s))
   (chk (leI 0 i) <|
   chk (leI i (sz s)) <|
   optB (unicode_utf8_DecodeRuneInString fu (subs s i (sz s))) fun r0 =>
   brB (eqI r0.1 65533)
    (chk (ltI (mulZ (addZ (ln ([] : List (Int × Int × Int × Bool))) (ln (((wrI .i64 r0.1), (i, ((addI .i64 i r0.2), (eqI r0.2 1)))) :: ([] : List (Int × Int × Int × Bool))))) 32) 140737488355328) <|
    impl_read_L3'1 fu fu1 s (addI .i64 i r0.2) (catL ([] : List (Int × Int × Int × Bool)) (((wrI .i64 r0.1), (i, ((addI .i64 i r0.2), (eqI r0.2 1)))) :: ([] : List (Int × Int × Int × Bool)))))
    (chk (ltI (mulZ (addZ (ln ([] : List (Int × Int × Int × Bool))) (ln (((wrI .i64 r0.1), (i, ((addI .i64 i r0.2), false))) :: ([] : List (Int × Int × Int × Bool))))) 32) 140737488355328) <|
    impl_read_L3'1 fu fu1 s (addI .i64 i r0.2) (catL ([] : List (Int × Int × Int × Bool)) (((wrI .i64 r0.1), (i, ((addI .i64 i r0.2), false))) :: ([] : List (Int × Int × Int × Bool))))))
   (some ([] : List (Int × Int × Int × Bool)))) := by kernel_rfl
theorem impl_decompose.eq (p : Int) (k : Bool) (fu : Nat) : impl_decompose (fu + 1) p k =
  (optB (impl_parts fu p k) fun r0 =>
  brB r0.2
   (some (p :: ([] : List Int)))
   (impl_decompose_L6 fu fu k (ln r0.1) 0 ([] : List Int) r0.2 r0.1)) := by kernel_rfl
theorem impl_normal_L8.eq (form : Int) (i : Int) (out : List T_i) (fu fu1 : Nat) : impl_normal_L8 fu (fu1 + 1) form i out =
  (brB (ltI i (ln out))
   (impl_normal_L10 fu fu1 fu form i i out)
   (brB (eqI form 1)
    (some out)
    (brB (eqI form 3)
     (some out)
     (impl_normal_L20 fu fu (-1) 0 (ln out) 0 ([] : List Int) out)))) := by kernel_rfl
theorem impl_Category.eq (p : Int) (fu : Nat) : impl_Category (fu + 1) p =
  (optB (impl_kind fu p) fun r0 =>
  some r0.1) := by kernel_rfl
theorem impl_block.eq (p : Int) (fu : Nat) : impl_block (fu + 1) p =
  (brB (leI 512 p)
   (brB (ltI p 1280)
    (some ((andNotI .i64 p 255), (andI .i64 p 255)))
    (some (0, 0)))
   (some (0, 0))) := by kernel_rfl
theorem impl_systemOf.eq (p : Int) (fu : Nat) : impl_systemOf (fu + 1) p =
  (impl_systemOf_L2 fu fu p (48 :: (592 :: (848 :: (1104 :: (1360 :: (1616 :: (10016 :: ([] : List Int)))))))) (ln (48 :: (592 :: (848 :: (1104 :: (1360 :: (1616 :: (10016 :: ([] : List Int))))))))) 0) := by kernel_rfl
theorem impl_looks_J5.eq (p : Int) (c : Int) (b : Int) (k : Int) (n : Int) (x : Bool) (fu : Nat) : impl_looks_J5 fu p c b k n x =
  (brB x
   (some ([] : List Int))
   (brB (ltI 0 b)
    (impl_looks_J7 fu p c b k n (leI k 5))
    (impl_looks_J7 fu p c b k n false))) := by unfold impl_looks_J5; rw [joinAt_eq]; kernel_rfl
theorem impl_write_L3.eq (x : List T_i) (x_1 : Int) (x_2 : Int) (b : List T_y) (fu fu1 : Nat) : impl_write_L3 fu (fu1 + 1) x x_1 x_2 b =
  (brB (ltI x_2 x_1)
   (chk (leI 0 x_2) <|
   chk (ltI x_2 (ln x)) <|
   optB (impl_isPoint fu (rd x x_2 0)) fun r0 =>
   brB (notB r0)
    (optB (unicode_utf8_AppendRune fu (wrI .i32 65533) b) fun r1 =>
    impl_write_L3 fu fu1 x x_1 (addI .i64 x_2 1) r1.1)
    (optB (unicode_utf8_AppendRune fu (wrI .i32 (rd x x_2 0)) b) fun r1 =>
    impl_write_L3 fu fu1 x x_1 (addI .i64 x_2 1) r1.1))
   (some (bytesOf b))) := by kernel_rfl
theorem spec_l01IsPoint.eq (p : Int) (fu : Nat) : spec_l01IsPoint (fu + 1) p =
  (brB (leI 0 p)
   (brB (leI p 1114111)
    (brB (ltI p 55296)
     (some true)
     (some (ltI 57343 p)))
    (some false))
   (some false)) := by kernel_rfl
theorem spec_l01Write_J3.eq (p : Int) (fu : Nat) : spec_l01Write_J3 fu p =
  (brB (ltI p 128)
   (some (bytesOf ((wrI .u8 p) :: ([] : List Int))))
   (brB (ltI p 2048)
    (chk (notB (eqI 64 0)) <|
    chk (notB (eqI 64 0)) <|
    some (bytesOf ((wrI .u8 (addI .i64 192 (quoI .i64 p 64))) :: ((wrI .u8 (addI .i64 128 (remI p 64))) :: ([] : List Int)))))
    (brB (ltI p 65536)
     (chk (notB (eqI 4096 0)) <|
     chk (notB (eqI 64 0)) <|
     chk (notB (eqI 64 0)) <|
     chk (notB (eqI 64 0)) <|
     some (bytesOf ((wrI .u8 (addI .i64 224 (quoI .i64 p 4096))) :: ((wrI .u8 (addI .i64 128 (remI (quoI .i64 p 64) 64))) :: ((wrI .u8 (addI .i64 128 (remI p 64))) :: ([] : List Int))))))
     (chk (notB (eqI 262144 0)) <|
     chk (notB (eqI 4096 0)) <|
     chk (notB (eqI 64 0)) <|
     chk (notB (eqI 64 0)) <|
     chk (notB (eqI 64 0)) <|
     chk (notB (eqI 64 0)) <|
     some (bytesOf ((wrI .u8 (addI .i64 240 (quoI .i64 p 262144))) :: ((wrI .u8 (addI .i64 128 (remI (quoI .i64 p 4096) 64))) :: ((wrI .u8 (addI .i64 128 (remI (quoI .i64 p 64) 64))) :: ((wrI .u8 (addI .i64 128 (remI p 64))) :: ([] : List Int)))))))))) := by unfold spec_l01Write_J3; rw [joinAt_eq]; kernel_rfl
theorem spec_l01Next_J16.eq (t : ByteArray) (at' : Int) (n : Int) (p : Int) (fu : Nat) : spec_l01Next_J16 fu t at' n p =
  (brB (leI (sz t) (addI .i64 at' n))
   (some (65533, (1, false)))
   (spec_l01Next_L19 fu fu t at' n p 1)) := by unfold spec_l01Next_J16; rw [joinAt_eq]; kernel_rfl
theorem spec_l05Parts.eq (p : Int) (wide : Bool) (fu : Nat) : spec_l05Parts (fu + 1) p wide =
  (chk (notB (eqI 512 0)) <|
  brB (leI 8192 p)
   (brB (ltI p 9728)
    (spec_l05Parts_J3 fu p wide (remI p 512) (ltI (remI p 512) 416))
    (spec_l05Parts_J3 fu p wide (remI p 512) false))
   (spec_l05Parts_J3 fu p wide (remI p 512) false)) := by kernel_rfl
theorem spec_l05All_L6.eq (wide : Bool) (i : Int) (parts : List T_i) (out : List T_i) (fu fu1 : Nat) : spec_l05All_L6 fu (fu1 + 1) wide i parts out =
  (brB (ltI i (ln parts))
   (chk (leI 0 i) <|
   chk (ltI i (ln parts)) <|
   optB (spec_l05All fu (rd parts i 0) wide) fun r0 =>
   chk (ltI (mulZ (addZ (ln out) (ln r0)) 8) 140737488355328) <|
   spec_l05All_L6 fu fu1 wide (addI .i64 i 1) parts (catL out r0))
   (some out)) := by kernel_rfl
theorem spec_l05Ordered_L3.eq (i : Int) (out : List T_i) (fu fu1 : Nat) : spec_l05Ordered_L3 fu (fu1 + 1) i out =
  (brB (ltI i (ln out))
   (chk (leI 0 i) <|
   chk (ltI i (ln out)) <|
   optB (spec_l01Class fu (rd out i 0)) fun r0 =>
   brB (eqI r0 0)
    (spec_l05Ordered_L3 fu fu1 (addI .i64 i 1) out)
    (spec_l05Ordered_L7 fu fu1 fu i i out))
   (some out)) := by kernel_rfl
theorem spec_l05Composed_L4.eq (l : List T_i) (starter : Int) (i : Int) (out : List T_i) (fu fu1 : Nat) : spec_l05Composed_L4 fu (fu1 + 1) l starter i out =
  (brB (ltI i (ln l))
   (chk (leI 0 i) <|
   chk (ltI i (ln l)) <|
   optB (spec_l01Class fu (rd l i 0)) fun r0 =>
   spec_l05Composed_L10 fu fu1 fu l starter i (rd l i 0) r0 (leI 0 starter) (addI .i64 starter 1) out)
   (some out)) := by kernel_rfl
theorem spec_l01Known.eq (p : Int) (fu : Nat) : spec_l01Known (fu + 1) p =
  (brB (leI 512 p)
   (brB (ltI p 1280)
    (optB (spec_l01Cased fu) fun r0 =>
    spec_l01Known_L4 fu fu p 0 r0)
    (brB (leI 8192 p)
     (brB (ltI p 9728)
      (chk (notB (eqI 512 0)) <|
      brB (leI 416 (remI p 512))
       (some (0, 0))
       (brB (ltI (remI p 512) 208)
        (some (4, 1))
        (some (5, 1))))
      (optB (spec_l01Rows fu) fun r0 =>
      spec_l01Known_L18 fu fu p 0 r0))
     (optB (spec_l01Rows fu) fun r0 =>
     spec_l01Known_L18 fu fu p 0 r0)))
   (brB (leI 8192 p)
    (brB (ltI p 9728)
     (chk (notB (eqI 512 0)) <|
     brB (leI 416 (remI p 512))
      (some (0, 0))
      (brB (ltI (remI p 512) 208)
       (some (4, 1))
       (some (5, 1))))
     (optB (spec_l01Rows fu) fun r0 =>
     spec_l01Known_L18 fu fu p 0 r0))
    (optB (spec_l01Rows fu) fun r0 =>
    spec_l01Known_L18 fu fu p 0 r0))) := by kernel_rfl
theorem spec_l05Wide_J2.eq (p : Int) (x : Bool) (fu : Nat) : spec_l05Wide_J2 fu p x =
  (brB x
   (some ((addI .i64 (subI .i64 p 9984) 65) :: ([] : List Int)))
   (brB (leI 10016 p)
    (brB (leI p 10025)
     (some ((addI .i64 (subI .i64 p 10016) 48) :: ([] : List Int)))
     (brB (eqI p 8064)
      (some (32 :: ([] : List Int)))
      (brB (eqI p 160)
       (some (32 :: ([] : List Int)))
       (brB (leI 10032 p)
        (brB (leI p 10035)
         (chk (leI 0 (mulI .i64 2 (subI .i64 p 10032))) <|
         chk (leI (mulI .i64 2 (subI .i64 p 10032)) (addI .i64 (mulI .i64 2 (subI .i64 p 10032)) 2)) <|
         chk (leI (addI .i64 (mulI .i64 2 (subI .i64 p 10032)) 2) (sz (bs [102, 102, 102, 105, 102, 108, 115, 116]))) <|
         chk (leI 0 0) <|
         chk (ltI 0 (sz (subs (bs [102, 102, 102, 105, 102, 108, 115, 116]) (mulI .i64 2 (subI .i64 p 10032)) (addI .i64 (mulI .i64 2 (subI .i64 p 10032)) 2)))) <|
         chk (leI 0 1) <|
         chk (ltI 1 (sz (subs (bs [102, 102, 102, 105, 102, 108, 115, 116]) (mulI .i64 2 (subI .i64 p 10032)) (addI .i64 (mulI .i64 2 (subI .i64 p 10032)) 2)))) <|
         some ((wrI .i64 (bt (subs (bs [102, 102, 102, 105, 102, 108, 115, 116]) (mulI .i64 2 (subI .i64 p 10032)) (addI .i64 (mulI .i64 2 (subI .i64 p 10032)) 2)) 0)) :: ((wrI .i64 (bt (subs (bs [102, 102, 102, 105, 102, 108, 115, 116]) (mulI .i64 2 (subI .i64 p 10032)) (addI .i64 (mulI .i64 2 (subI .i64 p 10032)) 2)) 1)) :: ([] : List Int))))
         (some ([] : List Int)))
        (some ([] : List Int))))))
    (brB (eqI p 8064)
     (some (32 :: ([] : List Int)))
     (brB (eqI p 160)
      (some (32 :: ([] : List Int)))
      (brB (leI 10032 p)
       (brB (leI p 10035)
        (chk (leI 0 (mulI .i64 2 (subI .i64 p 10032))) <|
        chk (leI (mulI .i64 2 (subI .i64 p 10032)) (addI .i64 (mulI .i64 2 (subI .i64 p 10032)) 2)) <|
        chk (leI (addI .i64 (mulI .i64 2 (subI .i64 p 10032)) 2) (sz (bs [102, 102, 102, 105, 102, 108, 115, 116]))) <|
        chk (leI 0 0) <|
        chk (ltI 0 (sz (subs (bs [102, 102, 102, 105, 102, 108, 115, 116]) (mulI .i64 2 (subI .i64 p 10032)) (addI .i64 (mulI .i64 2 (subI .i64 p 10032)) 2)))) <|
        chk (leI 0 1) <|
        chk (ltI 1 (sz (subs (bs [102, 102, 102, 105, 102, 108, 115, 116]) (mulI .i64 2 (subI .i64 p 10032)) (addI .i64 (mulI .i64 2 (subI .i64 p 10032)) 2)))) <|
        some ((wrI .i64 (bt (subs (bs [102, 102, 102, 105, 102, 108, 115, 116]) (mulI .i64 2 (subI .i64 p 10032)) (addI .i64 (mulI .i64 2 (subI .i64 p 10032)) 2)) 0)) :: ((wrI .i64 (bt (subs (bs [102, 102, 102, 105, 102, 108, 115, 116]) (mulI .i64 2 (subI .i64 p 10032)) (addI .i64 (mulI .i64 2 (subI .i64 p 10032)) 2)) 1)) :: ([] : List Int))))
        (some ([] : List Int)))
       (some ([] : List Int))))))) := by unfold spec_l05Wide_J2; rw [joinAt_eq]; kernel_rfl
theorem spec_l19Seen_J7.eq (p : Int) (c : Int) (b : Int) (x : Bool) (wide : List T_i) (fu : Nat) : spec_l19Seen_J7 fu p c b x wide =
  (brB x
   (some ((subI .i64 (addI .i64 65 p) b) :: ([] : List Int)))
   (brB (ltI 0 b)
    (brB (leI (addI .i64 b 32) p)
     (spec_l19Seen_J9 fu p c b (leI p (addI .i64 b 37)) wide)
     (spec_l19Seen_J9 fu p c b false wide))
    (spec_l19Seen_J9 fu p c b false wide))) := by unfold spec_l19Seen_J7; rw [joinAt_eq]; kernel_rfl
theorem impl_read_L3'1.eq (s : ByteArray) (i : Int) (out : List T_iiib) (fu fu1 : Nat) : impl_read_L3'1 fu (fu1 + 1) s i out =
  (brB (ltI i (sz s))
   (chk (leI 0 i) <|
   chk (leI i (sz s)) <|
   optB (unicode_utf8_DecodeRuneInString fu (subs s i (sz s))) fun r0 =>
   brB (eqI r0.1 65533)
    (chk (ltI (mulZ (addZ (ln out) (ln (((wrI .i64 r0.1), (i, ((addI .i64 i r0.2), (eqI r0.2 1)))) :: ([] : List (Int × Int × Int × Bool))))) 32) 140737488355328) <|
    impl_read_L3'1 fu fu1 s (addI .i64 i r0.2) (catL out (((wrI .i64 r0.1), (i, ((addI .i64 i r0.2), (eqI r0.2 1)))) :: ([] : List (Int × Int × Int × Bool)))))
    (chk (ltI (mulZ (addZ (ln out) (ln (((wrI .i64 r0.1), (i, ((addI .i64 i r0.2), false))) :: ([] : List (Int × Int × Int × Bool))))) 32) 140737488355328) <|
    impl_read_L3'1 fu fu1 s (addI .i64 i r0.2) (catL out (((wrI .i64 r0.1), (i, ((addI .i64 i r0.2), false))) :: ([] : List (Int × Int × Int × Bool))))))
   (some out)) := by kernel_rfl
theorem impl_parts.eq (p : Int) (k : Bool) (fu : Nat) : impl_parts (fu + 1) p k =
  (optB (impl_in fu p 8192 9631) fun r0 =>
  brB r0
   (chk (notB (eqI 512 0)) <|
   impl_parts_J2 fu p k (ltI (remI (subI .i64 p 8192) 512) 416))
   (impl_parts_J2 fu p k false)) := by kernel_rfl
theorem impl_decompose_L6.eq (k : Bool) (x : Int) (x_1 : Int) (out : List T_i) (Nil : Bool) (x_2 : List T_i) (fu fu1 : Nat) : impl_decompose_L6 fu (fu1 + 1) k x x_1 out Nil x_2 =
  (brB (ltI x_1 x)
   (chk (leI 0 x_1) <|
   chk (ltI x_1 (ln x_2)) <|
   optB (impl_decompose fu (rd x_2 x_1 0) k) fun r0 =>
   chk (ltI (mulZ (addZ (ln out) (ln r0)) 8) 140737488355328) <|
   impl_decompose_L6 fu fu1 k x (addI .i64 x_1 1) (catL out r0) Nil x_2)
   (some out)) := by kernel_rfl
theorem impl_normal_L10.eq (form : Int) (i : Int) (n : Int) (out : List T_i) (fu fu1 fu2 : Nat) : impl_normal_L10 fu fu1 (fu2 + 1) form i n out =
  (brB (ltI n (ln out))
   (chk (leI 0 n) <|
   chk (ltI n (ln out)) <|
   optB (impl_MarkClass fu (rd out n 0)) fun r0 =>
   brB (notB (eqI r0 0))
    (impl_normal_L10 fu fu1 fu2 form i (addI .i64 n 1) out)
    (chk (leI 0 i) <|
    chk (leI i n) <|
    chk (leI n (ln out)) <|
    optB (slices_SortStableFunc_Sint64_int64 fu i n out) fun r1 =>
    impl_normal_L8 fu fu1 form (maxI n (addI .i64 i 1)) r1.2))
   (chk (leI 0 i) <|
   chk (leI i n) <|
   chk (leI n (ln out)) <|
   optB (slices_SortStableFunc_Sint64_int64 fu i n out) fun r0 =>
   impl_normal_L8 fu fu1 form (maxI n (addI .i64 i 1)) r0.2)) := by kernel_rfl
theorem impl_normal_L20.eq (starter : Int) (last : Int) (x : Int) (x_1 : Int) (c : List T_i) (x_2 : List T_i) (fu fu1 : Nat) : impl_normal_L20 fu (fu1 + 1) starter last x x_1 c x_2 =
  (brB (ltI x_1 x)
   (chk (leI 0 x_1) <|
   chk (ltI x_1 (ln x_2)) <|
   optB (impl_MarkClass fu (rd x_2 x_1 0)) fun r0 =>
   brB (leI 0 starter)
    (brB (eqI (subI .i64 (ln c) 1) starter)
     (chk (leI 0 starter) <|
     chk (ltI starter (ln c)) <|
     optB (impl_Compose fu (rd c starter 0) (rd x_2 x_1 0)) fun r1 =>
     brB (leI 0 r1)
      (chk (leI 0 starter) <|
      chk (ltI starter (ln c)) <|
      impl_normal_L20 fu fu1 starter last x (addI .i64 x_1 1) (setI c starter r1) x_2)
      (impl_normal_J29 fu fu1 starter (rd x_2 x_1 0) r0 x x_1 c x_2))
     (brB (notB (eqI last 0))
      (brB (ltI last r0)
       (chk (leI 0 starter) <|
       chk (ltI starter (ln c)) <|
       optB (impl_Compose fu (rd c starter 0) (rd x_2 x_1 0)) fun r1 =>
       brB (leI 0 r1)
        (chk (leI 0 starter) <|
        chk (ltI starter (ln c)) <|
        impl_normal_L20 fu fu1 starter last x (addI .i64 x_1 1) (setI c starter r1) x_2)
        (impl_normal_J29 fu fu1 starter (rd x_2 x_1 0) r0 x x_1 c x_2))
       (impl_normal_J29 fu fu1 starter (rd x_2 x_1 0) r0 x x_1 c x_2))
      (impl_normal_J29 fu fu1 starter (rd x_2 x_1 0) r0 x x_1 c x_2)))
    (impl_normal_J29 fu fu1 starter (rd x_2 x_1 0) r0 x x_1 c x_2))
   (some c)) := by kernel_rfl
theorem impl_kind.eq (p : Int) (fu : Nat) : impl_kind (fu + 1) p =
  (optB (impl_block fu p) fun r0 =>
  brB (ltI 0 r0.1)
   (chk (leI 0 8) <|
   brB (ltI r0.2 32)
    (some (4, (shrI .i64 r0.1 8)))
    (optB (impl_in fu r0.2 64 67) fun r1 =>
    brB r1
     (some (4, (shrI .i64 r0.1 8)))
     (brB (ltI r0.2 64)
      (some (5, (shrI .i64 r0.1 8)))
      (optB (impl_in fu r0.2 72 75) fun r2 =>
      brB r2
       (some (5, (shrI .i64 r0.1 8)))
       (optB (impl_in fu r0.2 96 97) fun r3 =>
       brB r3
        (some (5, (shrI .i64 r0.1 8)))
        (optB (impl_in fu r0.2 68 71) fun r4 =>
        brB r4
         (some (6, (shrI .i64 r0.1 8)))
         (optB (impl_in fu r0.2 80 89) fun r5 =>
         brB r5
          (some (8, (shrI .i64 r0.1 8)))
          (some (0, 0)))))))))
   (optB (impl_in fu p 0 31) fun r1 =>
   brB r1
    (impl_kind_J14 fu p true)
    (optB (impl_in fu p 127 159) fun r2 =>
    impl_kind_J14 fu p r2))) := by kernel_rfl
theorem impl_systemOf_L2.eq (p : Int) (x : List T_i) (x_1 : Int) (x_2 : Int) (fu fu1 : Nat) : impl_systemOf_L2 fu (fu1 + 1) p x x_1 x_2 =
  (brB (ltI x_2 x_1)
   (chk (leI 0 x_2) <|
   chk (ltI x_2 (ln x)) <|
   optB (impl_in fu p (rd x x_2 0) (addI .i64 (rd x x_2 0) 9)) fun r0 =>
   brB r0
    (some (x_2, (subI .i64 p (rd x x_2 0))))
    (impl_systemOf_L2 fu fu1 p x x_1 (addI .i64 x_2 1)))
   (some ((-1), (-1)))) := by kernel_rfl
theorem impl_looks_J7.eq (p : Int) (c : Int) (b : Int) (k : Int) (n : Int) (x : Bool) (fu : Nat) : impl_looks_J7 fu p c b k n x =
  (brB x
   (optB (impl_looks fu (addI .i64 65 k)) fun r0 =>
   some r0)
   (brB (ltI 0 b)
    (optB (impl_in fu k 32 37) fun r0 =>
    impl_looks_J9 fu p c b k n r0)
    (impl_looks_J9 fu p c b k n false))) := by unfold impl_looks_J7; rw [joinAt_eq]; kernel_rfl
theorem impl_isPoint.eq (p : Int) (fu : Nat) : impl_isPoint (fu + 1) p =
  (brB (leI 0 p)
   (brB (leI p 1114111)
    (brB (ltI p 55296)
     (some true)
     (some (ltI 57343 p)))
    (some false))
   (some false)) := by kernel_rfl
theorem unicode_utf8_AppendRune.eq (r : Int) (p : List T_y) (fu : Nat) : unicode_utf8_AppendRune (fu + 1) r p =
  (brB (leI (wrI .u32 r) 127)
   (chk (ltI (mulZ (addZ (ln p) (ln ((wrI .u8 r) :: ([] : List Int)))) 1) 140737488355328) <|
   some ((catL p ((wrI .u8 r) :: ([] : List Int))), ()))
   (optB (unicode_utf8_appendRuneNonASCII fu r p) fun r0 =>
   some (r0.1, ()))) := by kernel_rfl
theorem spec_l01Next_L19.eq (t : ByteArray) (at' : Int) (n : Int) (p : Int) (i : Int) (fu fu1 : Nat) : spec_l01Next_L19 fu (fu1 + 1) t at' n p i =
  (brB (leI i n)
   (chk (leI 0 (addI .i64 at' i)) <|
   chk (ltI (addI .i64 at' i) (sz t)) <|
   brB (ltI (wrI .i64 (bt t (addI .i64 at' i))) 128)
    (some (65533, (1, false)))
    (brB (ltI 191 (wrI .i64 (bt t (addI .i64 at' i))))
     (some (65533, (1, false)))
     (chk (notB (eqI 64 0)) <|
     spec_l01Next_L19 fu fu1 t at' n (addI .i64 (mulI .i64 p 64) (remI (wrI .i64 (bt t (addI .i64 at' i))) 64)) (addI .i64 i 1))))
   (optB (spec_l01IsPoint fu p) fun r0 =>
   brB (notB r0)
    (some (65533, (1, false)))
    (optB (spec_l01Write fu p) fun r1 =>
    brB (notB (eqI (sz r1) (addI .i64 n 1)))
     (some (65533, (1, false)))
     (some (p, ((addI .i64 n 1), true)))))) := by kernel_rfl
theorem spec_l05Parts_J3.eq (p : Int) (wide : Bool) (n : Int) (x : Bool) (fu : Nat) : spec_l05Parts_J3 fu p wide n x =
  (brB x
   (chk (notB (eqI 512 0)) <|
   brB (eqI (quoI .i64 p 512) 16)
    (chk (notB (eqI 8 0)) <|
    optB (spec_l05Letter fu (quoI .i64 n 8)) fun r0 =>
    chk (notB (eqI 8 0)) <|
    some (r0 :: ((addI .i64 4096 (remI n 8)) :: ([] : List Int))))
    (brB (eqI (quoI .i64 p 512) 17)
     (chk (notB (eqI 8 0)) <|
     optB (spec_l05Letter fu (quoI .i64 n 8)) fun r0 =>
     chk (notB (eqI 8 0)) <|
     some (r0 :: ((addI .i64 4112 (remI n 8)) :: ([] : List Int))))
     (some ((addI .i64 8704 n) :: (4096 :: ([] : List Int))))))
   (brB (leI 9728 p)
    (spec_l05Parts_J10 fu p wide (leI p 9753))
    (spec_l05Parts_J10 fu p wide false))) := by unfold spec_l05Parts_J3; rw [joinAt_eq]; kernel_rfl
theorem spec_l01Class.eq (p : Int) (fu : Nat) : spec_l01Class (fu + 1) p =
  (brB (eqI p 1584)
   (some 9)
   (brB (eqI p 1585)
    (some 7)
    (brB (ltI p 4096)
     (some 0)
     (brB (ltI 4159 p)
      (some 0)
      (brB (ltI (subI .i64 p 4096) 16)
       (some 230)
       (brB (ltI (subI .i64 p 4096) 32)
        (some 220)
        (brB (ltI (subI .i64 p 4096) 40)
         (some 202)
         (brB (ltI (subI .i64 p 4096) 48)
          (some 1)
          (brB (ltI (subI .i64 p 4096) 56)
           (some 232)
           (some 0)))))))))) := by kernel_rfl
theorem spec_l05Ordered_L7.eq (i : Int) (k : Int) (out : List T_i) (fu fu1 fu2 : Nat) : spec_l05Ordered_L7 fu fu1 (fu2 + 1) i k out =
  (brB (ltI 0 k)
   (chk (leI 0 (subI .i64 k 1)) <|
   chk (ltI (subI .i64 k 1) (ln out)) <|
   optB (spec_l01Class fu (rd out (subI .i64 k 1) 0)) fun r0 =>
   chk (leI 0 k) <|
   chk (ltI k (ln out)) <|
   optB (spec_l01Class fu (rd out k 0)) fun r1 =>
   brB (ltI r1 r0)
    (chk (leI 0 k) <|
    chk (ltI k (ln out)) <|
    chk (leI 0 (subI .i64 k 1)) <|
    chk (ltI (subI .i64 k 1) (ln out)) <|
    chk (leI 0 k) <|
    chk (ltI k (ln out)) <|
    chk (leI 0 (subI .i64 k 1)) <|
    chk (ltI (subI .i64 k 1) (ln (setI out k (rd out (subI .i64 k 1) 0)))) <|
    spec_l05Ordered_L7 fu fu1 fu2 i (subI .i64 k 1) (setI (setI out k (rd out (subI .i64 k 1) 0)) (subI .i64 k 1) (rd out k 0)))
    (spec_l05Ordered_L3 fu fu1 (addI .i64 i 1) out))
   (spec_l05Ordered_L3 fu fu1 (addI .i64 i 1) out)) := by kernel_rfl
theorem spec_l05Composed_L10.eq (l : List T_i) (starter : Int) (i : Int) (c : Int) (class' : Int) (open' : Bool) (k : Int) (out : List T_i) (fu fu1 fu2 : Nat) : spec_l05Composed_L10 fu fu1 (fu2 + 1) l starter i c class' open' k out =
  (brB open'
   (brB (ltI k (ln out))
    (chk (leI 0 k) <|
    chk (ltI k (ln out)) <|
    optB (spec_l01Class fu (rd out k 0)) fun r0 =>
    brB (notB (eqI r0 0))
     (chk (leI 0 k) <|
     chk (ltI k (ln out)) <|
     optB (spec_l01Class fu (rd out k 0)) fun r1 =>
     spec_l05Composed_L10 fu fu1 fu2 l starter i c class' (ltI r1 class') (addI .i64 k 1) out)
     (spec_l05Composed_L10 fu fu1 fu2 l starter i c class' false (addI .i64 k 1) out))
    (brB open'
     (chk (leI 0 starter) <|
     chk (ltI starter (ln out)) <|
     optB (spec_l05Pair fu (rd out starter 0) c) fun r0 =>
     brB (leI 0 r0)
      (chk (leI 0 starter) <|
      chk (ltI starter (ln out)) <|
      spec_l05Composed_L4 fu fu1 l starter (addI .i64 i 1) (setI out starter r0))
      (spec_l05Composed_J17 fu fu1 l starter i c class' out))
     (spec_l05Composed_J17 fu fu1 l starter i c class' out)))
   (brB open'
    (chk (leI 0 starter) <|
    chk (ltI starter (ln out)) <|
    optB (spec_l05Pair fu (rd out starter 0) c) fun r0 =>
    brB (leI 0 r0)
     (chk (leI 0 starter) <|
     chk (ltI starter (ln out)) <|
     spec_l05Composed_L4 fu fu1 l starter (addI .i64 i 1) (setI out starter r0))
     (spec_l05Composed_J17 fu fu1 l starter i c class' out))
    (spec_l05Composed_J17 fu fu1 l starter i c class' out))) := by kernel_rfl
theorem spec_l01Cased.eq (fu : Nat) : spec_l01Cased (fu + 1) =
  (some ((0, (31, (4, 0))) :: ((32, (63, (5, 0))) :: ((64, (67, (4, 0))) :: ((68, (71, (6, 0))) :: ((72, (75, (5, 0))) :: ((80, (89, (8, 0))) :: ((96, (97, (5, 0))) :: ([] : List (Int × Int × Int × Int)))))))))) := by kernel_rfl
theorem spec_l01Known_L4.eq (p : Int) (i : Int) (rows : List T_iiii) (fu fu1 : Nat) : spec_l01Known_L4 fu (fu1 + 1) p i rows =
  (brB (ltI i (ln rows))
   (chk (notB (eqI 256 0)) <|
   chk (leI 0 i) <|
   chk (ltI i (ln rows)) <|
   brB (leI ((rd rows i (0, (0, (0, 0)))).1) (remI p 256))
    (chk (notB (eqI 256 0)) <|
    chk (leI 0 i) <|
    chk (ltI i (ln rows)) <|
    brB (leI (remI p 256) (((rd rows i (0, (0, (0, 0)))).2).1))
     (chk (leI 0 i) <|
     chk (ltI i (ln rows)) <|
     chk (notB (eqI 256 0)) <|
     some ((((rd rows i (0, (0, (0, 0)))).2).2).1, (quoI .i64 p 256)))
     (spec_l01Known_L4 fu fu1 p (addI .i64 i 1) rows))
    (spec_l01Known_L4 fu fu1 p (addI .i64 i 1) rows))
   (some (0, 0))) := by kernel_rfl
theorem spec_l01Rows.eq (fu : Nat) : spec_l01Rows (fu + 1) =
  (some ((0, (31, (1, 0))) :: ((32, (32, (2, 0))) :: ((48, (57, (8, 0))) :: ((65, (90, (4, 1))) :: ((97, (122, (5, 1))) :: ((33, (126, (9, 0))) :: ((127, (159, (1, 0))) :: ((160, (160, (2, 0))) :: ((173, (173, (11, 0))) :: ((161, (191, (10, 0))) :: ((1280, (1311, (7, 5))) :: ((1360, (1369, (8, 5))) :: ((1536, (1567, (7, 6))) :: ((1568, (1579, (3, 6))) :: ((1584, (1585, (3, 6))) :: ((1616, (1625, (8, 6))) :: ((1792, (1810, (7, 7))) :: ((1824, (1844, (7, 7))) :: ((1857, (1883, (7, 7))) :: ((2048, (2095, (7, 8))) :: ((4096, (4159, (3, 0))) :: ((7680, (7748, (10, 0))) :: ((7760, (7785, (10, 0))) :: ((7936, (7947, (11, 0))) :: ((7953, (7954, (11, 0))) :: ((8064, (8064, (2, 0))) :: ((9728, (9753, (4, 1))) :: ((9984, (10009, (10, 0))) :: ((10016, (10025, (8, 0))) :: ((10032, (10035, (10, 0))) :: ((12288, (23459, (7, 7))) :: ((24576, (26623, (7, 9))) :: ([] : List (Int × Int × Int × Int))))))))))))))))))))))))))))))))))) := by kernel_rfl
theorem spec_l01Known_L18.eq (p : Int) (i : Int) (rows : List T_iiii) (fu fu1 : Nat) : spec_l01Known_L18 fu (fu1 + 1) p i rows =
  (brB (ltI i (ln rows))
   (chk (leI 0 i) <|
   chk (ltI i (ln rows)) <|
   brB (leI ((rd rows i (0, (0, (0, 0)))).1) p)
    (chk (leI 0 i) <|
    chk (ltI i (ln rows)) <|
    brB (leI p (((rd rows i (0, (0, (0, 0)))).2).1))
     (chk (leI 0 i) <|
     chk (ltI i (ln rows)) <|
     chk (leI 0 i) <|
     chk (ltI i (ln rows)) <|
     some ((((rd rows i (0, (0, (0, 0)))).2).2).1, (((rd rows i (0, (0, (0, 0)))).2).2).2))
     (spec_l01Known_L18 fu fu1 p (addI .i64 i 1) rows))
    (spec_l01Known_L18 fu fu1 p (addI .i64 i 1) rows))
   (some (0, 0))) := by kernel_rfl
theorem spec_l19Seen_J9.eq (p : Int) (c : Int) (b : Int) (x : Bool) (wide : List T_i) (fu : Nat) : spec_l19Seen_J9 fu p c b x wide =
  (brB x
   (some ((subI .i64 (subI .i64 (addI .i64 97 p) b) 32) :: ([] : List Int)))
   (brB (ltI 0 b)
    (spec_l19Seen_J11 fu p c (eqI p (addI .i64 b 97)) wide)
    (spec_l19Seen_J11 fu p c false wide))) := by unfold spec_l19Seen_J9; rw [joinAt_eq]; kernel_rfl
theorem impl_in.eq (p : Int) (a : Int) (b : Int) (fu : Nat) : impl_in (fu + 1) p a b =
  (brB (leI a p)
   (some (leI p b))
   (some false)) := by kernel_rfl
theorem impl_parts_J2.eq (p : Int) (k : Bool) (x : Bool) (fu : Nat) : impl_parts_J2 fu p k x =
  (brB x
   (chk (notB (eqI 512 0)) <|
   chk (notB (eqI 512 0)) <|
   brB (eqI (quoI .i64 (subI .i64 p 8192) 512) 0)
    (chk (notB (eqI 8 0)) <|
    optB (impl_letter fu (quoI .i64 (remI (subI .i64 p 8192) 512) 8)) fun r0 =>
    chk (notB (eqI 8 0)) <|
    some ((r0 :: ((addI .i64 4096 (remI (remI (subI .i64 p 8192) 512) 8)) :: ([] : List Int))), false))
    (brB (eqI (quoI .i64 (subI .i64 p 8192) 512) 1)
     (chk (notB (eqI 8 0)) <|
     optB (impl_letter fu (quoI .i64 (remI (subI .i64 p 8192) 512) 8)) fun r0 =>
     chk (notB (eqI 8 0)) <|
     some ((r0 :: ((addI .i64 4112 (remI (remI (subI .i64 p 8192) 512) 8)) :: ([] : List Int))), false))
     (some (((addI .i64 8704 (remI (subI .i64 p 8192) 512)) :: (4096 :: ([] : List Int))), false))))
   (optB (impl_in fu p 9728 9753) fun r0 =>
   brB r0
    (some (((subI .i64 (addI .i64 65 p) 9728) :: ([] : List Int)), false))
    (optB (impl_in fu p 12288 23459) fun r1 =>
    brB r1
     (chk (notB (eqI 28 0)) <|
     brB (ltI 0 (remI (subI .i64 p 12288) 28))
      (some (((subI .i64 p (remI (subI .i64 p 12288) 28)) :: ((addI .i64 1856 (remI (subI .i64 p 12288) 28)) :: ([] : List Int))), false))
      (chk (notB (eqI 28 0)) <|
      chk (notB (eqI 21 0)) <|
      chk (notB (eqI 28 0)) <|
      chk (notB (eqI 21 0)) <|
      some (((addI .i64 1792 (quoI .i64 (quoI .i64 (subI .i64 p 12288) 28) 21)) :: ((addI .i64 1824 (remI (quoI .i64 (subI .i64 p 12288) 28) 21)) :: ([] : List Int))), false)))
     (brB (notB k)
      (some (([] : List Int), true))
      (optB (impl_in fu p 9984 10009) fun r2 =>
      brB r2
       (some (((subI .i64 (addI .i64 65 p) 9984) :: ([] : List Int)), false))
       (optB (impl_in fu p 10016 10025) fun r3 =>
       brB r3
        (some (((subI .i64 (addI .i64 48 p) 10016) :: ([] : List Int)), false))
        (brB (eqI p 8064)
         (some ((32 :: ([] : List Int)), false))
         (brB (eqI p 160)
          (some ((32 :: ([] : List Int)), false))
          (optB (impl_in fu p 10032 10035) fun r4 =>
          brB r4
           (chk (leI 0 (subI .i64 p 10032)) <|
           chk (ltI (subI .i64 p 10032) 4) <|
           brB (eqI (subI .i64 p 10032) 0)
            (some ((102 :: (102 :: ([] : List Int))), false))
            (brB (eqI (subI .i64 p 10032) 1)
             (some ((102 :: (105 :: ([] : List Int))), false))
             (brB (eqI (subI .i64 p 10032) 2)
              (some ((102 :: (108 :: ([] : List Int))), false))
              (chk (eqI (subI .i64 p 10032) 3) <|
              some ((115 :: (116 :: ([] : List Int))), false)))))
           (some (([] : List Int), true))))))))))) := by unfold impl_parts_J2; rw [joinAt_eq]; kernel_rfl
theorem impl_MarkClass.eq (p : Int) (fu : Nat) : impl_MarkClass (fu + 1) p =
  (brB (eqI p 1584)
   (some 9)
   (brB (eqI p 1585)
    (some 7)
    (optB (impl_in fu p 4096 4159) fun r0 =>
    brB (notB r0)
     (some 0)
     (brB (ltI p 4112)
      (some 230)
      (brB (ltI p 4128)
       (some 220)
       (brB (ltI p 4136)
        (some 202)
        (brB (ltI p 4144)
         (some 1)
         (brB (ltI p 4152)
          (some 232)
          (some 0))))))))) := by kernel_rfl
theorem slices_SortStableFunc_Sint64_int64.eq (xLo : Int) (xHi : Int) (x : List T_i) (fu : Nat) : slices_SortStableFunc_Sint64_int64 (fu + 1) xLo xHi x =
  (optB (slices_stableCmpFunc_int64 fu xLo xHi (subZ xHi xLo) x) fun r0 =>
  some ((), r0.2)) := by kernel_rfl
theorem impl_Compose.eq (a : Int) (b : Int) (fu : Nat) : impl_Compose (fu + 1) a b =
  (optB (impl_in fu a 65 90) fun r0 =>
  brB r0
   (impl_Compose_J4 fu a b (subI .i64 a 65))
   (impl_Compose_J4 fu a b (-1))) := by kernel_rfl
theorem impl_normal_J29.eq (starter : Int) (p : Int) (k : Int) (x : Int) (x_1 : Int) (c : List T_i) (x_2 : List T_i) (fu fu1 : Nat) : impl_normal_J29 fu fu1 starter p k x x_1 c x_2 =
  (chk (ltI (mulZ (addZ (ln c) (ln (p :: ([] : List Int)))) 8) 140737488355328) <|
  brB (eqI k 0)
   (impl_normal_L20 fu fu1 (subI .i64 (ln (catL c (p :: ([] : List Int)))) 1) k x (addI .i64 x_1 1) (catL c (p :: ([] : List Int))) x_2)
   (impl_normal_L20 fu fu1 starter k x (addI .i64 x_1 1) (catL c (p :: ([] : List Int))) x_2)) := by unfold impl_normal_J29; rw [joinAt_eq]; kernel_rfl
theorem impl_kind_J14.eq (p : Int) (x : Bool) (fu : Nat) : impl_kind_J14 fu p x =
  (brB x
   (some (1, 0))
   (brB (eqI p 32)
    (impl_kind_J16 fu p true)
    (brB (eqI p 160)
     (impl_kind_J16 fu p true)
     (impl_kind_J16 fu p (eqI p 8064))))) := by unfold impl_kind_J14; rw [joinAt_eq]; kernel_rfl
theorem impl_looks_J9.eq (p : Int) (c : Int) (b : Int) (k : Int) (n : Int) (x : Bool) (fu : Nat) : impl_looks_J9 fu p c b k n x =
  (brB x
   (some ((subI .i64 (addI .i64 97 k) 32) :: ([] : List Int)))
   (brB (ltI 0 b)
    (impl_looks_J11 fu p c n (eqI k 97))
    (impl_looks_J11 fu p c n false))) := by unfold impl_looks_J9; rw [joinAt_eq]; kernel_rfl
theorem unicode_utf8_appendRuneNonASCII.eq (r : Int) (p : List T_y) (fu : Nat) : unicode_utf8_appendRuneNonASCII (fu + 1) r p =
  (brB (leI (wrI .u32 r) 2047)
   (chk (leI 0 6) <|
   chk (ltI (mulZ (addZ (ln p) (ln ((orI .u8 192 (wrI .u8 (shrI .i32 r 6))) :: ((orI .u8 128 (andI .u8 (wrI .u8 r) 63)) :: ([] : List Int))))) 1) 140737488355328) <|
   some ((catL p ((orI .u8 192 (wrI .u8 (shrI .i32 r 6))) :: ((orI .u8 128 (andI .u8 (wrI .u8 r) 63)) :: ([] : List Int)))), ()))
   (brB (ltI (wrI .u32 r) 55296)
    (unicode_utf8_appendRuneNonASCII_J7 fu r (wrI .u32 r) (ltI (wrI .u32 r) 55296) p)
    (brB (ltI 57343 (wrI .u32 r))
     (unicode_utf8_appendRuneNonASCII_J7 fu r (wrI .u32 r) (leI (wrI .u32 r) 65535) p)
     (unicode_utf8_appendRuneNonASCII_J7 fu r (wrI .u32 r) false p)))) := by kernel_rfl
theorem spec_l05Letter.eq (i : Int) (fu : Nat) : spec_l05Letter (fu + 1) i =
  (brB (ltI i 26)
   (some (addI .i64 65 i))
   (some (subI .i64 (addI .i64 97 i) 26))) := by kernel_rfl
theorem spec_l05Parts_J10.eq (p : Int) (wide : Bool) (x : Bool) (fu : Nat) : spec_l05Parts_J10 fu p wide x =
  (brB x
   (some ((addI .i64 (subI .i64 p 9728) 65) :: ([] : List Int)))
   (brB (leI 12288 p)
    (brB (leI p 23459)
     (chk (notB (eqI 28 0)) <|
     brB (ltI 0 (remI (subI .i64 p 12288) 28))
      (chk (notB (eqI 28 0)) <|
      chk (notB (eqI 28 0)) <|
      some ((subI .i64 p (remI (subI .i64 p 12288) 28)) :: ((addI .i64 1856 (remI (subI .i64 p 12288) 28)) :: ([] : List Int))))
      (chk (notB (eqI 588 0)) <|
      chk (notB (eqI 28 0)) <|
      chk (notB (eqI 21 0)) <|
      some ((addI .i64 1792 (quoI .i64 (subI .i64 p 12288) 588)) :: ((addI .i64 1824 (remI (quoI .i64 (subI .i64 p 12288) 28) 21)) :: ([] : List Int)))))
     (brB wide
      (optB (spec_l05Wide fu p) fun r0 =>
      some r0)
      (some ([] : List Int))))
    (brB wide
     (optB (spec_l05Wide fu p) fun r0 =>
     some r0)
     (some ([] : List Int))))) := by unfold spec_l05Parts_J10; rw [joinAt_eq]; kernel_rfl
theorem spec_l05Pair.eq (a : Int) (b : Int) (fu : Nat) : spec_l05Pair (fu + 1) a b =
  (optB (spec_l05LetterAt fu a) fun r0 =>
  brB (leI 0 r0)
   (brB (leI 4096 b)
    (spec_l05Pair_J3 fu a b r0 (leI b 4103))
    (spec_l05Pair_J3 fu a b r0 false))
   (spec_l05Pair_J3 fu a b r0 false)) := by kernel_rfl
theorem spec_l05Composed_J17.eq (l : List T_i) (starter : Int) (i : Int) (c : Int) (class' : Int) (out : List T_i) (fu fu1 : Nat) : spec_l05Composed_J17 fu fu1 l starter i c class' out =
  (chk (ltI (mulZ (addZ (ln out) (ln (c :: ([] : List Int)))) 8) 140737488355328) <|
  brB (eqI class' 0)
   (spec_l05Composed_L4 fu fu1 l (subI .i64 (ln (catL out (c :: ([] : List Int)))) 1) (addI .i64 i 1) (catL out (c :: ([] : List Int))))
   (spec_l05Composed_L4 fu fu1 l starter (addI .i64 i 1) (catL out (c :: ([] : List Int))))) := by unfold spec_l05Composed_J17; rw [joinAt_eq]; kernel_rfl
theorem spec_l19Seen_J11.eq (p : Int) (c : Int) (x : Bool) (wide : List T_i) (fu : Nat) : spec_l19Seen_J11 fu p c x wide =
  (brB x
   (some (102 :: ([] : List Int)))
   (brB (eqI c 8)
    (optB (spec_DigitOf fu p) fun r0 =>
    brB (eqI r0 0)
     (spec_l19Seen_J13 fu p c true wide)
     (spec_l19Seen_J13 fu p c (eqI p 1280) wide))
    (spec_l19Seen_J13 fu p c (eqI p 1280) wide))) := by unfold spec_l19Seen_J11; rw [joinAt_eq]; kernel_rfl
theorem impl_letter.eq (i : Int) (fu : Nat) : impl_letter (fu + 1) i =
  (brB (ltI i 26)
   (some (addI .i64 65 i))
   (some (subI .i64 (addI .i64 97 i) 26))) := by kernel_rfl
theorem slices_stableCmpFunc_int64.eq (dataLo : Int) (dataHi : Int) (n : Int) (data : List T_i) (fu : Nat) : slices_stableCmpFunc_int64 (fu + 1) dataLo dataHi n data =
  (slices_stableCmpFunc_int64_L2 fu fu dataLo dataHi n 20 0 20 data) := by kernel_rfl
theorem impl_Compose_J4.eq (a : Int) (b : Int) (i : Int) (fu : Nat) : impl_Compose_J4 fu a b i =
  (optB (impl_in fu a 97 122) fun r0 =>
  brB r0
   (impl_Compose_J6 fu a b (addI .i64 (subI .i64 a 97) 26))
   (impl_Compose_J6 fu a b i)) := by unfold impl_Compose_J4; rw [joinAt_eq]; kernel_rfl
theorem impl_kind_J16.eq (p : Int) (x : Bool) (fu : Nat) : impl_kind_J16 fu p x =
  (brB x
   (some (2, 0))
   (optB (impl_in fu p 48 57) fun r0 =>
   brB r0
    (some (8, 0))
    (optB (impl_in fu p 65 90) fun r1 =>
    brB r1
     (some (4, 1))
     (optB (impl_in fu p 97 122) fun r2 =>
     brB r2
      (some (5, 1))
      (optB (impl_in fu p 33 126) fun r3 =>
      brB r3
       (some (9, 0))
       (brB (eqI p 173)
        (some (11, 0))
        (optB (impl_in fu p 161 191) fun r4 =>
        brB r4
         (some (10, 0))
         (optB (impl_in fu p 1280 1311) fun r5 =>
         brB r5
          (some (7, 5))
          (optB (impl_in fu p 1360 1369) fun r6 =>
          brB r6
           (some (8, 5))
           (optB (impl_in fu p 1536 1567) fun r7 =>
           brB r7
            (some (7, 6))
            (optB (impl_in fu p 1568 1579) fun r8 =>
            brB r8
             (impl_kind_J36 fu p true)
             (brB (eqI p 1584)
              (impl_kind_J36 fu p true)
              (impl_kind_J36 fu p (eqI p 1585)))))))))))))) := by unfold impl_kind_J16; rw [joinAt_eq]; kernel_rfl
theorem impl_looks_J11.eq (p : Int) (c : Int) (n : Int) (x : Bool) (fu : Nat) : impl_looks_J11 fu p c n x =
  (brB x
   (some (102 :: ([] : List Int)))
   (brB (eqI n 0)
    (some (111 :: ([] : List Int)))
    (brB (eqI n 1)
     (some (108 :: ([] : List Int)))
     (brB (ltI 1 n)
      (some ((addI .i64 48 n) :: ([] : List Int)))
      (brB (eqI p 73)
       (some (108 :: ([] : List Int)))
       (brB (eqI p 1281)
        (some (108 :: ([] : List Int)))
        (brB (eqI p 1280)
         (some (111 :: ([] : List Int)))
         (optB (impl_in fu p 9984 10009) fun r0 =>
         brB r0
          (optB (impl_parts fu p true) fun r1 =>
          impl_looks_L25 fu fu (ln r1.1) 0 ([] : List Int) r1.2 r1.1)
          (optB (impl_in fu p 10032 10035) fun r1 =>
          brB r1
           (optB (impl_parts fu p true) fun r2 =>
           impl_looks_L25 fu fu (ln r2.1) 0 ([] : List Int) r2.2 r2.1)
           (brB (eqI c 2)
            (some (32 :: ([] : List Int)))
            (impl_looks_J32 fu p))))))))))) := by unfold impl_looks_J11; rw [joinAt_eq]; kernel_rfl
theorem unicode_utf8_appendRuneNonASCII_J7.eq (r : Int) (i : Int) (x : Bool) (p : List T_y) (fu : Nat) : unicode_utf8_appendRuneNonASCII_J7 fu r i x p =
  (brB x
   (chk (leI 0 12) <|
   chk (leI 0 6) <|
   chk (ltI (mulZ (addZ (ln p) (ln ((orI .u8 224 (wrI .u8 (shrI .i32 r 12))) :: ((orI .u8 128 (andI .u8 (wrI .u8 (shrI .i32 r 6)) 63)) :: ((orI .u8 128 (andI .u8 (wrI .u8 r) 63)) :: ([] : List Int)))))) 1) 140737488355328) <|
   some ((catL p ((orI .u8 224 (wrI .u8 (shrI .i32 r 12))) :: ((orI .u8 128 (andI .u8 (wrI .u8 (shrI .i32 r 6)) 63)) :: ((orI .u8 128 (andI .u8 (wrI .u8 r) 63)) :: ([] : List Int))))), ()))
   (brB (ltI 65535 i)
    (brB (leI i 1114111)
     (chk (leI 0 18) <|
     chk (leI 0 12) <|
     chk (leI 0 6) <|
     chk (ltI (mulZ (addZ (ln p) (ln ((orI .u8 240 (wrI .u8 (shrI .i32 r 18))) :: ((orI .u8 128 (andI .u8 (wrI .u8 (shrI .i32 r 12)) 63)) :: ((orI .u8 128 (andI .u8 (wrI .u8 (shrI .i32 r 6)) 63)) :: ((orI .u8 128 (andI .u8 (wrI .u8 r) 63)) :: ([] : List Int))))))) 1) 140737488355328) <|
     some ((catL p ((orI .u8 240 (wrI .u8 (shrI .i32 r 18))) :: ((orI .u8 128 (andI .u8 (wrI .u8 (shrI .i32 r 12)) 63)) :: ((orI .u8 128 (andI .u8 (wrI .u8 (shrI .i32 r 6)) 63)) :: ((orI .u8 128 (andI .u8 (wrI .u8 r) 63)) :: ([] : List Int)))))), ()))
     (chk (ltI (mulZ (addZ (ln p) (ln (239 :: (191 :: (189 :: ([] : List Int)))))) 1) 140737488355328) <|
     some ((catL p (239 :: (191 :: (189 :: ([] : List Int))))), ())))
    (chk (ltI (mulZ (addZ (ln p) (ln (239 :: (191 :: (189 :: ([] : List Int)))))) 1) 140737488355328) <|
    some ((catL p (239 :: (191 :: (189 :: ([] : List Int))))), ())))) := by unfold unicode_utf8_appendRuneNonASCII_J7; rw [joinAt_eq]; kernel_rfl
theorem spec_l05LetterAt.eq (p : Int) (fu : Nat) : spec_l05LetterAt (fu + 1) p =
  (brB (leI 65 p)
   (brB (leI p 90)
    (some (subI .i64 p 65))
    (brB (leI 97 p)
     (brB (leI p 122)
      (some (addI .i64 (subI .i64 p 97) 26))
      (some (-1)))
     (some (-1))))
   (brB (leI 97 p)
    (brB (leI p 122)
     (some (addI .i64 (subI .i64 p 97) 26))
     (some (-1)))
    (some (-1)))) := by kernel_rfl
theorem spec_l05Pair_J3.eq (a : Int) (b : Int) (i : Int) (x : Bool) (fu : Nat) : spec_l05Pair_J3 fu a b i x =
  (brB x
   (some (subI .i64 (addI .i64 (addI .i64 8192 (mulI .i64 8 i)) b) 4096))
   (brB (leI 0 i)
    (brB (leI 4112 b)
     (spec_l05Pair_J5 fu a b i (leI b 4119))
     (spec_l05Pair_J5 fu a b i false))
    (spec_l05Pair_J5 fu a b i false))) := by unfold spec_l05Pair_J3; rw [joinAt_eq]; kernel_rfl
theorem spec_DigitOf.eq (p : Int) (fu : Nat) : spec_DigitOf (fu + 1) p =
  (optB (spec_l01Cat fu p) fun r0 =>
  brB (notB (eqI r0 8))
   (some (-1))
   (chk (notB (eqI 16 0)) <|
   chk (notB (eqI 10 0)) <|
   some (remI (remI p 16) 10))) := by kernel_rfl
theorem spec_l19Seen_J13.eq (p : Int) (c : Int) (x : Bool) (wide : List T_i) (fu : Nat) : spec_l19Seen_J13 fu p c x wide =
  (brB x
   (some (111 :: ([] : List Int)))
   (brB (eqI c 8)
    (optB (spec_DigitOf fu p) fun r0 =>
    brB (eqI r0 1)
     (spec_l19Seen_J15 fu p c true wide)
     (brB (eqI p 73)
      (spec_l19Seen_J15 fu p c true wide)
      (spec_l19Seen_J15 fu p c (eqI p 1281) wide)))
    (brB (eqI p 73)
     (spec_l19Seen_J15 fu p c true wide)
     (spec_l19Seen_J15 fu p c (eqI p 1281) wide)))) := by unfold spec_l19Seen_J13; rw [joinAt_eq]; kernel_rfl
theorem slices_stableCmpFunc_int64_L2.eq (dataLo : Int) (dataHi : Int) (n : Int) (blockSize : Int) (a : Int) (b : Int) (data : List T_i) (fu fu1 : Nat) : slices_stableCmpFunc_int64_L2 fu (fu1 + 1) dataLo dataHi n blockSize a b data =
  (brB (leI b n)
   (optB (slices_insertionSortCmpFunc_int64 fu dataLo dataHi a b data) fun r0 =>
   slices_stableCmpFunc_int64_L2 fu fu1 dataLo dataHi n blockSize b (addI .i64 b blockSize) r0.2)
   (optB (slices_insertionSortCmpFunc_int64 fu dataLo dataHi a n data) fun r0 =>
   slices_stableCmpFunc_int64_L7 fu fu dataLo dataHi n blockSize r0.2)) := by kernel_rfl
theorem impl_Compose_J6.eq (a : Int) (b : Int) (i : Int) (fu : Nat) : impl_Compose_J6 fu a b i =
  (brB (leI 0 i)
   (optB (impl_in fu b 4096 4103) fun r0 =>
   impl_Compose_J7 fu a b i r0)
   (impl_Compose_J7 fu a b i false)) := by unfold impl_Compose_J6; rw [joinAt_eq]; kernel_rfl
theorem impl_kind_J36.eq (p : Int) (x : Bool) (fu : Nat) : impl_kind_J36 fu p x =
  (brB x
   (some (3, 6))
   (optB (impl_in fu p 1616 1625) fun r0 =>
   brB r0
    (some (8, 6))
    (optB (impl_in fu p 1792 1810) fun r1 =>
    brB r1
     (impl_kind_J40 fu p true)
     (optB (impl_in fu p 1824 1844) fun r2 =>
     brB r2
      (impl_kind_J40 fu p true)
      (optB (impl_in fu p 1857 1883) fun r3 =>
      brB r3
       (impl_kind_J40 fu p true)
       (optB (impl_in fu p 12288 23459) fun r4 =>
       impl_kind_J40 fu p r4)))))) := by unfold impl_kind_J36; rw [joinAt_eq]; kernel_rfl
theorem impl_looks_L25.eq (x : Int) (x_1 : Int) (out : List T_i) (Nil : Bool) (x_2 : List T_i) (fu fu1 : Nat) : impl_looks_L25 fu (fu1 + 1) x x_1 out Nil x_2 =
  (brB (ltI x_1 x)
   (chk (leI 0 x_1) <|
   chk (ltI x_1 (ln x_2)) <|
   optB (impl_looks fu (rd x_2 x_1 0)) fun r0 =>
   chk (ltI (mulZ (addZ (ln out) (ln r0)) 8) 140737488355328) <|
   impl_looks_L25 fu fu1 x (addI .i64 x_1 1) (catL out r0) Nil x_2)
   (some out)) := by kernel_rfl
theorem impl_looks_J32.eq (p : Int) (fu : Nat) : impl_looks_J32 fu p =
  (some (p :: ([] : List Int))) := by unfold impl_looks_J32; rw [joinAt_eq]; kernel_rfl
theorem spec_l05Pair_J5.eq (a : Int) (b : Int) (i : Int) (x : Bool) (fu : Nat) : spec_l05Pair_J5 fu a b i x =
  (brB x
   (some (subI .i64 (addI .i64 (addI .i64 8704 (mulI .i64 8 i)) b) 4112))
   (brB (leI 8704 a)
    (brB (ltI a 9120)
     (spec_l05Pair_J7 fu a b (eqI b 4096))
     (spec_l05Pair_J7 fu a b false))
    (spec_l05Pair_J7 fu a b false))) := by unfold spec_l05Pair_J5; rw [joinAt_eq]; kernel_rfl
theorem spec_l19Seen_J15.eq (p : Int) (c : Int) (x : Bool) (wide : List T_i) (fu : Nat) : spec_l19Seen_J15 fu p c x wide =
  (brB x
   (some (108 :: ([] : List Int)))
   (brB (eqI c 8)
    (optB (spec_DigitOf fu p) fun r0 =>
    some ((addI .i64 48 r0) :: ([] : List Int)))
    (brB (eqI c 2)
     (some (32 :: ([] : List Int)))
     (brB (ltI 0 (ln wide))
      (spec_l19Seen_L23 fu fu 0 wide ([] : List Int))
      (spec_l19Seen_J27 fu p))))) := by unfold spec_l19Seen_J15; rw [joinAt_eq]; kernel_rfl
theorem slices_insertionSortCmpFunc_int64.eq (dataLo : Int) (dataHi : Int) (a : Int) (b : Int) (data : List T_i) (fu : Nat) : slices_insertionSortCmpFunc_int64 (fu + 1) dataLo dataHi a b data =
  (slices_insertionSortCmpFunc_int64_L1 fu fu dataLo dataHi a b (addI .i64 a 1) data) := by kernel_rfl
theorem slices_stableCmpFunc_int64_L7.eq (dataLo : Int) (dataHi : Int) (n : Int) (blockSize : Int) (data : List T_i) (fu fu1 : Nat) : slices_stableCmpFunc_int64_L7 fu (fu1 + 1) dataLo dataHi n blockSize data =
  (brB (ltI blockSize n)
   (slices_stableCmpFunc_int64_L9 fu fu1 fu dataLo dataHi n blockSize 0 (mulI .i64 2 blockSize) data)
   (some ((), data))) := by kernel_rfl
theorem impl_Compose_J7.eq (a : Int) (b : Int) (i : Int) (x : Bool) (fu : Nat) : impl_Compose_J7 fu a b i x =
  (brB x
   (some (subI .i64 (addI .i64 (addI .i64 8192 (mulI .i64 8 i)) b) 4096))
   (brB (leI 0 i)
    (optB (impl_in fu b 4112 4119) fun r0 =>
    impl_Compose_J9 fu a b i r0)
    (impl_Compose_J9 fu a b i false))) := by unfold impl_Compose_J7; rw [joinAt_eq]; kernel_rfl
theorem impl_kind_J40.eq (p : Int) (x : Bool) (fu : Nat) : impl_kind_J40 fu p x =
  (brB x
   (some (7, 7))
   (optB (impl_in fu p 2048 2095) fun r0 =>
   brB r0
    (some (7, 8))
    (optB (impl_in fu p 4096 4159) fun r1 =>
    brB r1
     (some (3, 0))
     (optB (impl_in fu p 7680 7748) fun r2 =>
     brB r2
      (impl_kind_J46 fu p true)
      (optB (impl_in fu p 7760 7785) fun r3 =>
      impl_kind_J46 fu p r3))))) := by unfold impl_kind_J40; rw [joinAt_eq]; kernel_rfl
theorem spec_l05Pair_J7.eq (a : Int) (b : Int) (x : Bool) (fu : Nat) : spec_l05Pair_J7 fu a b x =
  (brB x
   (some (addI .i64 a 512))
   (brB (leI 1792 a)
    (brB (leI a 1810)
     (brB (leI 1824 b)
      (spec_l05Pair_J9 fu a b (leI b 1844))
      (spec_l05Pair_J9 fu a b false))
     (spec_l05Pair_J9 fu a b false))
    (spec_l05Pair_J9 fu a b false))) := by unfold spec_l05Pair_J7; rw [joinAt_eq]; kernel_rfl
theorem spec_l19Seen_L23.eq (i : Int) (wide : List T_i) (out : List T_i) (fu fu1 : Nat) : spec_l19Seen_L23 fu (fu1 + 1) i wide out =
  (brB (ltI i (ln wide))
   (chk (leI 0 i) <|
   chk (ltI i (ln wide)) <|
   optB (spec_l19Seen fu (rd wide i 0)) fun r0 =>
   chk (ltI (mulZ (addZ (ln out) (ln r0)) 8) 140737488355328) <|
   spec_l19Seen_L23 fu fu1 (addI .i64 i 1) wide (catL out r0))
   (some out)) := by kernel_rfl
theorem spec_l19Seen_J27.eq (p : Int) (fu : Nat) : spec_l19Seen_J27 fu p =
  (some (p :: ([] : List Int))) := by unfold spec_l19Seen_J27; rw [joinAt_eq]; kernel_rfl
theorem slices_insertionSortCmpFunc_int64_L1.eq (dataLo : Int) (dataHi : Int) (a : Int) (b : Int) (i : Int) (data : List T_i) (fu fu1 : Nat) : slices_insertionSortCmpFunc_int64_L1 fu (fu1 + 1) dataLo dataHi a b i data =
  (brB (ltI i b)
   (slices_insertionSortCmpFunc_int64_L4 fu fu1 fu dataLo dataHi a b i i data)
   (some ((), data))) := by kernel_rfl
theorem slices_stableCmpFunc_int64_L9.eq (dataLo : Int) (dataHi : Int) (n : Int) (blockSize : Int) (a : Int) (b : Int) (data : List T_i) (fu fu1 fu2 : Nat) : slices_stableCmpFunc_int64_L9 fu fu1 (fu2 + 1) dataLo dataHi n blockSize a b data =
  (brB (leI b n)
   (optB (slices_symMergeCmpFunc_int64 fu dataLo dataHi a (addI .i64 a blockSize) b data) fun r0 =>
   slices_stableCmpFunc_int64_L9 fu fu1 fu2 dataLo dataHi n blockSize b (addI .i64 b (mulI .i64 2 blockSize)) r0.2)
   (brB (ltI (addI .i64 a blockSize) n)
    (optB (slices_symMergeCmpFunc_int64 fu dataLo dataHi a (addI .i64 a blockSize) n data) fun r0 =>
    slices_stableCmpFunc_int64_L7 fu fu1 dataLo dataHi n (mulI .i64 blockSize 2) r0.2)
    (slices_stableCmpFunc_int64_L7 fu fu1 dataLo dataHi n (mulI .i64 blockSize 2) data))) := by kernel_rfl
theorem impl_Compose_J9.eq (a : Int) (b : Int) (i : Int) (x : Bool) (fu : Nat) : impl_Compose_J9 fu a b i x =
  (brB x
   (some (subI .i64 (addI .i64 (addI .i64 8704 (mulI .i64 8 i)) b) 4112))
   (optB (impl_in fu a 8704 9119) fun r0 =>
   brB r0
    (brB (eqI b 4096)
     (some (addI .i64 a 512))
     (optB (impl_in fu a 1792 1810) fun r1 =>
     brB r1
      (optB (impl_in fu b 1824 1844) fun r2 =>
      brB r2
       (some (addI .i64 12288 (mulI .i64 (subI .i64 (addI .i64 (mulI .i64 21 (subI .i64 a 1792)) b) 1824) 28)))
       (optB (impl_isOpen fu a) fun r3 =>
       brB r3
        (optB (impl_in fu b 1857 1883) fun r4 =>
        brB r4
         (some (subI .i64 (addI .i64 a b) 1856))
         (some (-1)))
        (some (-1))))
      (optB (impl_isOpen fu a) fun r2 =>
      brB r2
       (optB (impl_in fu b 1857 1883) fun r3 =>
       brB r3
        (some (subI .i64 (addI .i64 a b) 1856))
        (some (-1)))
       (some (-1)))))
    (optB (impl_in fu a 1792 1810) fun r1 =>
    brB r1
     (optB (impl_in fu b 1824 1844) fun r2 =>
     brB r2
      (some (addI .i64 12288 (mulI .i64 (subI .i64 (addI .i64 (mulI .i64 21 (subI .i64 a 1792)) b) 1824) 28)))
      (optB (impl_isOpen fu a) fun r3 =>
      brB r3
       (optB (impl_in fu b 1857 1883) fun r4 =>
       brB r4
        (some (subI .i64 (addI .i64 a b) 1856))
        (some (-1)))
       (some (-1))))
     (optB (impl_isOpen fu a) fun r2 =>
     brB r2
      (optB (impl_in fu b 1857 1883) fun r3 =>
      brB r3
       (some (subI .i64 (addI .i64 a b) 1856))
       (some (-1)))
      (some (-1)))))) := by unfold impl_Compose_J9; rw [joinAt_eq]; kernel_rfl
theorem impl_kind_J46.eq (p : Int) (x : Bool) (fu : Nat) : impl_kind_J46 fu p x =
  (brB x
   (some (10, 0))
   (optB (impl_in fu p 7936 7947) fun r0 =>
   brB r0
    (impl_kind_J48 fu p true)
    (brB (eqI p 7953)
     (impl_kind_J48 fu p true)
     (impl_kind_J48 fu p (eqI p 7954))))) := by unfold impl_kind_J46; rw [joinAt_eq]; kernel_rfl
theorem spec_l05Pair_J9.eq (a : Int) (b : Int) (x : Bool) (fu : Nat) : spec_l05Pair_J9 fu a b x =
  (brB x
   (some (addI .i64 12288 (mulI .i64 (subI .i64 (addI .i64 (mulI .i64 (subI .i64 a 1792) 21) b) 1824) 28)))
   (brB (leI 12288 a)
    (brB (leI a 23459)
     (chk (notB (eqI 28 0)) <|
     brB (eqI (remI (subI .i64 a 12288) 28) 0)
      (brB (leI 1857 b)
       (brB (leI b 1883)
        (some (subI .i64 (addI .i64 a b) 1856))
        (spec_l05Pair_J12 fu))
       (spec_l05Pair_J12 fu))
      (spec_l05Pair_J12 fu))
     (spec_l05Pair_J12 fu))
    (spec_l05Pair_J12 fu))) := by unfold spec_l05Pair_J9; rw [joinAt_eq]; kernel_rfl
theorem slices_insertionSortCmpFunc_int64_L4.eq (dataLo : Int) (dataHi : Int) (a : Int) (b : Int) (i : Int) (j : Int) (data : List T_i) (fu fu1 fu2 : Nat) : slices_insertionSortCmpFunc_int64_L4 fu fu1 (fu2 + 1) dataLo dataHi a b i j data =
  (brB (ltI a j)
   (chk (leI 0 j) <|
   chk (ltI j (subZ dataHi dataLo)) <|
   chk (leI 0 (subI .i64 j 1)) <|
   chk (ltI (subI .i64 j 1) (subZ dataHi dataLo)) <|
   optB (impl_normal_1 fu (rd data (addZ dataLo j) 0) (rd data (addZ dataLo (subI .i64 j 1)) 0)) fun r0 =>
   brB (ltI r0 0)
    (chk (leI 0 (subI .i64 j 1)) <|
    chk (ltI (subI .i64 j 1) (subZ dataHi dataLo)) <|
    chk (leI 0 j) <|
    chk (ltI j (subZ dataHi dataLo)) <|
    chk (leI 0 j) <|
    chk (ltI j (subZ dataHi dataLo)) <|
    chk (leI 0 (subI .i64 j 1)) <|
    chk (ltI (subI .i64 j 1) (subZ dataHi dataLo)) <|
    slices_insertionSortCmpFunc_int64_L4 fu fu1 fu2 dataLo dataHi a b i (subI .i64 j 1) (setI (setI data (addZ dataLo j) (rd data (addZ dataLo (subI .i64 j 1)) 0)) (addZ dataLo (subI .i64 j 1)) (rd data (addZ dataLo j) 0)))
    (slices_insertionSortCmpFunc_int64_L1 fu fu1 dataLo dataHi a b (addI .i64 i 1) data))
   (slices_insertionSortCmpFunc_int64_L1 fu fu1 dataLo dataHi a b (addI .i64 i 1) data)) := by kernel_rfl
theorem slices_symMergeCmpFunc_int64.eq (dataLo : Int) (dataHi : Int) (a : Int) (m : Int) (b : Int) (data : List T_i) (fu : Nat) : slices_symMergeCmpFunc_int64 (fu + 1) dataLo dataHi a m b data =
  (brB (eqI (subI .i64 m a) 1)
   (slices_symMergeCmpFunc_int64_L3 fu fu dataLo dataHi a m b data)
   (brB (eqI (subI .i64 b m) 1)
    (slices_symMergeCmpFunc_int64_L15 fu fu dataLo dataHi m a m data)
    (chk (leI 0 1) <|
    brB (ltI (wrI .i64 (shrI .u64 (wrI .u64 (addI .i64 a b)) 1)) m)
     (slices_symMergeCmpFunc_int64_L33 fu fu dataLo dataHi a m b (wrI .i64 (shrI .u64 (wrI .u64 (addI .i64 a b)) 1)) (addI .i64 (wrI .i64 (shrI .u64 (wrI .u64 (addI .i64 a b)) 1)) m) (subI .i64 (addI .i64 (wrI .i64 (shrI .u64 (wrI .u64 (addI .i64 a b)) 1)) m) b) (wrI .i64 (shrI .u64 (wrI .u64 (addI .i64 a b)) 1)) (subI .i64 (addI .i64 (wrI .i64 (shrI .u64 (wrI .u64 (addI .i64 a b)) 1)) m) 1) data)
     (slices_symMergeCmpFunc_int64_L33 fu fu dataLo dataHi a m b (wrI .i64 (shrI .u64 (wrI .u64 (addI .i64 a b)) 1)) (addI .i64 (wrI .i64 (shrI .u64 (wrI .u64 (addI .i64 a b)) 1)) m) a m (subI .i64 (addI .i64 (wrI .i64 (shrI .u64 (wrI .u64 (addI .i64 a b)) 1)) m) 1) data)))) := by kernel_rfl
theorem impl_isOpen.eq (p : Int) (fu : Nat) : impl_isOpen (fu + 1) p =
  (optB (impl_isSyllable fu p) fun r0 =>
  brB r0
   (chk (notB (eqI 28 0)) <|
   some (eqI (remI (subI .i64 p 12288) 28) 0))
   (some false)) := by kernel_rfl
theorem impl_kind_J48.eq (p : Int) (x : Bool) (fu : Nat) : impl_kind_J48 fu p x =
  (brB x
   (some (11, 0))
   (optB (impl_in fu p 8192 9631) fun r0 =>
   brB r0
    (chk (notB (eqI 512 0)) <|
    brB (ltI (remI (subI .i64 p 8192) 512) 416)
     (chk (notB (eqI 512 0)) <|
     brB (ltI (remI (subI .i64 p 8192) 512) 208)
      (some (4, 1))
      (some (5, 1)))
     (optB (impl_in fu p 9728 9753) fun r1 =>
     brB r1
      (some (4, 1))
      (optB (impl_in fu p 9984 10009) fun r2 =>
      brB r2
       (some (10, 0))
       (optB (impl_in fu p 10032 10035) fun r3 =>
       brB r3
        (some (10, 0))
        (optB (impl_in fu p 10016 10025) fun r4 =>
        brB r4
         (some (8, 0))
         (optB (impl_in fu p 24576 26623) fun r5 =>
         brB r5
          (some (7, 9))
          (impl_kind_J61 fu)))))))
    (optB (impl_in fu p 9728 9753) fun r1 =>
    brB r1
     (some (4, 1))
     (optB (impl_in fu p 9984 10009) fun r2 =>
     brB r2
      (some (10, 0))
      (optB (impl_in fu p 10032 10035) fun r3 =>
      brB r3
       (some (10, 0))
       (optB (impl_in fu p 10016 10025) fun r4 =>
       brB r4
        (some (8, 0))
        (optB (impl_in fu p 24576 26623) fun r5 =>
        brB r5
         (some (7, 9))
         (impl_kind_J61 fu)))))))) := by unfold impl_kind_J48; rw [joinAt_eq]; kernel_rfl
theorem spec_l05Pair_J12.eq (fu : Nat) : spec_l05Pair_J12 fu =
  (some (-1)) := by unfold spec_l05Pair_J12; rw [joinAt_eq]; kernel_rfl
theorem impl_normal_1.eq (a : Int) (b : Int) (fu : Nat) : impl_normal_1 (fu + 1) a b =
  (optB (impl_MarkClass fu a) fun r0 =>
  optB (impl_MarkClass fu b) fun r1 =>
  some (subI .i64 r0 r1)) := by kernel_rfl
theorem slices_symMergeCmpFunc_int64_L3.eq (dataLo : Int) (dataHi : Int) (a : Int) (i : Int) (j : Int) (data : List T_i) (fu fu1 : Nat) : slices_symMergeCmpFunc_int64_L3 fu (fu1 + 1) dataLo dataHi a i j data =
  (brB (ltI i j)
   (chk (leI 0 1) <|
   chk (leI 0 (wrI .i64 (shrI .u64 (wrI .u64 (addI .i64 i j)) 1))) <|
   chk (ltI (wrI .i64 (shrI .u64 (wrI .u64 (addI .i64 i j)) 1)) (subZ dataHi dataLo)) <|
   chk (leI 0 a) <|
   chk (ltI a (subZ dataHi dataLo)) <|
   optB (impl_normal_1 fu (rd data (addZ dataLo (wrI .i64 (shrI .u64 (wrI .u64 (addI .i64 i j)) 1))) 0) (rd data (addZ dataLo a) 0)) fun r0 =>
   brB (ltI r0 0)
    (slices_symMergeCmpFunc_int64_L3 fu fu1 dataLo dataHi a (addI .i64 (wrI .i64 (shrI .u64 (wrI .u64 (addI .i64 i j)) 1)) 1) j data)
    (slices_symMergeCmpFunc_int64_L3 fu fu1 dataLo dataHi a i (wrI .i64 (shrI .u64 (wrI .u64 (addI .i64 i j)) 1)) data))
   (slices_symMergeCmpFunc_int64_L9 fu fu dataLo dataHi i a data)) := by kernel_rfl
theorem slices_symMergeCmpFunc_int64_L15.eq (dataLo : Int) (dataHi : Int) (m : Int) (i : Int) (j : Int) (data : List T_i) (fu fu1 : Nat) : slices_symMergeCmpFunc_int64_L15 fu (fu1 + 1) dataLo dataHi m i j data =
  (brB (ltI i j)
   (chk (leI 0 1) <|
   chk (leI 0 m) <|
   chk (ltI m (subZ dataHi dataLo)) <|
   chk (leI 0 (wrI .i64 (shrI .u64 (wrI .u64 (addI .i64 i j)) 1))) <|
   chk (ltI (wrI .i64 (shrI .u64 (wrI .u64 (addI .i64 i j)) 1)) (subZ dataHi dataLo)) <|
   optB (impl_normal_1 fu (rd data (addZ dataLo m) 0) (rd data (addZ dataLo (wrI .i64 (shrI .u64 (wrI .u64 (addI .i64 i j)) 1))) 0)) fun r0 =>
   brB (notB (ltI r0 0))
    (slices_symMergeCmpFunc_int64_L15 fu fu1 dataLo dataHi m (addI .i64 (wrI .i64 (shrI .u64 (wrI .u64 (addI .i64 i j)) 1)) 1) j data)
    (slices_symMergeCmpFunc_int64_L15 fu fu1 dataLo dataHi m i (wrI .i64 (shrI .u64 (wrI .u64 (addI .i64 i j)) 1)) data))
   (slices_symMergeCmpFunc_int64_L21 fu fu dataLo dataHi i m data)) := by kernel_rfl
theorem slices_symMergeCmpFunc_int64_L33.eq (dataLo : Int) (dataHi : Int) (a : Int) (m : Int) (b : Int) (mid : Int) (n : Int) (start : Int) (r : Int) (p : Int) (data : List T_i) (fu fu1 : Nat) : slices_symMergeCmpFunc_int64_L33 fu (fu1 + 1) dataLo dataHi a m b mid n start r p data =
  (brB (ltI start r)
   (chk (leI 0 1) <|
   chk (leI 0 (subI .i64 p (wrI .i64 (shrI .u64 (wrI .u64 (addI .i64 start r)) 1)))) <|
   chk (ltI (subI .i64 p (wrI .i64 (shrI .u64 (wrI .u64 (addI .i64 start r)) 1))) (subZ dataHi dataLo)) <|
   chk (leI 0 (wrI .i64 (shrI .u64 (wrI .u64 (addI .i64 start r)) 1))) <|
   chk (ltI (wrI .i64 (shrI .u64 (wrI .u64 (addI .i64 start r)) 1)) (subZ dataHi dataLo)) <|
   optB (impl_normal_1 fu (rd data (addZ dataLo (subI .i64 p (wrI .i64 (shrI .u64 (wrI .u64 (addI .i64 start r)) 1)))) 0) (rd data (addZ dataLo (wrI .i64 (shrI .u64 (wrI .u64 (addI .i64 start r)) 1))) 0)) fun r0 =>
   brB (notB (ltI r0 0))
    (slices_symMergeCmpFunc_int64_L33 fu fu1 dataLo dataHi a m b mid n (addI .i64 (wrI .i64 (shrI .u64 (wrI .u64 (addI .i64 start r)) 1)) 1) r p data)
    (slices_symMergeCmpFunc_int64_L33 fu fu1 dataLo dataHi a m b mid n start (wrI .i64 (shrI .u64 (wrI .u64 (addI .i64 start r)) 1)) p data))
   (brB (ltI start m)
    (brB (ltI m (subI .i64 n start))
     (optB (slices_rotateCmpFunc_int64 fu dataLo dataHi start m (subI .i64 n start) data) fun r0 =>
     slices_symMergeCmpFunc_int64_J41 fu dataLo dataHi a b mid start (subI .i64 n start) r0.2)
     (slices_symMergeCmpFunc_int64_J41 fu dataLo dataHi a b mid start (subI .i64 n start) data))
    (slices_symMergeCmpFunc_int64_J41 fu dataLo dataHi a b mid start (subI .i64 n start) data))) := by kernel_rfl
theorem impl_isSyllable.eq (p : Int) (fu : Nat) : impl_isSyllable (fu + 1) p =
  (optB (impl_in fu p 12288 23459) fun r0 =>
  some r0) := by kernel_rfl
theorem impl_kind_J61.eq (fu : Nat) : impl_kind_J61 fu =
  (some (0, 0)) := by unfold impl_kind_J61; rw [joinAt_eq]; kernel_rfl
theorem slices_symMergeCmpFunc_int64_L9.eq (dataLo : Int) (dataHi : Int) (i : Int) (k : Int) (data : List T_i) (fu fu1 : Nat) : slices_symMergeCmpFunc_int64_L9 fu (fu1 + 1) dataLo dataHi i k data =
  (brB (ltI k (subI .i64 i 1))
   (chk (leI 0 (addI .i64 k 1)) <|
   chk (ltI (addI .i64 k 1) (subZ dataHi dataLo)) <|
   chk (leI 0 k) <|
   chk (ltI k (subZ dataHi dataLo)) <|
   chk (leI 0 k) <|
   chk (ltI k (subZ dataHi dataLo)) <|
   chk (leI 0 (addI .i64 k 1)) <|
   chk (ltI (addI .i64 k 1) (subZ dataHi dataLo)) <|
   slices_symMergeCmpFunc_int64_L9 fu fu1 dataLo dataHi i (addI .i64 k 1) (setI (setI data (addZ dataLo k) (rd data (addZ dataLo (addI .i64 k 1)) 0)) (addZ dataLo (addI .i64 k 1)) (rd data (addZ dataLo k) 0)))
   (some ((), data))) := by kernel_rfl
theorem slices_symMergeCmpFunc_int64_L21.eq (dataLo : Int) (dataHi : Int) (i : Int) (k : Int) (data : List T_i) (fu fu1 : Nat) : slices_symMergeCmpFunc_int64_L21 fu (fu1 + 1) dataLo dataHi i k data =
  (brB (ltI i k)
   (chk (leI 0 (subI .i64 k 1)) <|
   chk (ltI (subI .i64 k 1) (subZ dataHi dataLo)) <|
   chk (leI 0 k) <|
   chk (ltI k (subZ dataHi dataLo)) <|
   chk (leI 0 k) <|
   chk (ltI k (subZ dataHi dataLo)) <|
   chk (leI 0 (subI .i64 k 1)) <|
   chk (ltI (subI .i64 k 1) (subZ dataHi dataLo)) <|
   slices_symMergeCmpFunc_int64_L21 fu fu1 dataLo dataHi i (subI .i64 k 1) (setI (setI data (addZ dataLo k) (rd data (addZ dataLo (subI .i64 k 1)) 0)) (addZ dataLo (subI .i64 k 1)) (rd data (addZ dataLo k) 0)))
   (some ((), data))) := by kernel_rfl
theorem slices_rotateCmpFunc_int64.eq (dataLo : Int) (dataHi : Int) (a : Int) (m : Int) (b : Int) (data : List T_i) (fu : Nat) : slices_rotateCmpFunc_int64 (fu + 1) dataLo dataHi a m b data =
  (slices_rotateCmpFunc_int64_L2 fu fu dataLo dataHi m (subI .i64 m a) (subI .i64 b m) data) := by kernel_rfl
theorem slices_symMergeCmpFunc_int64_J41.eq (dataLo : Int) (dataHi : Int) (a : Int) (b : Int) (mid : Int) (start : Int) (end' : Int) (data : List T_i) (fu : Nat) : slices_symMergeCmpFunc_int64_J41 fu dataLo dataHi a b mid start end' data =
  (brB (ltI a start)
   (brB (ltI start mid)
    (optB (slices_symMergeCmpFunc_int64 fu dataLo dataHi a start mid data) fun r0 =>
    slices_symMergeCmpFunc_int64_J43 fu dataLo dataHi b mid end' r0.2)
    (slices_symMergeCmpFunc_int64_J43 fu dataLo dataHi b mid end' data))
   (slices_symMergeCmpFunc_int64_J43 fu dataLo dataHi b mid end' data)) := by unfold slices_symMergeCmpFunc_int64_J41; rw [joinAt_eq]; kernel_rfl
theorem slices_rotateCmpFunc_int64_L2.eq (dataLo : Int) (dataHi : Int) (m : Int) (i : Int) (j : Int) (data : List T_i) (fu fu1 : Nat) : slices_rotateCmpFunc_int64_L2 fu (fu1 + 1) dataLo dataHi m i j data =
  (brB (notB (eqI i j))
   (brB (ltI j i)
    (optB (slices_swapRangeCmpFunc_int64 fu dataLo dataHi (subI .i64 m i) m j data) fun r0 =>
    slices_rotateCmpFunc_int64_L2 fu fu1 dataLo dataHi m (subI .i64 i j) j r0.2)
    (optB (slices_swapRangeCmpFunc_int64 fu dataLo dataHi (subI .i64 m i) (subI .i64 (addI .i64 m j) i) i data) fun r0 =>
    slices_rotateCmpFunc_int64_L2 fu fu1 dataLo dataHi m i (subI .i64 j i) r0.2))
   (optB (slices_swapRangeCmpFunc_int64 fu dataLo dataHi (subI .i64 m i) m i data) fun r0 =>
   some ((), r0.2))) := by kernel_rfl
theorem slices_symMergeCmpFunc_int64_J43.eq (dataLo : Int) (dataHi : Int) (b : Int) (mid : Int) (end' : Int) (data : List T_i) (fu : Nat) : slices_symMergeCmpFunc_int64_J43 fu dataLo dataHi b mid end' data =
  (brB (ltI mid end')
   (brB (ltI end' b)
    (optB (slices_symMergeCmpFunc_int64 fu dataLo dataHi mid end' b data) fun r0 =>
    some ((), r0.2))
    (some ((), data)))
   (some ((), data))) := by unfold slices_symMergeCmpFunc_int64_J43; rw [joinAt_eq]; kernel_rfl
theorem slices_swapRangeCmpFunc_int64.eq (dataLo : Int) (dataHi : Int) (a : Int) (b : Int) (n : Int) (data : List T_i) (fu : Nat) : slices_swapRangeCmpFunc_int64 (fu + 1) dataLo dataHi a b n data =
  (slices_swapRangeCmpFunc_int64_L1 fu fu dataLo dataHi a b n 0 data) := by kernel_rfl
theorem slices_swapRangeCmpFunc_int64_L1.eq (dataLo : Int) (dataHi : Int) (a : Int) (b : Int) (n : Int) (i : Int) (data : List T_i) (fu fu1 : Nat) : slices_swapRangeCmpFunc_int64_L1 fu (fu1 + 1) dataLo dataHi a b n i data =
  (brB (ltI i n)
   (chk (leI 0 (addI .i64 b i)) <|
   chk (ltI (addI .i64 b i) (subZ dataHi dataLo)) <|
   chk (leI 0 (addI .i64 a i)) <|
   chk (ltI (addI .i64 a i) (subZ dataHi dataLo)) <|
   chk (leI 0 (addI .i64 a i)) <|
   chk (ltI (addI .i64 a i) (subZ dataHi dataLo)) <|
   chk (leI 0 (addI .i64 b i)) <|
   chk (ltI (addI .i64 b i) (subZ dataHi dataLo)) <|
   slices_swapRangeCmpFunc_int64_L1 fu fu1 dataLo dataHi a b n (addI .i64 i 1) (setI (setI data (addZ dataLo (addI .i64 a i)) (rd data (addZ dataLo (addI .i64 b i)) 0)) (addZ dataLo (addI .i64 b i)) (rd data (addZ dataLo (addI .i64 a i)) 0)))
   (some ((), data))) := by kernel_rfl
end Go.Proofs.YtmmmlfndnoeedaaDoor.IX
