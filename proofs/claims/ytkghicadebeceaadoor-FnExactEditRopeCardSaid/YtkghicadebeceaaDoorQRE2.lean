/- What the functions compute: their equations, checked by the kernel. -/
import Derived.ProofKit
import Derived.Test.YtkghicadebeceaaDoorDRE
namespace Go.Proofs.YtkghicadebeceaaDoor.RE
open Go.Eng
set_option maxRecDepth 100000
set_option maxHeartbeats 4000000
theorem spec_l17IsName_L4.eq (t : ByteArray) (i : Int) (fu fu1 : Nat) : spec_l17IsName_L4 fu (fu1 + 1) t i =
  (brB (ltI i (sz t))
   (chk (leI 0 i) <|
   chk (ltI i (sz t)) <|
   brB (ltI (bt t i) 97)
    (brB (ltI (bt t i) 48)
     (brB (notB (eqI (bt t i) 45))
      (some false)
      (spec_l17IsName_L4 fu fu1 t (addI .i64 i 1)))
     (brB (ltI 57 (bt t i))
      (brB (notB (eqI (bt t i) 45))
       (some false)
       (spec_l17IsName_L4 fu fu1 t (addI .i64 i 1)))
      (spec_l17IsName_L4 fu fu1 t (addI .i64 i 1))))
    (brB (ltI 122 (bt t i))
     (brB (ltI (bt t i) 48)
      (brB (notB (eqI (bt t i) 45))
       (some false)
       (spec_l17IsName_L4 fu fu1 t (addI .i64 i 1)))
      (brB (ltI 57 (bt t i))
       (brB (notB (eqI (bt t i) 45))
        (some false)
        (spec_l17IsName_L4 fu fu1 t (addI .i64 i 1)))
       (spec_l17IsName_L4 fu fu1 t (addI .i64 i 1))))
     (spec_l17IsName_L4 fu fu1 t (addI .i64 i 1))))
   (some true)) := by kernel_rfl
theorem impl_read_L3.eq (s : ByteArray) (i : Int) (fu fu1 : Nat) : impl_read_L3 fu (fu1 + 1) s i =
  (brB (ltI i (sz s))
   (chk (leI 0 i) <|
   chk (leI i (sz s)) <|
   optB (unicode_utf8_DecodeRuneInString fu (subs s i (sz s))) fun r0 =>
   brB (eqI r0.1 65533)
    (chk (ltI (mulZ (addZ (ln ([] : List (Int × Int × Int × Bool))) (ln (((wrI .i64 r0.1), (i, ((addI .i64 i r0.2), (eqI r0.2 1)))) :: ([] : List (Int × Int × Int × Bool))))) 32) 140737488355328) <|
    impl_read_L3'1 fu fu1 s (addI .i64 i r0.2) (catL ([] : List (Int × Int × Int × Bool)) (((wrI .i64 r0.1), (i, ((addI .i64 i r0.2), (eqI r0.2 1)))) :: ([] : List (Int × Int × Int × Bool)))))
    (chk (ltI (mulZ (addZ (ln ([] : List (Int × Int × Int × Bool))) (ln (((wrI .i64 r0.1), (i, ((addI .i64 i r0.2), false))) :: ([] : List (Int × Int × Int × Bool))))) 32) 140737488355328) <|
    impl_read_L3'1 fu fu1 s (addI .i64 i r0.2) (catL ([] : List (Int × Int × Int × Bool)) (((wrI .i64 r0.1), (i, ((addI .i64 i r0.2), false))) :: ([] : List (Int × Int × Int × Bool))))))
   (some ([] : List (Int × Int × Int × Bool)))) := by kernel_rfl
theorem impl_ropeTree_L7'1.eq (s : ByteArray) (n : Int) (lines : Int) (cut : Int) (i : Int) (out : List T_siiii) (fu fu1 : Nat) : impl_ropeTree_L7'1 fu (fu1 + 1) s n lines cut i out =
  (chk (notB (eqI 2 0)) <|
  brB (leI i (quoI .i64 (addI .i64 (sz s) 1) 2))
   (chk (leI 0 i) <|
   chk (leI i (minI (sz s) (addI .i64 i 4))) <|
   chk (leI (minI (sz s) (addI .i64 i 4)) (sz s)) <|
   optB (impl_read fu (subs s i (minI (sz s) (addI .i64 i 4)))) fun r0 =>
   chk (leI 0 0) <|
   chk (ltI 0 (ln r0)) <|
   impl_ropeTree_L7'1 fu fu1 s n lines i (addI .i64 i ((((rd r0 0 (0, (0, (0, false)))).2).2).1)) out)
   (chk (ltI (mulZ (addZ (ln out) (ln (((bs []), ((addI .i64 (ln out) 1), (0, (n, lines)))) :: ([] : List (ByteArray × Int × Int × Int × Int))))) 48) 140737488355328) <|
   chk (leI 0 cut) <|
   chk (leI cut (sz s)) <|
   optB (impl_ropeTree'1 fu (subs s 0 cut) (catL out (((bs []), ((addI .i64 (ln out) 1), (0, (n, lines)))) :: ([] : List (ByteArray × Int × Int × Int × Int))))) fun r0 =>
   chk (leI 0 (ln out)) <|
   chk (ltI (ln out) (ln r0.1)) <|
   chk (leI 0 cut) <|
   chk (leI cut (sz s)) <|
   optB (impl_ropeTree'1 fu (subs s cut (sz s)) (setI r0.1 (ln out) ((rd r0.1 (ln out) ((bs []), (0, (0, (0, 0))))).1, (((rd r0.1 (ln out) ((bs []), (0, (0, (0, 0))))).2).1, ((ln r0.1), (((rd r0.1 (ln out) ((bs []), (0, (0, (0, 0))))).2).2).2))))) fun r1 =>
   some (r1.1, ()))) := by kernel_rfl
theorem internal_stringslite_IndexByte.eq (s : ByteArray) (c : Int) (fu : Nat) : internal_stringslite_IndexByte (fu + 1) s c =
  (optB (internal_bytealg_IndexByteString fu s c) fun r0 =>
  some r0) := by kernel_rfl
theorem spec_l20Moved_J3.eq (end' : Int) (x : Bool) (m : ByteArray) (m_1 : Int) (m_2 : Bool) (e : Int) (e_1 : Int) (e_2 : ByteArray) (fu : Nat) : spec_l20Moved_J3 fu end' x m m_1 m_2 e e_1 e_2 =
  (brB x
   (some m_1)
   (brB (leI end' m_1)
    (some (subI .i64 (addI .i64 m_1 (sz e_2)) e_1))
    (brB (ltI e m_1)
     (brB m_2
      (some e)
      (brB (ltI e m_1)
       (some (addI .i64 e (sz e_2)))
       (some m_1)))
     (brB (ltI e m_1)
      (some (addI .i64 e (sz e_2)))
      (some m_1))))) := by unfold spec_l20Moved_J3; rw [joinAt_eq]; kernel_rfl
theorem impl_move_J13.eq (at' : Int) (drop : Int) (put : Int) (x : Int) (x_1 : Int) (x_2 : List T_sib) (l : List T_sib) (fu fu1 : Nat) : impl_move_J13 fu fu1 at' drop put x x_1 x_2 l =
  (impl_move_L3 fu fu1 at' drop put x (addI .i64 x_1 1) x_2 l) := by unfold impl_move_J13; rw [joinAt_eq]; kernel_rfl
theorem spec_l01Next_L19.eq (t : ByteArray) (at' : Int) (n : Int) (p : Int) (i : Int) (fu fu1 : Nat) : spec_l01Next_L19 fu (fu1 + 1) t at' n p i =
  (brB (leI i n)
   (chk (leI 0 (addI .i64 at' i)) <|
   chk (ltI (addI .i64 at' i) (sz t)) <|
   brB (ltI (wrI .i64 (bt t (addI .i64 at' i))) 128)
    (some (65533, (1, false)))
    (brB (ltI 191 (wrI .i64 (bt t (addI .i64 at' i))))
     (some (65533, (1, false)))
     (chk (notB (eqI 64 0)) <|
     spec_l01Next_L19 fu fu1 t at' n (addI .i64 (mulI .i64 p 64) (remI (wrI .i64 (bt t (addI .i64 at' i))) 64)) (addI .i64 i 1))))
   (optB (spec_l01IsPoint fu p) fun r0 =>
   brB (notB r0)
    (some (65533, (1, false)))
    (optB (spec_l01Write fu p) fun r1 =>
    brB (notB (eqI (sz r1) (addI .i64 n 1)))
     (some (65533, (1, false)))
     (some (p, ((addI .i64 n 1), true)))))) := by kernel_rfl
theorem impl_read_L3'1.eq (s : ByteArray) (i : Int) (out : List T_iiib) (fu fu1 : Nat) : impl_read_L3'1 fu (fu1 + 1) s i out =
  (brB (ltI i (sz s))
   (chk (leI 0 i) <|
   chk (leI i (sz s)) <|
   optB (unicode_utf8_DecodeRuneInString fu (subs s i (sz s))) fun r0 =>
   brB (eqI r0.1 65533)
    (chk (ltI (mulZ (addZ (ln out) (ln (((wrI .i64 r0.1), (i, ((addI .i64 i r0.2), (eqI r0.2 1)))) :: ([] : List (Int × Int × Int × Bool))))) 32) 140737488355328) <|
    impl_read_L3'1 fu fu1 s (addI .i64 i r0.2) (catL out (((wrI .i64 r0.1), (i, ((addI .i64 i r0.2), (eqI r0.2 1)))) :: ([] : List (Int × Int × Int × Bool)))))
    (chk (ltI (mulZ (addZ (ln out) (ln (((wrI .i64 r0.1), (i, ((addI .i64 i r0.2), false))) :: ([] : List (Int × Int × Int × Bool))))) 32) 140737488355328) <|
    impl_read_L3'1 fu fu1 s (addI .i64 i r0.2) (catL out (((wrI .i64 r0.1), (i, ((addI .i64 i r0.2), false))) :: ([] : List (Int × Int × Int × Bool))))))
   (some out)) := by kernel_rfl
theorem spec_l01IsPoint.eq (p : Int) (fu : Nat) : spec_l01IsPoint (fu + 1) p =
  (brB (leI 0 p)
   (brB (leI p 1114111)
    (brB (ltI p 55296)
     (some true)
     (some (ltI 57343 p)))
    (some false))
   (some false)) := by kernel_rfl
theorem spec_l01Write.eq (p : Int) (fu : Nat) : spec_l01Write (fu + 1) p =
  (optB (spec_l01IsPoint fu p) fun r0 =>
  brB (notB r0)
   (spec_l01Write_J3 fu 65533)
   (spec_l01Write_J3 fu p)) := by kernel_rfl
theorem spec_l01Write_J3.eq (p : Int) (fu : Nat) : spec_l01Write_J3 fu p =
  (brB (ltI p 128)
   (some (bytesOf ((wrI .u8 p) :: ([] : List Int))))
   (brB (ltI p 2048)
    (chk (notB (eqI 64 0)) <|
    chk (notB (eqI 64 0)) <|
    some (bytesOf ((wrI .u8 (addI .i64 192 (quoI .i64 p 64))) :: ((wrI .u8 (addI .i64 128 (remI p 64))) :: ([] : List Int)))))
    (brB (ltI p 65536)
     (chk (notB (eqI 4096 0)) <|
     chk (notB (eqI 64 0)) <|
     chk (notB (eqI 64 0)) <|
     chk (notB (eqI 64 0)) <|
     some (bytesOf ((wrI .u8 (addI .i64 224 (quoI .i64 p 4096))) :: ((wrI .u8 (addI .i64 128 (remI (quoI .i64 p 64) 64))) :: ((wrI .u8 (addI .i64 128 (remI p 64))) :: ([] : List Int))))))
     (chk (notB (eqI 262144 0)) <|
     chk (notB (eqI 4096 0)) <|
     chk (notB (eqI 64 0)) <|
     chk (notB (eqI 64 0)) <|
     chk (notB (eqI 64 0)) <|
     chk (notB (eqI 64 0)) <|
     some (bytesOf ((wrI .u8 (addI .i64 240 (quoI .i64 p 262144))) :: ((wrI .u8 (addI .i64 128 (remI (quoI .i64 p 4096) 64))) :: ((wrI .u8 (addI .i64 128 (remI (quoI .i64 p 64) 64))) :: ((wrI .u8 (addI .i64 128 (remI p 64))) :: ([] : List Int)))))))))) := by unfold spec_l01Write_J3; rw [joinAt_eq]; kernel_rfl
end Go.Proofs.YtkghicadebeceaaDoor.RE
