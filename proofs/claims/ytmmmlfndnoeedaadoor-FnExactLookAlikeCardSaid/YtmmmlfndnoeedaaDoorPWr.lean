/- Points written, by both sides; what is written is well written. -/
import Derived.Test.YtmmmlfndnoeedaaDoorPRows
import Derived.Test.YtmmmlfndnoeedaaDoorPDec
import Derived.Lib.ValidLaws
namespace Go.Proofs.YtmmmlfndnoeedaaDoor.IX
open Go.Eng Go.RowKit
set_option linter.unusedVariables false
set_option linter.unusedSimpArgs false
/-- the bytes of a point -/
def wrN (p : Nat) : List Nat :=
  if p < 128 then [p] else if p < 2048 then [192 + p / 64, 128 + p % 64] else if p < 65536 then [224 + p / 4096, 128 + p / 64 % 64, 128 + p % 64]
  else [240 + p / 262144, 128 + p / 4096 % 64, 128 + p / 64 % 64, 128 + p % 64]
def ptN (p : Nat) : Nat := if isPoint p = true then p else 65533
theorem ptN_pt (p : Nat) : isPoint (ptN p) = true := by
  unfold ptN
  by_cases h : isPoint p = true
  · rw [if_pos h]; exact h
  · rw [if_neg h]; decide
theorem isPoint_le {p : Nat} (h : isPoint p = true) : p ≤ 1114111 ∧ (p < 55296 ∨ 57343 < p) := by
  unfold isPoint at h
  simpa using h
theorem wrN_lt {p : Nat} (h : isPoint p = true) : (∀ b ∈ wrN p, b < 256) ∧ 1 ≤ (wrN p).length ∧ (wrN p).length ≤ 4 := by
  have hp := (isPoint_le h).1
  unfold wrN
  repeat' split
  all_goals refine ⟨fun b hb => ?_, by simp, by simp⟩
  all_goals simp only [List.mem_cons, List.not_mem_nil, or_false] at hb
  · omega
  · rcases hb with rfl | rfl <;> omega
  · rcases hb with rfl | rfl | rfl <;> omega
  · rcases hb with rfl | rfl | rfl | rfl <;> omega
/-- a point that is written, as numbers -/
def wri (p : Int) : List Int := (wrN (ptN p.toNat)).map fun b : Nat => (b : Int)
def txL (l : List Int) : List Int := l.flatMap wri
def txt (l : List Int) : ByteArray := bytesOf (txL l)
theorem wri_len (p : Int) : 1 ≤ (wri p).length ∧ (wri p).length ≤ 4 := by
  unfold wri
  rw [List.length_map]
  exact (wrN_lt (ptN_pt _)).2
theorem txL_len (l : List Int) : (txL l).length ≤ 4 * l.length := by
  induction l with
  | nil => simp [txL]
  | cons x l ih =>
    have := (wri_len x).2
    unfold txL at ih ⊢
    rw [List.flatMap_cons, List.length_append, List.length_cons]
    omega
theorem wri_byte (p : Int) : ∀ b ∈ wri p, 0 ≤ b ∧ b < 256 := fun b hb => by
  obtain ⟨n, hn, rfl⟩ := List.mem_map.1 hb
  have := (wrN_lt (ptN_pt p.toNat)).1 n hn
  omega
theorem nums_bytes : ∀ (l : List Int), (∀ b ∈ l, 0 ≤ b ∧ b < 256) → numsOf (bytesOf l) = l
  | [], _ => rfl
  | x :: l, h => by
    have ih := nums_bytes l fun b hb => h b (List.mem_cons_of_mem _ hb)
    have hx := h x List.mem_cons_self
    unfold numsOf bytesOf at ih ⊢
    simp only [List.map_cons] at ih ⊢
    rw [ih]
    congr 1
    have : x.toNat < 256 := by omega
    rw [UInt8.toNat_ofNat']
    omega
theorem wr8 {n : Nat} (h : n < 256) : wrI .u8 (n : Int) = (n : Int) := by
  rw [wrI_eq, IntKind.wrap_u8]; omega
/-! ### the reference -/
theorem specW (q : Nat) (hq : q ≤ 1114111) : Ev (fun k => spec_l01Write_J3 k (q : Int)) (bytesOf ((wrN q).map fun b : Nat => (b : Int))) := by
  have e := fun k => spec_l01Write_J3.eq (q : Int) k
  have h1 := quo_nat q 64 (by omega)
  have h2 := rem_nat q 64
  have h3 := quo_nat q 4096 (by omega)
  have h4 := rem_nat (q / 64) 64
  have h5 := quo_nat q 262144 (by omega)
  have h6 := rem_nat (q / 4096) 64
  have a1 := add_nat 192 (q / 64) (by omega) (by omega)
  have a2 := add_nat 128 (q % 64) (by omega) (by omega)
  have a3 := add_nat 224 (q / 4096) (by omega) (by omega)
  have a4 := add_nat 128 (q / 64 % 64) (by omega) (by omega)
  have a5 := add_nat 240 (q / 262144) (by omega) (by omega)
  have a6 := add_nat 128 (q / 4096 % 64) (by omega) (by omega)
  simp only [clit] at h1 h2 h3 h4 h5 h6 a1 a2 a3 a4 a5 a6
  simp only [W, W1, h1, h2, h3, h4, h5, h6, a1, a2, a3, a4, a5, a6, if_neg (show ¬ (64 : Int) = 0 by omega), if_neg (show ¬ (4096 : Int) = 0 by omega), if_neg (show ¬ (262144 : Int) = 0 by omega)] at e
  refine Ev.congr e ?_
  unfold wrN
  by_cases c1 : q < 128
  · simp only [if_pos c1, if_pos (show (q : Int) < 128 by omega), wr8 (show q < 256 by omega)]; exact Ev.now _
  by_cases c2 : q < 2048
  · simp only [if_neg c1, if_pos c2, if_neg (show ¬ (q : Int) < 128 by omega), if_pos (show (q : Int) < 2048 by omega), wr8 (show 192 + q / 64 < 256 by omega), wr8 (show 128 + q % 64 < 256 by omega)]; exact Ev.now _
  by_cases c3 : q < 65536
  · simp only [if_neg c1, if_neg c2, if_pos c3, if_neg (show ¬ (q : Int) < 128 by omega), if_neg (show ¬ (q : Int) < 2048 by omega), if_pos (show (q : Int) < 65536 by omega), wr8 (show 224 + q / 4096 < 256 by omega), wr8 (show 128 + q / 64 % 64 < 256 by omega), wr8 (show 128 + q % 64 < 256 by omega)]; exact Ev.now _
  · simp only [if_neg c1, if_neg c2, if_neg c3, if_neg (show ¬ (q : Int) < 128 by omega), if_neg (show ¬ (q : Int) < 2048 by omega), if_neg (show ¬ (q : Int) < 65536 by omega), wr8 (show 240 + q / 262144 < 256 by omega), wr8 (show 128 + q / 4096 % 64 < 256 by omega), wr8 (show 128 + q / 64 % 64 < 256 by omega), wr8 (show 128 + q % 64 < 256 by omega)]; exact Ev.now _
theorem specWrite {p : Int} (h : Pt p) : Ev (fun k => spec_l01Write k p) (bytesOf (wri p)) := by
  obtain ⟨n, rfl⟩ : ∃ n : Nat, p = (n : Int) := ⟨p.toNat, by unfold Pt at h; omega⟩
  unfold Pt at h
  have e := fun k => spec_l01Write.eq (n : Int) k
  simp only [W, W1, W3] at e
  refine Ev.step e (Ev.bind (point_ev n) ?_)
  unfold wri ptN
  rw [Int.toNat_natCast]
  by_cases c : isPoint n = true
  · simp only [c, W1, if_true]
    exact specW n (by omega)
  · have c' : isPoint n = false := by simpa using c
    simp only [c', W1]
    rw [if_neg (by simp)]
    exact specW 65533 (by omega)
theorem specTxt_loop (l : List Int) (hl : l.length ≤ 134217728) (hp : ∀ x ∈ l, Pt x) : ∀ (suf pre out : List Int), l = pre ++ suf → out.length ≤ 4 * pre.length → Ev2 (fun k j => spec_l01Text_L3 k j l (pre.length : Int) out) (bytesOf (out ++ txL suf))
  | [], pre, out, hs, ho => by
    refine Ev2.ret fun k j => ?_
    rw [spec_l01Text_L3.eq, hs]
    simp only [W, W1, W2]
    rw [if_neg (end_nlt pre)]
    simp [txL]
  | p :: suf, pre, out, hs, ho => by
    have hle : pre.length + 1 ≤ l.length := by rw [hs]; simp
    have hr : rd l (pre.length : Int) 0 = p := by rw [hs]; exact rd_mid pre suf p _
    have hw := wri_len p
    have e := fun k j => spec_l01Text_L3.eq l (pre.length : Int) out k j
    simp only [W, W1, W2, W3, hr, if_pos (nat_ge _), if_pos (show (pre.length : Int) < (l.length : Int) by omega), next_i pre p (by omega)] at e
    refine Ev2.step e (Ev2.bind (specWrite (hp p (by rw [hs]; simp))) ?_)
    rw [nums_bytes _ (wri_byte p)]
    simp only [if_pos (show (((out.length : Nat) : Int) + (((wri p).length : Nat) : Int)) * 1 < 140737488355328 by omega)]
    have := specTxt_loop l hl hp suf (pre ++ [p]) (out ++ wri p) (by rw [hs]; simp) (by simp; omega)
    simpa [txL] using this
theorem specTxt (l : List Int) (hl : l.length ≤ 134217728) (hp : ∀ x ∈ l, Pt x) : Ev (fun k => spec_l01Text k l) (txt l) := by
  have := specTxt_loop l hl hp l [] [] rfl (by simp)
  exact Ev.step (fun k => spec_l01Text.eq l k) this.ev
/-! ### the program -/
set_option maxRecDepth 100000 in
theorem bits_or : (∀ x : Fin 32, IntKind.u8.wrap (BitVec.ofInt IntKind.u8.bits 192 ||| BitVec.ofInt IntKind.u8.bits ((x.val : Nat) : Int)).toNat = ((192 + x.val : Nat) : Int)) ∧ (∀ x : Fin 16, IntKind.u8.wrap (BitVec.ofInt IntKind.u8.bits 224 ||| BitVec.ofInt IntKind.u8.bits ((x.val : Nat) : Int)).toNat = ((224 + x.val : Nat) : Int)) ∧
    (∀ x : Fin 8, IntKind.u8.wrap (BitVec.ofInt IntKind.u8.bits 240 ||| BitVec.ofInt IntKind.u8.bits ((x.val : Nat) : Int)).toNat = ((240 + x.val : Nat) : Int)) ∧ (∀ x : Fin 64, IntKind.u8.wrap (BitVec.ofInt IntKind.u8.bits 128 ||| BitVec.ofInt IntKind.u8.bits ((x.val : Nat) : Int)).toNat = ((128 + x.val : Nat) : Int)) ∧
    (∀ x : Fin 256, IntKind.u8.wrap (BitVec.ofInt IntKind.u8.bits ((x.val : Nat) : Int) &&& BitVec.ofInt IntKind.u8.bits 63).toNat = ((x.val % 64 : Nat) : Int)) := by decide +kernel
theorem or192 {n : Nat} (h : n < 32) : orI .u8 192 (n : Int) = ((192 + n : Nat) : Int) := by rw [orI_eq]; exact bits_or.1 ⟨n, h⟩
theorem or224 {n : Nat} (h : n < 16) : orI .u8 224 (n : Int) = ((224 + n : Nat) : Int) := by rw [orI_eq]; exact bits_or.2.1 ⟨n, h⟩
theorem or240 {n : Nat} (h : n < 8) : orI .u8 240 (n : Int) = ((240 + n : Nat) : Int) := by rw [orI_eq]; exact bits_or.2.2.1 ⟨n, h⟩
theorem or128 {n : Nat} (h : n < 64) : orI .u8 128 (n : Int) = ((128 + n : Nat) : Int) := by rw [orI_eq]; exact bits_or.2.2.2.1 ⟨n, h⟩
theorem and63 {n : Nat} (h : n < 256) : andI .u8 (n : Int) 63 = ((n % 64 : Nat) : Int) := by rw [andI_eq]; exact bits_or.2.2.2.2 ⟨n, h⟩
theorem wr8m (n : Nat) : wrI .u8 (n : Int) = ((n % 256 : Nat) : Int) := by rw [wrI_eq, IntKind.wrap_u8]; omega
theorem shr_nat (n b : Nat) (hb : b < 32) : shrI .i32 (n : Int) (b : Int) = ((n / 2 ^ b : Nat) : Int) := by
  rw [shrI_eq, Int.toNat_natCast, show min b IntKind.i32.bits = b from Nat.min_eq_left (by show b ≤ 32; omega)]
  rw [Int.fdiv_eq_ediv_of_nonneg _ (Int.le_of_lt (Int.pow_pos (by omega)))]
  simp
theorem implApp (q : Nat) (hq : isPoint q = true) (b : List Int) (hb : b.length ≤ 1073741824) : Ev (fun k => unicode_utf8_AppendRune k (q : Int) b) (b ++ (wrN q).map (fun x : Nat => (x : Int)), ()) := by
  obtain ⟨hp, hs⟩ := isPoint_le hq
  have e := fun k => unicode_utf8_AppendRune.eq (q : Int) b k
  have hu : wrI .u32 (q : Int) = (q : Int) := by rw [wrI_eq, IntKind.wrap_u32]; omega
  simp only [W, W1, W2, W3, hu, wr8m, List.length_singleton, if_pos (show (((b.length : Nat) : Int) + ((1 : Nat) : Int)) * 1 < 140737488355328 by omega)] at e
  unfold wrN
  by_cases c1 : q < 128
  · simp only [if_pos (show (q : Int) ≤ 127 by omega)] at e
    rw [if_pos c1]
    rw [show q % 256 = q by omega] at e
    exact Ev.step e (Ev.now _)
  simp only [if_neg (show ¬ (q : Int) ≤ 127 by omega)] at e
  rw [if_neg c1]
  have e2 := fun k => unicode_utf8_appendRuneNonASCII.eq (q : Int) b k
  have s6 := shr_nat q 6 (by omega)
  have s12 := shr_nat q 12 (by omega)
  have s18 := shr_nat q 18 (by omega)
  simp only [clit, Nat.reducePow] at s6 s12 s18
  have o4 : orI .u8 128 (andI .u8 ((q % 256 : Nat) : Int) 63) = ((128 + q % 64 : Nat) : Int) := by
    rw [and63 (by omega), show q % 256 % 64 = q % 64 by omega, or128 (by omega)]
  have o5 : orI .u8 128 (andI .u8 ((q / 64 % 256 : Nat) : Int) 63) = ((128 + q / 64 % 64 : Nat) : Int) := by
    rw [and63 (by omega), show q / 64 % 256 % 64 = q / 64 % 64 by omega, or128 (by omega)]
  have o6 : orI .u8 128 (andI .u8 ((q / 4096 % 256 : Nat) : Int) 63) = ((128 + q / 4096 % 64 : Nat) : Int) := by
    rw [and63 (by omega), show q / 4096 % 256 % 64 = q / 4096 % 64 by omega, or128 (by omega)]
  simp only [W, W1, W2, hu, s6, wr8m, o4, List.length_cons, List.length_nil, if_pos (show (0 : Int) ≤ 6 by omega), if_pos (show (((b.length : Nat) : Int) + ((0 + 1 + 1 : Nat) : Int)) * 1 < 140737488355328 by omega)] at e2
  by_cases c2 : q < 2048
  · simp only [if_pos (show (q : Int) ≤ 2047 by omega)] at e2
    rw [show q / 64 % 256 = q / 64 by omega, or192 (show q / 64 < 32 by omega)] at e2
    rw [if_pos c2]
    exact Ev.step e (Ev.bind (Ev.step e2 (Ev.now _)) (Ev.now _))
  simp only [if_neg (show ¬ (q : Int) ≤ 2047 by omega)] at e2
  rw [if_neg c2]
  have e3 := fun (x : Bool) k => unicode_utf8_appendRuneNonASCII_J7.eq (q : Int) (q : Int) x b k
  simp only [W, W1, W2, s6, s12, s18, wr8m, o4, o5, o6, List.length_cons, List.length_nil, if_pos (show (0 : Int) ≤ 6 by omega), if_pos (show (0 : Int) ≤ 12 by omega), if_pos (show (0 : Int) ≤ 18 by omega),
    if_pos (show (((b.length : Nat) : Int) + ((0 + 1 + 1 + 1 : Nat) : Int)) * 1 < 140737488355328 by omega), if_pos (show (((b.length : Nat) : Int) + ((0 + 1 + 1 + 1 + 1 : Nat) : Int)) * 1 < 140737488355328 by omega)] at e3
  by_cases c3 : q < 65536
  · rw [if_pos c3]
    have j : Ev (fun k => unicode_utf8_appendRuneNonASCII_J7 k (q : Int) (q : Int) true b) (b ++ [224 + q / 4096, 128 + q / 64 % 64, 128 + q % 64].map (fun x : Nat => (x : Int)), ()) := by
      have e4 := e3 true
      simp only [W1] at e4
      rw [show q / 4096 % 256 = q / 4096 by omega, or224 (show q / 4096 < 16 by omega)] at e4
      exact Ev.congr e4 (Ev.now _)
    refine Ev.step e (Ev.bind (Ev.step e2 (r := (b ++ [224 + q / 4096, 128 + q / 64 % 64, 128 + q % 64].map (fun x : Nat => (x : Int)), ())) ?_) (Ev.now _))
    by_cases d : q < 55296
    · simp only [if_pos (show (q : Int) < 55296 by omega), decide_eq_true (show (q : Int) < 55296 by omega)]; exact j
    · simp only [if_neg (show ¬ (q : Int) < 55296 by omega), if_pos (show (57343 : Int) < (q : Int) by omega), decide_eq_true (show (q : Int) ≤ 65535 by omega)]; exact j
  · rw [if_neg c3]
    refine Ev.step e (Ev.bind (Ev.step e2 (r := (b ++ [240 + q / 262144, 128 + q / 4096 % 64, 128 + q / 64 % 64, 128 + q % 64].map (fun x : Nat => (x : Int)), ())) ?_) (Ev.now _))
    simp only [if_neg (show ¬ (q : Int) < 55296 by omega), if_pos (show (57343 : Int) < (q : Int) by omega), decide_eq_false (show ¬ (q : Int) ≤ 65535 by omega)]
    have e4 := e3 false
    simp only [W1, if_pos (show (65535 : Int) < (q : Int) by omega), if_pos (show (q : Int) ≤ 1114111 by omega)] at e4
    rw [show q / 262144 % 256 = q / 262144 by omega, or240 (show q / 262144 < 8 by omega)] at e4
    exact Ev.congr e4 (Ev.now _)
theorem implPt (n : Nat) : Ev (fun k => impl_isPoint k (n : Int)) (isPoint n) := by
  refine Ev.ret fun k => ?_
  rw [impl_isPoint.eq]
  simp only [W, W1]
  unfold isPoint
  rw [if_pos (show (0 : Int) ≤ (n : Int) by omega)]
  by_cases c1 : n ≤ 1114111
  · rw [if_pos (show (n : Int) ≤ 1114111 by omega)]
    by_cases c2 : n < 55296
    · rw [if_pos (show (n : Int) < 55296 by omega)]; simp [c1, c2]
    · rw [if_neg (show ¬ (n : Int) < 55296 by omega)]
      simp only [c1, c2, decide_true, decide_false, Bool.true_and, Bool.false_or]
      congr 1
      exact decide_eq_decide.2 ⟨fun h => by omega, fun h => by omega⟩
  · rw [if_neg (show ¬ (n : Int) ≤ 1114111 by omega)]; simp [c1]
theorem implWrite_loop (l : List Int) (hl : l.length ≤ 134217728) (hp : ∀ x ∈ l, Pt x) : ∀ (suf pre b : List Int), l = pre ++ suf → b.length ≤ 4 * pre.length → Ev2 (fun k j => impl_write_L3 k j l (l.length : Int) (pre.length : Int) b) (bytesOf (b ++ txL suf))
  | [], pre, b, hs, ho => by
    refine Ev2.ret fun k j => ?_
    rw [impl_write_L3.eq, hs]
    simp only [W, W1]
    rw [if_neg (end_nlt pre)]
    simp [txL]
  | p :: suf, pre, b, hs, ho => by
    have hle : pre.length + 1 ≤ l.length := by rw [hs]; simp
    have hr : rd l (pre.length : Int) 0 = p := by rw [hs]; exact rd_mid pre suf p _
    have hpp := hp p (by rw [hs]; simp)
    obtain ⟨n, rfl⟩ : ∃ n : Nat, p = (n : Int) := ⟨p.toNat, by unfold Pt at hpp; omega⟩
    unfold Pt at hpp
    have hw := wri_len (n : Int)
    have e := fun k j => impl_write_L3.eq l (l.length : Int) (pre.length : Int) b k j
    have w1 : wrI .i32 65533 = ((65533 : Nat) : Int) := by rw [wrI_eq, IntKind.wrap_i32]; rfl
    have w2 : wrI .i32 (n : Int) = (n : Int) := by rw [wrI_eq, IntKind.wrap_i32]; omega
    simp only [W, W1, W2, W3, hr, w1, w2, if_pos (nat_ge _), if_pos (show (pre.length : Int) < (l.length : Int) by omega), next_i pre (n : Int) (by omega)] at e
    refine Ev2.step e (Ev2.bind (implPt n) ?_)
    have ih := implWrite_loop l hl hp suf (pre ++ [(n : Int)]) (b ++ wri (n : Int)) (by rw [hs]; simp) (by simp; omega)
    have ew : wri (n : Int) = (wrN (ptN n)).map (fun x : Nat => (x : Int)) := by unfold wri; rw [Int.toNat_natCast]
    have et : b ++ txL ((n : Int) :: suf) = b ++ wri (n : Int) ++ txL suf := by simp [txL]
    rw [et]
    by_cases c : isPoint n = true
    · simp only [c, W1]
      refine Ev2.bind (implApp n c b (by omega)) ?_
      have : ptN n = n := if_pos c
      rw [ew, this] at ih ⊢
      exact ih
    · have c' : isPoint n = false := by simpa using c
      simp only [c', W1]
      refine Ev2.bind (implApp 65533 (by decide) b (by omega)) ?_
      have : ptN n = 65533 := if_neg c
      rw [ew, this] at ih ⊢
      exact ih
theorem implWrite (l : List Int) (hl : l.length ≤ 134217728) (hp : ∀ x ∈ l, Pt x) : Ev (fun k => impl_write k l) (txt l) := by
  have := implWrite_loop l hl hp l [] [] rfl (by simp)
  have e := fun k => impl_write.eq l k
  simp only [W2] at e
  exact Ev.step e this.ev
/-! ### well written -/
theorem dec_wrN {p : Nat} (h : isPoint p = true) (n : Nat) (hn : (wrN p).length ≤ n) (b : Nat → Nat) (hb : ∀ i, i < (wrN p).length → b i = (wrN p).getD i 0) : Lib.decodeN n (b 0) (b 1) (b 2) (b 3) = (p, (wrN p).length) := by
  obtain ⟨h1, h2⟩ := isPoint_le h
  unfold wrN at hn hb ⊢
  by_cases c1 : p < 128
  · rw [if_pos c1] at hn hb ⊢
    have e0 : b 0 = p := hb 0 (by simp)
    rw [e0]
    exact if_pos c1
  by_cases c2 : p < 2048
  · rw [if_neg c1, if_pos c2] at hn hb ⊢
    have e0 : b 0 = 192 + p / 64 := hb 0 (by simp)
    have e1 : b 1 = 128 + p % 64 := hb 1 (by simp)
    simp only [List.length_cons, List.length_nil] at hn ⊢
    rw [e0, e1]
    unfold Lib.decodeN
    rw [if_neg (by omega), if_pos ⟨by omega, by omega, by omega⟩, if_pos (by omega)]
    congr 1
    omega
  by_cases c3 : p < 65536
  · rw [if_neg c1, if_neg c2, if_pos c3] at hn hb ⊢
    have e0 : b 0 = 224 + p / 4096 := hb 0 (by simp)
    have e1 : b 1 = 128 + p / 64 % 64 := hb 1 (by simp)
    have e2 : b 2 = 128 + p % 64 := hb 2 (by simp)
    simp only [List.length_cons, List.length_nil] at hn ⊢
    rw [e0, e1, e2]
    unfold Lib.decodeN
    have ev : (224 + p / 4096) % 16 * 4096 + (128 + p / 64 % 64) % 64 * 64 + (128 + p % 64) % 64 = p := by omega
    rw [if_neg (by omega), if_neg (by omega), if_pos ⟨by omega, ⟨by omega, by omega⟩, ⟨by omega, by omega⟩⟩, ev, if_pos (by omega)]
  · rw [if_neg c1, if_neg c2, if_neg c3] at hn hb ⊢
    have e0 : b 0 = 240 + p / 262144 := hb 0 (by simp)
    have e1 : b 1 = 128 + p / 4096 % 64 := hb 1 (by simp)
    have e2 : b 2 = 128 + p / 64 % 64 := hb 2 (by simp)
    have e3 : b 3 = 128 + p % 64 := hb 3 (by simp)
    simp only [List.length_cons, List.length_nil] at hn ⊢
    rw [e0, e1, e2, e3]
    unfold Lib.decodeN
    have ev : (240 + p / 262144) % 8 * 262144 + (128 + p / 4096 % 64) % 64 * 4096 + (128 + p / 64 % 64) % 64 * 64 + (128 + p % 64) % 64 = p := by omega
    rw [if_neg (by omega), if_neg (by omega), if_neg (by omega), if_pos ⟨by omega, ⟨by omega, by omega⟩, ⟨by omega, by omega⟩, ⟨by omega, by omega⟩⟩, ev, if_pos (by omega)]
/-- the bytes of a point, then others: it is read again -/
theorem decodeL_wr {p : Nat} (h : isPoint p = true) (r : List UInt8) : Lib.decodeL ((wrN p).map UInt8.ofNat ++ r) = (p, (wrN p).length) := by
  obtain ⟨h1, h2, h3⟩ := wrN_lt h
  rw [Lib.decodeL_N]
  refine dec_wrN h _ (by simp) (fun i => (((wrN p).map UInt8.ofNat ++ r).getD i 0).toNat) fun i hi => ?_
  have hi' : i < ((wrN p).map UInt8.ofNat).length := by simpa using hi
  simp only [List.getD, List.getElem?_append_left hi', List.getElem?_map, List.getElem?_eq_getElem hi, Option.map_some, Option.getD_some]
  rw [UInt8.toNat_ofNat']
  have := h1 _ (List.getElem_mem hi)
  omega
theorem bytes_wri (l : List Int) : (txt l).data.toList = l.flatMap fun p => (wrN (ptN p.toNat)).map UInt8.ofNat := by
  show (List.map (fun n : Int => UInt8.ofNat n.toNat) (txL l)).toArray.toList = _
  rw [List.toList_toArray]
  unfold txL wri
  rw [List.map_flatMap]
  congr 1
  funext p
  rw [List.map_map]
  rfl
theorem valid_txt (l : List Int) : Lib.validD (txt l).data.toList = true := by
  rw [bytes_wri]
  induction l with
  | nil => rfl
  | cons p l ih =>
    rw [List.flatMap_cons]
    have hp := ptN_pt p.toNat
    have hne : (wrN (ptN p.toNat)).map UInt8.ofNat ++ (l.flatMap fun p => (wrN (ptN p.toNat)).map UInt8.ofNat) ≠ [] := by
      have := (wrN_lt hp).2.1
      intro h
      have h0 := List.map_eq_nil_iff.1 (List.append_eq_nil_iff.1 h).1
      rw [h0] at this
      simp at this
    rw [Lib.validD_step _ hne, decodeL_wr hp]
    have hw : ¬ (ptN p.toNat = 65533 ∧ (wrN (ptN p.toNat)).length = 1) := by
      rintro ⟨h1, h2⟩
      rw [h1] at h2
      exact absurd h2 (by decide)
    rw [if_neg hw]
    simpa using ih
end Go.Proofs.YtmmmlfndnoeedaaDoor.IX
