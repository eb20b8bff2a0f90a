/- The evaluator: the loaded code over pure values. No proofs here but small ones. The evaluator, second part: operations, regions, code, functions. -/
import Derived.Calls
import Derived.Orders
namespace Go.Eng

/-! ### kinds of cells, rows of elements -/
mutual
inductive CT where
  | int (k : IntKind) | bool | str | row (e : CTs)
inductive CTs where
  | one (c : CT) | cons (c : CT) (cs : CTs)
end
mutual
def CT.D : CT → Type
  | .int _ => Int
  | .bool => Bool
  | .str => ByteArray
  | .row e => List (CTs.D e)
def CTs.D : CTs → Type
  | .one c => CT.D c
  | .cons c cs => CT.D c × CTs.D cs
end
mutual
def CT.same : CT → CT → Bool
  | .int k, .int k' => decide (k = k')
  | .bool, .bool => true
  | .str, .str => true
  | .row e, .row e' => CTs.same e e'
  | _, _ => false
def CTs.same : CTs → CTs → Bool
  | .one c, .one c' => CT.same c c'
  | .cons c cs, .cons c' cs' => CT.same c c' && CTs.same cs cs'
  | _, _ => false
end
mutual
theorem CT.eq_of_same : ∀ (a b : CT), CT.same a b = true → a = b
  | .int k, .int k', h => by simp [CT.same] at h; rw [h]
  | .bool, .bool, _ => rfl
  | .str, .str, _ => rfl
  | .row e, .row e', h => by simp [CT.same] at h; rw [CTs.eq_of_same e e' h]
  | .int _, .bool, h => by simp [CT.same] at h
  | .int _, .str, h => by simp [CT.same] at h
  | .int _, .row _, h => by simp [CT.same] at h
  | .bool, .int _, h => by simp [CT.same] at h
  | .bool, .str, h => by simp [CT.same] at h
  | .bool, .row _, h => by simp [CT.same] at h
  | .str, .int _, h => by simp [CT.same] at h
  | .str, .bool, h => by simp [CT.same] at h
  | .str, .row _, h => by simp [CT.same] at h
  | .row _, .int _, h => by simp [CT.same] at h
  | .row _, .bool, h => by simp [CT.same] at h
  | .row _, .str, h => by simp [CT.same] at h
theorem CTs.eq_of_same : ∀ (a b : CTs), CTs.same a b = true → a = b
  | .one c, .one c', h => by simp [CTs.same] at h; rw [CT.eq_of_same c c' h]
  | .cons c cs, .cons c' cs', h => by simp [CTs.same] at h; rw [CT.eq_of_same c c' h.1, CTs.eq_of_same cs cs' h.2]
  | .one _, .cons _ _, h => by simp [CTs.same] at h
  | .cons _ _, .one _, h => by simp [CTs.same] at h
end
def CTs.cast {a b : CTs} (h : CTs.same a b = true) (xs : List a.D) : List b.D := CTs.eq_of_same a b h ▸ xs
def CTs.size : CTs → Nat
  | .one _ => 1
  | .cons _ cs => cs.size + 1
def CT.zero : (c : CT) → c.D
  | .int _ => (0 : Int)
  | .bool => false
  | .str => (⟨#[]⟩ : ByteArray)
  | .row e => ([] : List e.D)
def CTs.zero : (e : CTs) → e.D
  | .one c => c.zero
  | .cons c cs => (c.zero, cs.zero)

/-! ### values -/
/-- what is known of nil -/
inductive NI where | unk | is (b : Bool)
/-- a place of a row of rows: it itself, the address of a row, a row, the address of an element; a box's cells as a slice -/
inductive MP where | all | adr (i : Int) | row (i : Int) | cel (i j : Int) | bsl (n : Nat)
def MP.loose : MP → Bool
  | .row _ => true
  | .cel _ _ => true
  | _ => false
/-- under this name what lies in the rows of id goes -/
@[irreducible] def gho (id : Nat) : Nat := id + 300
inductive V where
  | un
  | int (k : IntKind) (n : Int)
  | bool (b : Bool)
  | str (s : ByteArray)
  | nil
  | pnil
  | ro (e : CTs) (xs : List (CTs.D e))
  | rn (e : CTs) (xs : List (CTs.D e))
  | rc (i : Nat) (e : CTs) (xs : List (CTs.D e))
  | roel (e : CTs) (x : CTs.D e) (off : Nat)
  | own (id : Nat)
  | sub (id : Nat) (lo hi : Int)
  | el (id : Nat) (i : Int) (off : Nat)
  | box (id : Nat) (off : Nat)
  | agg (vs : List V)
  | tup (vs : List V)
  | fn (f : Nat) (first cap : List V)
  | cst (c : Value)
  | mt (id : Nat) (p : MP)
instance : Inhabited V := ⟨.un⟩
inductive O where
  | row (nl : NI) (e : CTs) (xs : List (CTs.D e))
  | box (cs : List V)
  | bld (s : ByteArray)
  | mat (c : CT) (xss : List (List c.D))
abbrev Ob := Nat → Option O
def upd (ob : Ob) (id : Nat) (o : Option O) : Ob := fun j => bif Nat.beq j id then o else ob j

/-- a slice that the run was begun with, as one that is read only -/
def V.unrc : V → V
  | .rc _ e xs => .ro e xs
  | v => v
def CT.toV : (c : CT) → c.D → V
  | .int k, n => .int k n
  | .bool, b => .bool b
  | .str, s => .str s
  | .row e, xs => .ro e xs
def CTs.cellV : (e : CTs) → e.D → Nat → V
  | .one c, x, 0 => c.toV x
  | .one _, _, _ + 1 => .un
  | .cons c _, x, 0 => c.toV x.1
  | .cons _ cs, x, j + 1 => cs.cellV x.2 j
/-- n cells from the j-th on -/
def CTs.cellsV (e : CTs) (x : e.D) (j : Nat) : Nat → List V
  | 0 => []
  | n + 1 => e.cellV x j :: e.cellsV x (j + 1) n
def CT.ofV : (c : CT) → V → Option c.D
  | .int k, .int k' n => if k = k' then some n else none
  | .bool, .bool b => some b
  | .str, .str s => some s
  | .row e, .nil => some ([] : List e.D)
  | _, _ => none
def CTs.setV : (e : CTs) → e.D → Nat → V → Option e.D
  | .one c, _, 0, v => c.ofV v
  | .one _, _, _ + 1, _ => none
  | .cons c _, x, 0, v => (c.ofV v).map fun d => (d, x.2)
  | .cons _ cs, x, j + 1, v => (cs.setV x.2 j v).map fun d => (x.1, d)
def CTs.ofVs : (e : CTs) → List V → Option e.D
  | .one c, [v] => c.ofV v
  | .cons c cs, v :: vs => match c.ofV v, cs.ofVs vs with
    | some d, some ds => some (d, ds)
    | _, _ => none
  | _, _ => none
def CTs.setsV (e : CTs) (x : e.D) (j : Nat) : List V → Option e.D
  | [] => some x
  | v :: vs => (e.setV x j v).bind fun x' => e.setsV x' (j + 1) vs
/-- no cell is a row -/
def CTs.flat : CTs → Bool
  | .one (.row _) => false
  | .one _ => true
  | .cons (.row _) _ => false
  | .cons _ cs => cs.flat
/-- a value that no evaluation looks into -/
theorem shut_ex {α : Type} (a : α) : ∃ x, x = a := ⟨a, rfl⟩
noncomputable def shut {α : Type} (a : α) : α := Classical.choose (shut_ex a)
theorem shut_eq {α : Type} (a : α) : shut a = a := Classical.choose_spec (shut_ex a)
/-- tests and lengths under names of their own: where they are met no evaluation goes on -/
noncomputable def ltI : Int → Int → Bool := shut fun a b => decide (a < b)
theorem ltI_eq (a b : Int) : ltI a b = (decide (a < b)) := by rw [ltI, shut_eq]
noncomputable def leI : Int → Int → Bool := shut fun a b => decide (a ≤ b)
theorem leI_eq (a b : Int) : leI a b = (decide (a ≤ b)) := by rw [leI, shut_eq]
noncomputable def eqI : Int → Int → Bool := shut fun a b => decide (a = b)
theorem eqI_eq (a b : Int) : eqI a b = (decide (a = b)) := by rw [eqI, shut_eq]
def leN (a b : Nat) : Bool := decide (a ≤ b)
def ltN (a b : Nat) : Bool := decide (a < b)
def ln {α : Type} (xs : List α) : Int := (xs.length : Int)
def sz (s : ByteArray) : Int := (s.size : Int)
def subs (s : ByteArray) (l h : Int) : ByteArray := s.extract l.toNat h.toNat
noncomputable def strLess : ByteArray → ByteArray → Bool := shut fun a b => Op.bytesLess a.toList b.toList
theorem strLess_eq (a b : ByteArray) : strLess a b = (Op.bytesLess a.toList b.toList) := by rw [strLess, shut_eq]
noncomputable def bytesEq : ByteArray → ByteArray → Bool := shut fun a b => a.toList == b.toList
theorem bytesEq_eq (a b : ByteArray) : bytesEq a b = (a.toList == b.toList) := by rw [bytesEq, shut_eq]
def takeI {α : Type} (xs : List α) (n : Int) : List α := xs.take n.toNat
def dropI {α : Type} (xs : List α) (n : Int) : List α := xs.drop n.toNat
def setI {α : Type} (xs : List α) (i : Int) (x : α) : List α := xs.set i.toNat x
def repI {α : Type} (n : Int) (z : α) : List α := List.replicate n.toNat z
def catL {α : Type} (xs ys : List α) : List α := xs ++ ys
def catS (a b : ByteArray) : ByteArray := a ++ b
noncomputable def maxI : Int → Int → Int := shut fun a b => if a < b then b else a
theorem maxI_eq (a b : Int) : maxI a b = (if a < b then b else a) := by rw [maxI, shut_eq]
noncomputable def minI : Int → Int → Int := shut fun a b => if b < a then b else a
theorem minI_eq (a b : Int) : minI a b = (if b < a then b else a) := by rw [minI, shut_eq]
noncomputable def shlI : IntKind → Int → Int → Int := shut fun k a b => k.wrap (a * 2 ^ (min b.toNat k.bits))
theorem shlI_eq (k : IntKind) (a b : Int) : shlI k a b = (k.wrap (a * 2 ^ (min b.toNat k.bits))) := by rw [shlI, shut_eq]
noncomputable def shrI : IntKind → Int → Int → Int := shut fun k a b => a.fdiv (2 ^ (min b.toNat k.bits))
theorem shrI_eq (k : IntKind) (a b : Int) : shrI k a b = (a.fdiv (2 ^ (min b.toNat k.bits))) := by rw [shrI, shut_eq]
noncomputable def andI : IntKind → Int → Int → Int := shut fun k a b => k.wrap (BitVec.ofInt k.bits a &&& BitVec.ofInt k.bits b).toNat
theorem andI_eq (k : IntKind) (a b : Int) : andI k a b = (k.wrap (BitVec.ofInt k.bits a &&& BitVec.ofInt k.bits b).toNat) := by rw [andI, shut_eq]
noncomputable def orI : IntKind → Int → Int → Int := shut fun k a b => k.wrap (BitVec.ofInt k.bits a ||| BitVec.ofInt k.bits b).toNat
theorem orI_eq (k : IntKind) (a b : Int) : orI k a b = (k.wrap (BitVec.ofInt k.bits a ||| BitVec.ofInt k.bits b).toNat) := by rw [orI, shut_eq]
noncomputable def xorI : IntKind → Int → Int → Int := shut fun k a b => k.wrap (BitVec.ofInt k.bits a ^^^ BitVec.ofInt k.bits b).toNat
theorem xorI_eq (k : IntKind) (a b : Int) : xorI k a b = (k.wrap (BitVec.ofInt k.bits a ^^^ BitVec.ofInt k.bits b).toNat) := by rw [xorI, shut_eq]
noncomputable def andNotI : IntKind → Int → Int → Int := shut fun k a b => k.wrap (BitVec.ofInt k.bits a &&& ~~~ BitVec.ofInt k.bits b).toNat
theorem andNotI_eq (k : IntKind) (a b : Int) : andNotI k a b = (k.wrap (BitVec.ofInt k.bits a &&& ~~~ BitVec.ofInt k.bits b).toNat) := by rw [andNotI, shut_eq]
noncomputable def addI : IntKind → Int → Int → Int := shut fun k a b => k.wrap (a + b)
theorem addI_eq (k : IntKind) (a b : Int) : addI k a b = (k.wrap (a + b)) := by rw [addI, shut_eq]
noncomputable def subI : IntKind → Int → Int → Int := shut fun k a b => k.wrap (a - b)
theorem subI_eq (k : IntKind) (a b : Int) : subI k a b = (k.wrap (a - b)) := by rw [subI, shut_eq]
noncomputable def mulI : IntKind → Int → Int → Int := shut fun k a b => k.wrap (a * b)
theorem mulI_eq (k : IntKind) (a b : Int) : mulI k a b = (k.wrap (a * b)) := by rw [mulI, shut_eq]
noncomputable def quoI : IntKind → Int → Int → Int := shut fun k a b => k.wrap (a.tdiv b)
theorem quoI_eq (k : IntKind) (a b : Int) : quoI k a b = (k.wrap (a.tdiv b)) := by rw [quoI, shut_eq]
noncomputable def remI : Int → Int → Int := shut fun a b => a.tmod b
theorem remI_eq (a b : Int) : remI a b = (a.tmod b) := by rw [remI, shut_eq]
noncomputable def wrI : IntKind → Int → Int := shut fun k a => k.wrap a
theorem wrI_eq (k : IntKind) (a : Int) : wrI k a = (k.wrap a) := by rw [wrI, shut_eq]
noncomputable def mulZ : Int → Int → Int := shut fun a b => a * b
theorem mulZ_eq (a b : Int) : mulZ a b = (a * b) := by rw [mulZ, shut_eq]
noncomputable def addZ : Int → Int → Int := shut fun a b => a + b
theorem addZ_eq (a b : Int) : addZ a b = (a + b) := by rw [addZ, shut_eq]
noncomputable def subZ : Int → Int → Int := shut fun a b => a - b
theorem subZ_eq (a b : Int) : subZ a b = (a - b) := by rw [subZ, shut_eq]
def notB (b : Bool) : Bool := !b
def orB (a b : Bool) : Bool := a || b
def andB (a b : Bool) : Bool := a && b
def eqB (a b : Bool) : Bool := a == b
def rd {α : Type} (xs : List α) (i : Int) (z : α) : α := xs.getD i.toNat z
/-- a byte of a string -/
def bt (s : ByteArray) (i : Int) : Int := ((s.data.toList.getD i.toNat 0).toNat : Int)

def oneC : Value → Bool
  | .agg _ => false
  | .tuple _ => false
  | _ => true
def constV : Value → V
  | .int k n => .int k n
  | .bool b => .bool b
  | .string s => .str s
  | .slice none 0 0 => .nil
  | .pointer none => .pnil
  | .agg cs => .agg (cs.toList.map fun
      | .int k n => .int k n
      | .bool b => .bool b
      | .string s => .str s
      | .slice none 0 0 => .nil
      | .pointer none => .pnil
      | c => bif oneC c then .cst c else .un)
  | c => bif oneC c then .cst c else .un
def V.cells? : V → Option (List V)
  | .agg vs => some vs
  | .un => none
  | .tup _ => none
  | v => some [v]
/-- one cell, for certain -/
def V.solid : V → Bool
  | .agg _ => false
  | .un => false
  | .tup _ => false
  | _ => true

/-! ### effects on the objects -/
inductive Eff (α : Type) : Type 1 where
  | ret (a : α)
  | fail
  | ite (c : Bool) (t e : Eff α)
  | get (id : Nat) (k : O → Eff α)
  | set (id : Nat) (o : Option O) (k : Eff α)
  | new (id : Nat) (o : O) (k : Eff α)
  | opt {β : Type} (x : Option β) (k : β → Eff α)
structure Fp where
  rs : List Nat
  ws : List Nat
  ns : List Nat
/-- a value without what names the object id -/
def V.kill (id : Nat) : V → V
  | .own j => bif Nat.beq j id then .un else .own j
  | .sub j a b => bif Nat.beq j id then .un else .sub j a b
  | .el j i o => bif Nat.beq j id then .un else .el j i o
  | .box j o => bif Nat.beq j id then .un else .box j o
  | .agg vs => .agg (go id vs)
  | .tup vs => .tup (go id vs)
  | .fn f a b => .fn f (go id a) (go id b)
  | .mt j p => bif Nat.beq j id || (p.loose && Nat.beq (gho j) id) then .un else .mt j p
  | v => v
  where go (id : Nat) : List V → List V
  | [] => []
  | v :: vs => v.kill id :: go id vs
def O.kill (id : Nat) : O → O
  | .row nl e xs => .row nl e xs
  | .box cs => .box (V.kill.go id cs)
  | .bld s => .bld s
  | .mat c xss => .mat c xss
def killOb (id : Nat) (ob : Ob) : Ob := fun j => match ob j with
  | some o => some (o.kill id)
  | none => none
def killAll : List Nat → V → V
  | [], v => v
  | id :: ids, v => (killAll ids v).kill id
/-! ### forcing: what is handed on is evaluated first -/
def V.force {ρ : Type} (v : V) (K : V → ρ) : ρ := match v with
  | .un => K .un
  | .int k n => K (.int k n)
  | .bool b => K (.bool b)
  | .str s => K (.str s)
  | .nil => K .nil
  | .pnil => K .pnil
  | .ro e xs => K (.ro e xs)
  | .rn e xs => K (.rn e xs)
  | .rc i e xs => K (.rc i e xs)
  | .roel e x off => K (.roel e x off)
  | .own id => K (.own id)
  | .sub id lo hi => K (.sub id lo hi)
  | .el id i off => K (.el id i off)
  | .box id off => K (.box id off)
  | .agg vs => go vs fun vs => K (.agg vs)
  | .tup vs => go vs fun vs => K (.tup vs)
  | .fn f a b => go a fun a => go b fun b => K (.fn f a b)
  | .cst c => K (.cst c)
  | .mt id p => K (.mt id p)
  where go {ρ : Type} (vs : List V) (K : List V → ρ) : ρ := match vs with
  | [] => K []
  | v :: vs => v.force fun v => go vs fun vs => K (v :: vs)
def O.force {ρ : Type} (o : O) (K : O → ρ) : ρ := match o with
  | .row nl e xs => K (.row nl e xs)
  | .box cs => V.force.go cs fun cs => K (.box cs)
  | .bld s => K (.bld s)
  | .mat c xss => K (.mat c xss)
def forceO {ρ : Type} (o : Option O) (K : Option O → ρ) : ρ := match o with
  | none => K none
  | some o => o.force fun o => K (some o)
/-- where a test decides -/
def brB {α : Type} (c : Bool) (a b : α) : α := bif c then a else b
/-- where an answer of a callee is waited for -/
def optB {β ρ : Type} (x : Option β) (k : β → Option ρ) : Option ρ := x.bind k
def Eff.run {α ρ : Type} : Eff α → Ob → Fp → (α → Ob → Fp → Option ρ) → Option ρ
  | .ret a, ob, f, K => K a ob f
  | .fail, _, _, _ => none
  | .ite c t e, ob, f, K => brB c (t.run ob f K) (e.run ob f K)
  | .get id k, ob, f, K => match ob id with
    | some o => (k o).run ob ⟨id :: f.rs, f.ws, f.ns⟩ K
    | none => none
  | .set id o k, ob, f, K => match ob id with
    | some _ => forceO o fun o => k.run (upd ob id o) ⟨f.rs, id :: f.ws, f.ns⟩ K
    | none => none
  | .new id o k, ob, f, K => match ob id with
    | none => (o.kill id).force fun o => k.run (upd (killOb id ob) id (some o)) ⟨f.rs, f.ws, id :: f.ns⟩ K
    | some _ => none
  | .opt x k, ob, f, K => optB x fun b => (k b).run ob f K
def Eff.bind {α β : Type} : Eff α → (α → Eff β) → Eff β
  | .ret a, g => g a
  | .fail, _ => .fail
  | .ite c t e, g => .ite c (t.bind g) (e.bind g)
  | .get id k, g => .get id fun o => (k o).bind g
  | .set id o k, g => .set id o (k.bind g)
  | .new id o k, g => .new id o (k.bind g)
  | .opt x k, g => .opt x fun b => (k b).bind g
def Eff.ofOpt {α : Type} : Option α → Eff α
  | some a => .ret a
  | none => .fail

/-! ### what a function answers -/
mutual
inductive RT where
  | int (k : IntKind) | bool | str | own (e : CTs) | ownF (e : CTs) | rc (i : Nat) (e : CTs) | ptr (rs : RTs) | agg (rs : RTs) | tup (rs : RTs)
inductive RTs where
  | nil | one (r : RT) | cons (r : RT) (rs : RTs)
end
mutual
def RT.T : RT → Type
  | .int _ => Int
  | .bool => Bool
  | .str => ByteArray
  | .own e => List e.D
  | .ownF e => List e.D × Bool
  | .rc _ e => List e.D
  | .ptr rs => RTs.T rs
  | .agg rs => RTs.T rs
  | .tup rs => RTs.T rs
def RTs.T : RTs → Type
  | .nil => Unit
  | .one r => RT.T r
  | .cons r rs => RT.T r × RTs.T rs
end
mutual
def RT.plain : RT → Bool
  | .int _ => true
  | .bool => true
  | .str => true
  | .rc _ _ => true
  | _ => false
def RTs.plain : RTs → Bool
  | .nil => true
  | .one r => RT.plain r
  | .cons r rs => RT.plain r && RTs.plain rs
end
/-- an object that was lent, at the end -/
inductive FT where
  | row (e : CTs) | box (rs : RTs) | dead | bld
def FT.T : FT → Type
  | .row e => List e.D
  | .box rs => rs.T
  | .dead => Unit
  | .bld => ByteArray
def fts : List FT → Type
  | [] => Unit
  | [f] => f.T
  | f :: fs => f.T × fts fs
structure Sig where
  res : RT
  fin : List FT := []
def Sig.T (s : Sig) : Type := match s.fin with
  | [] => s.res.T
  | fs => s.res.T × fts fs
/-- a slice's row: the list, and the objects it takes -/
def rowOf (ob : Ob) (e : CTs) (used : List Nat) : V → Option (List e.D × List Nat)
  | .nil => bif e.flat then some ([], used) else none
  | .own id => bif used.contains id then none else match ob id with
    | some (.row _ e' xs) => if h : CTs.same e' e = true then some (CTs.cast h xs, id :: used) else none
    | _ => none
  | .sub id (.ofNat 0) hi => bif used.contains id then none else match ob id with
    | some (.row _ e' xs) => if h : CTs.same e' e = true then some (takeI (CTs.cast h xs) hi, id :: used) else none
    | _ => none
  | _ => none
/-- what is known of a slice's nil -/
def niOf (ob : Ob) : V → NI
  | .nil => .is true
  | .own id => match ob id with
    | some (.row nl _ _) => nl
    | _ => .unk
  | _ => .unk
def rowFlag (ob : Ob) (e : CTs) (u : List Nat) (v : V) : Option ((List e.D × Bool) × List Nat) := match rowOf ob e u v with
  | some (xs, u') => match niOf ob v with
    | .is b => some ((xs, b), u')
    | .unk => none
  | none => none
mutual
def RT.proj (ob : Ob) : (r : RT) → List Nat → V → Option (r.T × List Nat)
  | .int k, u, v => match v with
    | .int k' n => if k = k' then some (n, u) else none
    | _ => none
  | .bool, u, v => match v with
    | .bool b => some (b, u)
    | _ => none
  | .str, u, v => match v with
    | .str s => some (s, u)
    | _ => none
  | .own e, u, v => rowOf ob e u v
  | .ownF e, u, v => rowFlag ob e u v
  | .rc i e, u, v => match v with
    | .rc i' e' xs => if i = i' then (if h : CTs.same e' e = true then some (CTs.cast h xs, u) else none) else none
    | _ => none
  | .ptr rs, u, v => match v with
    | .box id 0 => bif u.contains id || !rs.plain then none else match ob id with
      | some (.box cs) => RTs.proj ob rs (id :: u) cs
      | _ => none
    | _ => none
  | .agg rs, u, v => match v with
    | .agg vs => RTs.proj ob rs u vs
    | _ => none
  | .tup rs, u, v => match v with
    | .tup vs => RTs.proj ob rs u vs
    | _ => none
def RTs.proj (ob : Ob) : (rs : RTs) → List Nat → List V → Option (rs.T × List Nat)
  | .nil, u, vs => match vs with
    | [] => some ((), u)
    | _ => none
  | .one r, u, vs => match vs with
    | [v] => RT.proj ob r u v
    | _ => none
  | .cons r rs, u, vs => match vs with
    | v :: vs => match RT.proj ob r u v with
      | some (x, u1) => match RTs.proj ob rs u1 vs with
        | some (xs, u2) => some ((x, xs), u2)
        | none => none
      | none => none
    | [] => none
end
def FT.proj (ob : Ob) (id : Nat) (u : List Nat) : (f : FT) → Option (f.T × List Nat)
  | .row e => rowOf ob e u (.own id)
  | .box rs => bif u.contains id then none else match ob id with
    | some (.box cs) => RTs.proj ob rs (id :: u) cs
    | _ => none
  | .dead => some ((), u)
  | .bld => bif u.contains id then none else match ob id with
    | some (.bld s) => some (s, id :: u)
    | _ => none
def ftsProj (ob : Ob) : (id : Nat) → (u : List Nat) → (fs : List FT) → Option (fts fs)
  | _, _, [] => some ()
  | id, u, [f] => match f.proj ob id u with
    | some (x, _) => some x
    | none => none
  | id, u, f :: g :: fs => match f.proj ob id u with
    | some (x, u1) => match ftsProj ob (id + 1) u1 (g :: fs) with
      | some xs => some (x, xs)
      | none => none
    | none => none
def Sig.proj (ob : Ob) (v : V) : (s : Sig) → Option s.T
  | ⟨r, []⟩ => match RT.proj ob r [] v with
    | some (x, _) => some x
    | none => none
  | ⟨r, f :: fs⟩ => match RT.proj ob r [] v with
    | some (x, u) => match ftsProj ob 0 u (f :: fs) with
      | some ys => some (x, ys)
      | none => none
    | none => none
-- the value again, with its rows as new objects from number j on
mutual
def RT.inj : (r : RT) → r.T → Nat → V × List O
  | .int k, n, _ => (.int k n, [])
  | .bool, b, _ => (.bool b, [])
  | .str, s, _ => (.str s, [])
  | .own e, xs, j => (.own j, [.row .unk e xs])
  | .ownF e, x, j => (.own j, [.row (.is x.2) e x.1])
  | .rc i e, xs, _ => (.rc i e xs, [])
  | .ptr rs, x, j => (.box j 0, [.box (RTs.inj rs x j).1])
  | .agg rs, x, j => let (vs, os) := RTs.inj rs x j; (.agg vs, os)
  | .tup rs, x, j => let (vs, os) := RTs.inj rs x j; (.tup vs, os)
def RTs.inj : (rs : RTs) → rs.T → Nat → List V × List O
  | .nil, _, _ => ([], [])
  | .one r, x, j => let (v, os) := RT.inj r x j; ([v], os)
  | .cons r rs, x, j => let (v, os) := RT.inj r x.1 j; let (vs, os') := RTs.inj rs x.2 (j + os.length); (v :: vs, os ++ os')
end
/-- a lent object again: what it is now, and the new objects that it names -/
def FT.inj : (f : FT) → f.T → Nat → Option O × List O
  | .row e, xs, _ => (some (.row .unk e xs), [])
  | .box rs, x, j => let (vs, os) := RTs.inj rs x j; (some (.box vs), os)
  | .dead, _, _ => (none, [])
  | .bld, s, _ => (some (.bld s), [])
def ftsInj : (fs : List FT) → fts fs → Nat → List (Option O) × List O
  | [], _, _ => ([], [])
  | [f], x, j => let (o, os) := f.inj x j; ([o], os)
  | f :: g :: fs, x, j => let (o, os) := f.inj x.1 j; let (l, os') := ftsInj (g :: fs) x.2 (j + os.length); (o :: l, os ++ os')
def Sig.inj : (s : Sig) → s.T → Nat → V × List (Option O) × List O
  | ⟨r, []⟩, x, j => let (v, os) := r.inj x j; (v, [], os)
  | ⟨r, f :: fs⟩, x, j => let (v, os) := r.inj x.1 j; let (l, os') := ftsInj (f :: fs) x.2 (j + os.length); (v, l, os ++ os')
end Go.Eng
namespace Go.Eng
noncomputable section

/-! ### types -/
def tsize (P : Program) (t : TypeId) : Nat := P.cellsOf t
def tagg (P : Program) (t : TypeId) : Option Bool := match P.underlying t with
  | some (.struct _) => some true
  | some (.array _ _) => some true
  | some _ => some false
  | none => none
def mkCTs : List CT → Option CTs
  | [] => none
  | [c] => some (.one c)
  | c :: cs => (mkCTs cs).map (.cons c)
def ctl (P : Program) : Nat → TypeId → Option (List CT)
  | 0, _ => none
  | d + 1, t => match P.underlying t with
    | some (.int k) => some [.int k]
    | some .bool => some [.bool]
    | some .string => some [.str]
    | some (.slice e) => match (ctl P d e).bind mkCTs with
      | some c => some [.row c]
      | none => none
    | some (.struct fs) => fs.toList.foldr (fun f acc => match ctl P d f.type, acc with
      | some a, some b => some (a ++ b)
      | _, _ => none) (some [])
    | some (.array n e) => (ctl P d e).map fun l => (List.replicate n l).flatten
    | _ => none
def cts (P : Program) (t : TypeId) : Option CTs := (ctl P 6 t).bind mkCTs
def zeroV? (P : Program) (t : TypeId) : Option (List V) := match P.info? t with
  | some i => match i.zero with
    | some z => (constV z).cells?
    | none => none
  | none => none
def zeroV (P : Program) (t : TypeId) : List V := match zeroV? P t with
  | some z => z
  | none => []
def field? (P : Program) (t : TypeId) (f : Nat) : Option (Nat × Nat × Bool) := match P.underlying t with
  | some (.struct fs) => match fs.toList[f]? with
    | some x => match tagg P x.type with
      | some b => some (x.offset, tsize P x.type, b)
      | none => none
    | none => none
  | _ => none

/-! ### states -/
structure St where
  tm : Nat → V
  ob : Ob
def St.put (st : St) (d : Nat) (v : V) : St := { st with tm := fun j => bif Nat.beq j d then v else st.tm j }
def St.put? (st : St) (d : Option Nat) (v : V) : St := match d with
  | some d => st.put d v
  | none => st
def St.rv (st : St) : Operand → V
  | .tmp t => st.tm t
  | .const v => constV v
  | .func f => .fn f [] []
  | .global _ => .un
def tag (d : Option Nat) (j : Nat) : Nat := match d with
  | some d => (d + 1) * 1000 + j
  | none => j + 100000000
structure Hint where
  live : List Nat
  mat : List (Nat × CTs) := []
def V.ids : V → List Nat
  | .own id => [id]
  | .sub id _ _ => [id]
  | .el id _ _ => [id]
  | .box id _ => [id]
  | .agg vs => go vs
  | .tup vs => go vs
  | .fn _ a b => go a ++ go b
  | .mt id _ => [id, gho id]
  | _ => []
  where go : List V → List Nat
  | [] => []
  | v :: vs => v.ids ++ go vs
def V.ren (g : Nat → Option Nat) : V → V
  | .own id => match g id with
    | some j => .own j
    | none => .un
  | .sub id a b => match g id with
    | some j => .sub j a b
    | none => .un
  | .el id i o => match g id with
    | some j => .el j i o
    | none => .un
  | .box id o => match g id with
    | some j => .box j o
    | none => .un
  | .agg vs => .agg (go g vs)
  | .tup vs => .tup (go g vs)
  | .fn f a b => .fn f (go g a) (go g b)
  | .mt id p => bif p.loose then .un else match g id with
    | some j => .mt j p
    | none => .un
  | v => v
  where go (g : Nat → Option Nat) : List V → List V
  | [] => []
  | v :: vs => v.ren g :: go g vs
def O.ren (g : Nat → Option Nat) : O → O
  | .row nl e xs => .row nl e xs
  | .box cs => .box (V.ren.go g cs)
  | .bld s => .bld s
  | .mat c xss => .mat c xss
/-- the identities from 500 on that are seen, each once, in order; boxes are looked into -/
def scan (ob : Ob) : Nat → List Nat → List Nat → List Nat
  | 0, _, acc => acc
  | _, [], acc => acc
  | d + 1, id :: ids, acc =>
    let acc' := bif Nat.ble 500 id && !acc.contains id then
      (match ob id with
        | some (.box cs) => scan ob d (V.ids.go cs) (acc ++ [id])
        | _ => acc ++ [id]) else acc
    scan ob d ids acc'
def idxFrom (id : Nat) : List Nat → Nat → Option Nat
  | [], _ => none
  | x :: xs, n => bif Nat.beq x id then some n else idxFrom id xs (n + 1)
def matOne (st : St) (t : Nat) (e : CTs) (id : Nat) : St := match st.tm t with
  | .nil => match st.ob id with
    | none => bif e.flat then St.put { tm := fun i => (st.tm i).kill id, ob := upd (killOb id st.ob) id (some (.row .unk e [])) } t (.own id) else st
    | some _ => st
  | _ => st
def matIn (st : St) : List (Nat × CTs) → Nat → St
  | [], _ => st
  | (t, e) :: l, n => matIn (matOne st t e (900 + n)) l (n + 1)
def lentCells (ob : Ob) : Nat → List Nat
  | 0 => []
  | m + 1 => lentCells ob m ++ (match ob m with
    | some (.box cs) => V.ids.go cs
    | _ => [])
def tabTm : List Nat → List V → Nat → V
  | t :: ts, v :: vs, i => bif Nat.beq i t then v else tabTm ts vs i
  | _, _, _ => .un
def tabOb : List (Nat × Option O) → Ob
  | [], _ => none
  | (j, o) :: l, i => bif Nat.beq i j then o else tabOb l i
def oneOb (g : Nat → Option Nat) (ob : Ob) (id j : Nat) : Option O := match g id with
  | some j' => bif Nat.beq j' j then (match ob id with
    | some o => some (o.ren g)
    | none => none) else none
  | none => none
def forceObs {ρ : Type} (g : Nat → Option Nat) (ob : Ob) : List (Nat × Nat) → (List (Nat × Option O) → ρ) → ρ
  | [], K => K []
  | (id, j) :: l, K => forceO (oneOb g ob id j) fun o => forceObs g ob l fun os => K ((j, o) :: os)
/-- a number, evaluated: none of a state's is greater -/
def forceN {ρ : Type} (ns : List Nat) (K : List Nat → ρ) : ρ := match ns with
  | [] => K []
  | n :: ns => forceN ns fun ns => K (n :: ns)
def numFrom : List Nat → Nat → List (Nat × Nat)
  | [], _ => []
  | x :: xs, n => (x, n) :: numFrom xs (n + 1)
def upto : Nat → List (Nat × Nat)
  | 0 => []
  | m + 1 => upto m ++ [(m, m)]
def normK {ρ : Type} (m : Nat) (h : Hint) (st0 : St) (K : St → ρ) : ρ :=
  let st := matIn st0 h.mat 0
  forceN (scan st.ob 60 (lentCells st.ob m ++ V.ids.go (h.live.map st.tm)) []) fun ids =>
    let g : Nat → Option Nat := fun id => bif Nat.ble 500 id then idxFrom id ids 500 else some id
    V.force.go (h.live.map fun i => (st.tm i).ren g) fun vs =>
      forceObs g st.ob (upto m ++ numFrom ids 500) fun os => K { tm := tabTm h.live vs, ob := tabOb os }

/-! ### the environment -/
structure Env where
  P : Program
  sig : Nat → Sig
  lend : Nat → List Bool
  loopHint : Nat → Nat → Option Hint
  joinHint : Nat → Nat → Option Hint
  over : Nat → Bool := fun _ => false
  bld : Nat → Nat := fun _ => 0
  isB : TypeId → Bool := fun _ => false
  gv : Nat → Option V := fun _ => none

/-- the objects that go with a call -/
def collect {α : Type} : Nat → Bool → List V → List Nat → (List Nat → Eff α) → Eff α
  | 0, _, _, _, _ => .fail
  | _, _, [], ls, k => k ls
  | d + 1, len, v :: vs, ls, k => match v with
    | .own id => collect d len vs (bif len && !ls.contains id then ls ++ [id] else ls) k
    | .sub id _ _ => collect d len vs (bif len && !ls.contains id then ls ++ [id] else ls) k
    | .el _ _ _ => .fail
    | .mt _ _ => .fail
    | .box id _ => bif ls.contains id then collect d len vs ls k else .get id fun
      | .box cs => collect d true cs (ls ++ [id]) fun ls' => collect d len vs ls' k
      | .bld _ => collect d len vs (ls ++ [id]) k
      | _ => .fail
    | .agg xs => collect d len xs ls fun ls' => collect d len vs ls' k
    | .fn _ a b => collect d true (a ++ b) ls fun ls' => collect d len vs ls' k
    | _ => collect d len vs ls k
/-- what the callee gets -/
def export_ {α : Type} (ls : List Nat) : Nat → Bool → List V → (List V → Eff α) → Eff α
  | 0, _, _, _ => .fail
  | _, _, [], k => k []
  | d + 1, len, v :: vs, k => match v with
    | .own id => match idxFrom id ls 0 with
      | some j => export_ ls d len vs fun ws => k (.own j :: ws)
      | none => bif len then .fail else .get id fun
        | .row _ e xs => export_ ls d len vs fun ws => k (.ro e xs :: ws)
        | _ => .fail
    | .sub id lo hi => match idxFrom id ls 0 with
      | some j => export_ ls d len vs fun ws => k (.sub j lo hi :: ws)
      | none => bif len then .fail else .get id fun
        | .row _ e xs => export_ ls d len vs fun ws => k (.ro e (dropI (takeI xs hi) lo) :: ws)
        | _ => .fail
    | .tup _ => .fail
    | .box id o => match idxFrom id ls 0 with
      | some j => export_ ls d len vs fun ws => k (.box j o :: ws)
      | none => .fail
    | .el _ _ _ => .fail
    | .mt _ _ => .fail
    | .agg xs => export_ ls d len xs fun ys => export_ ls d len vs fun ws => k (.agg ys :: ws)
    | .fn f a b => export_ ls d true a fun a' => export_ ls d true b fun b' => export_ ls d len vs fun ws => k (.fn f a' b' :: ws)
    | v => export_ ls d len vs fun ws => k (v :: ws)
def exportO {α : Type} (ls : List Nat) : List Nat → (List O → Eff α) → Eff α
  | [], k => k []
  | id :: ids, k => .get id fun
    | .row nl e xs => exportO ls ids fun os => k (.row nl e xs :: os)
    | .box cs => export_ ls 60 true cs fun cs' => exportO ls ids fun os => k (.box cs' :: os)
    | .bld s => exportO ls ids fun os => k (.bld s :: os)
    | .mat _ _ => .fail
def modesOf : List Bool → List V → List (Bool × V)
  | _, [] => []
  | [], v :: vs => (false, v) :: modesOf [] vs
  | b :: bs, v :: vs => (b, v) :: modesOf bs vs
def collectA {α : Type} : List (Bool × V) → List Nat → (List Nat → Eff α) → Eff α
  | [], ls, k => k ls
  | (b, v) :: r, ls, k => collect 60 b [v] ls fun ls' => collectA r ls' k
def exportA {α : Type} (ls : List Nat) : List (Bool × V) → (List V → Eff α) → Eff α
  | [], k => k []
  | (b, v) :: r, k => export_ ls 60 b [v] fun vs => exportA ls r fun ws => k (vs ++ ws)
def setFins {α : Type} : List Nat → List (Option O) → Eff α → Eff α
  | id :: ids, o :: os, k => .set id o (setFins ids os k)
  | [], [], k => k
  | _, _, _ => .fail
def newAll {α : Type} : List O → Nat → Eff α → Eff α
  | [], _, k => k
  | o :: os, j, k => .new j o (newAll os (j + 1) k)
abbrev Cf (E : Env) := (f : Nat) → List V → List O → Option (E.sig f).T
def callE0 (E : Env) (cf : Cf E) (d : Option Nat) (f : Nat) (vs : List V) : Eff V :=
  let mvs := modesOf (E.lend f) vs
  collectA mvs [] fun ls => bif Nat.ble ls.length 500 then exportA ls mvs fun args => exportO ls ls fun os =>
    .opt (cf f args os) fun x =>
      let r := (E.sig f).inj x (tag d 0)
      match ls, r.2.1 with
      | [], [] => newAll r.2.2 (tag d 0) (.ret r.1)
      | ls, fins => newAll r.2.2 (tag d 0) (setFins ls fins (.ret r.1))
  else .fail

/-! ### operations -/
def lenBound : Int := 140737488355328
def binE (op : BinOp) (x y : V) : Eff V :=
  match op, x, y with
  | .shl, .int k a, .int _ b => .ite (leI 0 b) (.ret (.int k (shlI k a b))) .fail
  | .shr, .int k a, .int _ b => .ite (leI 0 b) (.ret (.int k (shrI k a b))) .fail
  | op, .int k a, .int k' b => if k = k' then (match op with
    | .add => .ret (.int k (addI k a b))
    | .sub => .ret (.int k (subI k a b))
    | .mul => .ret (.int k (mulI k a b))
    | .quo => .ite (notB (eqI b 0)) (.ret (.int k (quoI k a b))) .fail
    | .rem => .ite (notB (eqI b 0)) (.ret (.int k (remI a b))) .fail
    | .and => .ret (.int k (andI k a b))
    | .or => .ret (.int k (orI k a b))
    | .xor => .ret (.int k (xorI k a b))
    | .andNot => .ret (.int k (andNotI k a b))
    | .eql => .ret (.bool (eqI a b))
    | .neq => .ret (.bool (notB (eqI a b)))
    | .lss => .ret (.bool (ltI a b))
    | .leq => .ret (.bool (leI a b))
    | .gtr => .ret (.bool (ltI b a))
    | .geq => .ret (.bool (leI b a))
    | _ => .fail) else .fail
  | .add, .str a, .str b => .ite (leI (addZ (sz a) (sz b)) 9223372036854775807) (.ret (.str (catS a b))) .fail
  | .eql, .str a, .str b => .ret (.bool (bytesEq a b))
  | .neq, .str a, .str b => .ret (.bool (notB (bytesEq a b)))
  | .lss, .str a, .str b => .ret (.bool (strLess a b))
  | .leq, .str a, .str b => .ret (.bool (orB (strLess a b) (bytesEq a b)))
  | .gtr, .str a, .str b => .ret (.bool (notB (orB (strLess a b) (bytesEq a b))))
  | .geq, .str a, .str b => .ret (.bool (notB (strLess a b)))
  | _, _, _ => .fail
def unE (op : UnOp) (x : V) : Eff V :=
  match op, x with
  | .neg, .int k n => .ret (.int k (subI k 0 n))
  | .not, .bool b => .ret (.bool (notB b))
  | _, _ => .fail
/-- strings of bytes and rows of bytes -/
def bytesOf (xs : List Int) : ByteArray := ⟨(xs.map fun n => UInt8.ofNat n.toNat).toArray⟩
def numsOf (s : ByteArray) : List Int := s.data.toList.map fun b => (b.toNat : Int)
def isStrV : V → Bool
  | .str _ => true
  | _ => false
def isU8 (P : Program) (t : TypeId) : Bool := match P.underlying t with
  | some (.int .u8) => true
  | _ => false
/-- the list of a slice -/
def listE (e : CTs) (x : V) (k : List e.D → Eff V) : Eff V :=
  match x with
  | .nil => k []
  | .own id => .get id fun
    | .row _ e' xs => if h : CTs.same e' e = true then k (CTs.cast h xs) else .fail
    | _ => .fail
  | .sub id lo hi => .get id fun
    | .row _ e' xs => if h : CTs.same e' e = true then k (dropI (takeI (CTs.cast h xs) hi) lo) else .fail
    | _ => .fail
  | .ro e' xs => if h : CTs.same e' e = true then k (CTs.cast h xs) else .fail
  | .str s => if h : CTs.same (.one (.int .u8)) e = true then k (CTs.cast h (numsOf s : List Int)) else .fail
  | .rn e' xs => if h : CTs.same e' e = true then k (CTs.cast h xs) else .fail
  | _ => .fail
def convE (P : Program) (d : Option Nat) (src dst : TypeId) (x : V) : Eff V :=
  match P.underlying src, P.underlying dst, x with
  | some (.int _), some (.int k), .int _ n => .ret (.int k (wrI k n))
  | some (.int _), some .string, .int _ n => .ret (.str (Utf8.encode n))
  | some .string, some .string, .str s => .ret (.str s)
  | some .string, some (.slice e), .str s => bif isU8 P e then .new (tag d 0) (.row (.is false) (.one (.int .u8)) (numsOf s)) (.ret (.own (tag d 0))) else .fail
  | some (.slice e), some .string, x => bif isU8 P e && !isStrV x then listE (.one (.int .u8)) x fun xs => .ret (.str (bytesOf xs)) else .fail
  | _, _, _ => .fail
def loadE (P : Program) (t : TypeId) (a : V) : Eff V :=
  match tagg P t, a with
  | some true, .box id off => .get id fun
    | .box cs => bif Nat.ble (off + tsize P t) cs.length then .ret (.agg ((cs.drop off).take (tsize P t))) else .fail
    | _ => .fail
  | some false, .box id off => .get id fun
    | .box cs => (match cs[off]? with
          | some v => .ret v
          | none => .fail)
    | _ => .fail
  | some true, .el id i off => .get id fun
    | .row _ e xs => bif Nat.ble (off + tsize P t) e.size then .ret (.agg (e.cellsV (rd xs i e.zero) off (tsize P t))) else .fail
    | _ => .fail
  | some false, .el id i off => .get id fun
    | .row _ e xs => bif Nat.ble (off + 1) e.size then .ret (e.cellV (rd xs i e.zero) off) else .fail
    | _ => .fail
  | some true, .roel e x off => bif Nat.ble (off + tsize P t) e.size then .ret (.agg (e.cellsV x off (tsize P t))) else .fail
  | some false, .roel e x off => bif Nat.ble (off + 1) e.size then .ret (e.cellV x off) else .fail
  | _, _ => .fail
def setCells {α : Type} (cs : List α) (off : Nat) : List α → List α
  | [] => cs
  | v :: vs => setCells (cs.set off v) (off + 1) vs
def storeE (P : Program) (t : TypeId) (a v : V) : Eff V :=
  match v.cells? with
  | none => .fail
  | some vs => bif Nat.beq vs.length (tsize P t) && (tagg P t).isSome && vs.all V.solid then (match a with
    | .box id off => .get id fun
      | .box cs => bif Nat.ble (off + vs.length) cs.length then .set id (some (.box (setCells cs off vs))) (.ret (.tup [])) else .fail
      | _ => .fail
    | .el id i off => .get id fun
      | .row nl e xs => (match e.setsV (rd xs i e.zero) off vs with
        | some x => .set id (some (.row nl e (setI xs i x))) (.ret (.tup []))
        | none => .fail)
      | _ => .fail
    | _ => .fail) else .fail
/-- the size of a slice's elements -/
def slElem (P : Program) (t : TypeId) : Option (TypeId × Nat) := match P.underlying t with
  | some (.slice e) => match tagg P e with
    | some _ => some (e, tsize P e)
    | none => none
  | _ => none
def isStr (P : Program) (t : TypeId) : Bool := match P.underlying t with
  | some .string => true
  | _ => false
def bounds (lo hi : Option V) (n : Int) (K : Int → Int → Eff V) : Eff V := match lo, hi with
  | none, none => K 0 n
  | none, some (.int _ h) => .ite (leI 0 h) (.ite (leI h n) (K 0 h) .fail) .fail
  | some (.int _ l), none => .ite (leI 0 l) (.ite (leI l n) (K l n) .fail) .fail
  | some (.int _ l), some (.int _ h) => .ite (leI 0 l) (.ite (leI l h) (.ite (leI h n) (K l h) .fail) .fail) .fail
  | _, _ => .fail
def sliceE (P : Program) (t : TypeId) (x : V) (lo hi mx : Option V) : Eff V :=
  match x, mx with
  | .str s, none => bif isStr P t then bounds lo hi (sz s) fun l h => .ret (.str (subs s l h)) else .fail
  | .ro e xs, none => (match slElem P t with
    | some (_, n) => bif Nat.beq n e.size then bounds lo hi (ln xs) fun l h => .ret (.ro e (dropI (takeI xs h) l)) else .fail
    | none => .fail)
  | .own id, none => .get id fun
    | .row _ e xs => (match slElem P t with
      | some (_, n) => bif Nat.beq n e.size then bounds lo hi (ln xs) fun l h => .ret (.sub id l h) else .fail
      | none => .fail)
    | _ => .fail
  | .nil, none => (match slElem P t with
    | some _ => bounds lo hi 0 fun _ _ => .ret .nil
    | none => .fail)
  | _, _ => .fail
def indexAddrE (P : Program) (t : TypeId) (x i : V) : Eff V :=
  match x, i with
  | .own id, .int _ i => .get id fun
    | .row _ e xs => (match slElem P t with
      | some (_, n) => bif Nat.beq n e.size then .ite (leI 0 i) (.ite (ltI i (ln xs)) (.ret (.el id i 0)) .fail) .fail else .fail
      | none => .fail)
    | _ => .fail
  | .sub id lo hi, .int _ i => .get id fun
    | .row _ e _ => (match slElem P t with
      | some (_, n) => bif Nat.beq n e.size then .ite (leI 0 i) (.ite (ltI i (subZ hi lo)) (.ret (.el id (addZ lo i) 0)) .fail) .fail else .fail
      | none => .fail)
    | _ => .fail
  | .ro e xs, .int _ i => (match slElem P t with
    | some (_, n) => bif Nat.beq n e.size then .ite (leI 0 i) (.ite (ltI i (ln xs)) (.ret (.roel e (rd xs i e.zero) 0)) .fail) .fail else .fail
    | none => .fail)
  | _, _ => .fail
def indexE (P : Program) (t : TypeId) (x i : V) : Eff V :=
  match x, i with
  | .str s, .int _ i => bif isStr P t then .ite (leI 0 i) (.ite (ltI i (sz s)) (.ret (.int .u8 (bt s i))) .fail) .fail else .fail
  | _, _ => .fail
def putParts (P : Program) (t : TypeId) : List V → List (Nat × V) → Option (List V)
  | cs, [] => some cs
  | cs, (i, v) :: r => match field? P t i, v.cells? with
    | some (off, n, _), some vs => bif Nat.beq vs.length n && Nat.ble (off + n) cs.length then putParts P t (setCells cs off vs) r else none
    | _, _ => none
def putElems (n : Nat) : List V → List (Nat × V) → Option (List V)
  | cs, [] => some cs
  | cs, (i, v) :: r => match v.cells? with
    | some vs => bif Nat.beq vs.length n && Nat.ble (i * n + n) cs.length then putElems n (setCells cs (i * n) vs) r else none
    | none => none
/-- rows of n cells each -/
def chunks (e : CTs) (n : Nat) : Nat → List V → Option (List e.D)
  | 0, _ => some []
  | m + 1, cs => match e.ofVs (cs.take n), chunks e n m (cs.drop n) with
    | some x, some xs => some (x :: xs)
    | _, _ => none
def fieldsOk (P : Program) : List Field → Bool
  | [] => true
  | f :: fs => (tagg P f.type).isSome && fieldsOk P fs
def buildE (P : Program) (t : TypeId) (ps : List (Nat × V)) : Eff V :=
  match P.underlying t with
  | some (.struct fs) => bif fieldsOk P fs.toList && (zeroV? P t).isSome then (match putParts P t (zeroV P t) ps with
    | some cs => .ret (.agg cs)
    | none => .fail) else .fail
  | some (.array _ e) => bif (tagg P e).isSome && (zeroV? P t).isSome then (match putElems (tsize P e) (zeroV P t) ps with
    | some cs => .ret (.agg cs)
    | none => .fail) else .fail
  | _ => .fail
def elemOf? (P : Program) (t : TypeId) : Option (TypeId × CTs × Nat × Nat) := match slElem P t with
  | some (e, n) => match cts P e, zeroV? P e with
    | some c, some z => bif Nat.beq c.size n && Nat.beq z.length n && c.flat then some (e, c, n, P.bytesOf e) else none
    | _, _ => none
  | none => none
def buildSliceE (P : Program) (d : Option Nat) (t : TypeId) (n : Nat) (ps : List (Nat × V)) : Eff V :=
  match elemOf? P t with
  | some (e, c, s, _) => bif Nat.ble (n * s) (2 ^ 24) then (match putElems s ((List.replicate n (zeroV P e)).flatten) ps with
    | some cs => (match chunks c s n cs with
      | some xs => .new (tag d 0) (.row (.is false) c xs) (.ret (.own (tag d 0)))
      | none => .fail)
    | none => .fail) else .fail
  | none => match slElem P t with
    | some (e, s) => bif Nat.beq s 1 && (zeroV? P e).isSome && Nat.beq (zeroV P e).length 1 && Nat.ble n (2 ^ 24) then (match putElems 1 ((List.replicate n (zeroV P e)).flatten) ps with
      | some cs => .new (tag d 0) (.box cs) (.ret (.mt (tag d 0) (.bsl n)))
      | none => .fail) else .fail
    | none => .fail
def makeSliceE (P : Program) (d : Option Nat) (t : TypeId) (l c : V) : Eff V :=
  match elemOf? P t, l, c with
  | some (e, ct, _, by_), .int _ l, .int _ c => bif Nat.beq by_ 0 then .fail else (match ct.ofVs (zeroV P e) with
    | some z => .ite (leI 0 l) (.ite (leI l c) (.ite (ltI (mulZ c by_) lenBound) (.new (tag d 0) (.row (.is false) ct (repI l z)) (.ret (.own (tag d 0)))) .fail) .fail) .fail
    | none => .fail)
  | _, _, _ => .fail
/-- a part of a row becomes zero -/
def clearE (P : Program) (t : TypeId) (x : V) : Eff V :=
  match elemOf? P t, x with
  | some (e, ct, _, _), .sub id lo hi => bif (zeroV P e).all V.solid then (match ct.ofVs (zeroV P e) with
    | some z => .get id fun
      | .row nl e' xs => if h : CTs.same e' ct = true then .set id (some (.row nl ct (catL (catL (takeI (CTs.cast h xs) lo) (repI (subZ hi lo) z)) (dropI (CTs.cast h xs) hi)))) (.ret (.tup [])) else .fail
      | _ => .fail
    | none => .fail) else .fail
  | _, _ => .fail
/-- rows of rows of plain cells, made anew: its rows are not there yet -/
def matOf? (P : Program) (t : TypeId) : Option (TypeId × CT × Nat) := match slElem P t with
  | some (e, n) => match cts P e, zeroV? P e with
    | some (.one (.row (.one c))), some [.nil] => bif Nat.beq n 1 && (CTs.one c).flat then some (e, c, P.bytesOf e) else none
    | _, _ => none
  | none => none
def mtMakeE (P : Program) (d : Option Nat) (t : TypeId) (l c : V) : Eff V :=
  match matOf? P t, l, c with
  | some (_, ct, by_), .int _ l, .int _ c => bif Nat.beq by_ 0 then .fail else .ite (leI 0 l) (.ite (leI l c) (.ite (ltI (mulZ c by_) lenBound) (.new (tag d 0) (.mat ct (repI l [])) (.ret (.mt (tag d 0) .all))) .fail) .fail) .fail
  | _, _, _ => .fail
/-- one cell of one row -/
def one? (P : Program) (t : TypeId) : Bool := match slElem P t with
  | some (_, n) => Nat.beq n 1
  | none => false
def flatT (P : Program) (t : TypeId) : Bool := match tagg P t with
  | some false => true
  | _ => false
/-- one of the cells from m on -/
def pickBox (id : Nat) (i : Int) : Nat → Nat → Eff V
  | _, 0 => .fail
  | m, n + 1 => .ite (eqI i (m : Int)) (.ret (.box id m)) (pickBox id i (m + 1) n)
def mtIndexE (P : Program) (t : TypeId) (id : Nat) (p : MP) (i : V) : Eff V :=
  match p, i with
  | .all, .int _ i => .get id fun
    | .mat _ xss => bif one? P t then .ite (leI 0 i) (.ite (ltI i (ln xss)) (.ret (.mt id (.adr i))) .fail) .fail else .fail
    | _ => .fail
  | .row i, .int _ j => .get id fun
    | .mat _ xss => bif one? P t then .ite (leI 0 j) (.ite (ltI j (ln (rd xss i []))) (.ret (.mt id (.cel i j))) .fail) .fail else .fail
    | _ => .fail
  | .bsl n, .int _ i => bif one? P t then .ite (leI 0 i) (.ite (ltI i (n : Int)) (pickBox id i 0 n) .fail) .fail else .fail
  | _, _ => .fail
def mtLoadE (P : Program) (t : TypeId) (id : Nat) (p : MP) : Eff V :=
  bif flatT P t then (match p with
    | .adr i => .get id fun
      | .mat _ _ => .ret (.mt id (.row i))
      | _ => .fail
    | .cel i j => .get id fun
      | .mat c xss => .ret (c.toV (rd (rd xss i []) j c.zero))
      | _ => .fail
    | _ => .fail) else .fail
def mtStoreE (P : Program) (t : TypeId) (id : Nat) (p : MP) (v : V) : Eff V :=
  bif flatT P t && Nat.beq (tsize P t) 1 then (match p, v with
    | .adr i, .own id2 => bif Nat.beq id2 id || !Nat.ble 500 id then .fail else .get id fun
      | .mat c xss => .get id2 fun
        | .row _ (.one c') xs => if h : CT.same c' c = true then
            .set id2 none (.set id (some (.mat c (setI xss i (CTs.cast (a := .one c') (b := .one c) h xs)))) (.new (gho id) (.box []) (.set (gho id) none (.ret (.tup []))))) else .fail
        | _ => .fail
      | _ => .fail
    | .cel i j, v => .get id fun
      | .mat c xss => (match c.ofV v with
        | some d => .set id (some (.mat c (setI xss i (setI (rd xss i []) j d)))) (.ret (.tup []))
        | none => .fail)
      | _ => .fail
    | _, _ => .fail) else .fail
/-- the address of an array's element -/
def arrIndexE (P : Program) (t : TypeId) (id off : Nat) (i : V) : Eff V :=
  match P.underlying t, i with
  | some (.array n e), .int _ (.ofNat k) => bif (tagg P e).isSome && Nat.blt k n then .ret (.box id (off + k * tsize P e)) else .fail
  | _, _ => .fail
def appNl : NI → NI
  | .is false => .is false
  | _ => .unk
def appendE (P : Program) (d : Option Nat) (t : TypeId) (s x : V) : Eff V :=
  match elemOf? P t with
  | some (_, e, _, by_) => bif Nat.beq by_ 0 then .fail else
    listE e x fun ys => listE e s fun xs =>
      let out : NI → Eff V := fun nl => .ite (ltI (mulZ (addZ (ln xs) (ln ys)) by_) lenBound) (.new (tag d 0) (.row nl e (catL xs ys)) (.ret (.own (tag d 0)))) .fail
      match s with
      | .nil => out .unk
      | .own id => .get id fun
        | .row nl _ _ => .set id none (out (appNl nl))
        | _ => .fail
      | .sub id (.ofNat 0) _ => .set id none (out .unk)
      | _ => .fail
  | none => .fail
def lenE (P : Program) (t : TypeId) (x : V) : Eff V :=
  match x with
  | .str s => bif isStr P t then .ret (.int .i64 (sz s)) else .fail
  | .nil => bif (slElem P t).isSome then .ret (.int .i64 0) else .fail
  | .own id => bif (slElem P t).isSome then .get id (fun
    | .row _ _ xs => .ret (.int .i64 (ln xs))
    | _ => .fail) else .fail
  | .sub _ lo hi => bif (slElem P t).isSome then .ret (.int .i64 (subZ hi lo)) else .fail
  | .ro _ xs => bif (slElem P t).isSome then .ret (.int .i64 (ln xs)) else .fail
  | _ => .fail
def mxE (x y : V) : Eff V := match x, y with
  | .int k a, .int k' b => if k = k' then .ret (.int k (maxI a b)) else .fail
  | _, _ => .fail
def mnE (x y : V) : Eff V := match x, y with
  | .int k a, .int k' b => if k = k' then .ret (.int k (minI a b)) else .fail
  | _, _ => .fail
/-- a slice held against nil -/
def nilE (x : V) : Eff Bool := match x with
  | .nil => .ret true
  | .own id => .get id fun
    | .row (.is b) _ _ => .ret b
    | _ => .fail
  | .rn _ _ => .ret false
  | _ => .fail
def isNil : V → Bool
  | .nil => true
  | _ => false
/-- nil for a parameter that is lent: an object of its own -/
def paramsOf (P : Program) (f : Nat) : List TypeId := match P.funcs[f]? with
  | some fn => fn.params.toList
  | none => []
def nilAt (P : Program) (b : Bool) (t : TypeId) (v : V) : Option CTs := match b, v with
  | true, .nil => match elemOf? P t with
    | some (_, e, _, _) => some e
    | none => none
  | _, _ => none
def nilIds (P : Program) (T : Nat) : List Bool → List TypeId → List V → Nat → List (Nat × CTs)
  | b :: bs, t :: ts, v :: vs, i => match nilAt P b t v with
    | some e => (T + i, e) :: nilIds P T bs ts vs (i + 1)
    | none => nilIds P T bs ts vs (i + 1)
  | _, _, _, _ => []
def nilVs (P : Program) (T : Nat) (ids : List Nat) : List Bool → List TypeId → List V → Nat → List V
  | b :: bs, t :: ts, v :: vs, i => match nilAt P b t v with
    | some _ => .own (T + i) :: nilVs P T ids bs ts vs (i + 1)
    | none => killAll ids v :: nilVs P T ids bs ts vs (i + 1)
  | _, _, vs, _ => vs.map (killAll ids)
def newNil {α : Type} : List (Nat × CTs) → Eff α → Eff α
  | [], k => k
  | p :: l, k => .new p.1 (.row (.is true) p.2 []) (newNil l k)
def callE1 (E : Env) (cf : Cf E) (d : Option Nat) (f : Nat) (vs : List V) : Eff V :=
  let l := nilIds E.P (tag d 900) (E.lend f) (paramsOf E.P f) vs 0
  newNil l (callE0 E cf d f (nilVs E.P (tag d 900) (l.map (·.1)).reverse (E.lend f) (paramsOf E.P f) vs 0))
/-- strings.Builder: what its methods do -/
def bldE (n : Nat) (vs : List V) : Eff V := match n, vs with
  | 1, [.box id 0, .str s] => .get id fun
    | .bld a => .ite (leI (addZ (sz a) (sz s)) lenBound) (.set id (some (.bld (catS a s))) (.ret (.tup [.int .i64 (sz s), .cst .nilIface]))) .fail
    | _ => .fail
  | 2, [.box id 0, .int .u8 c] => .get id fun
    | .bld a => .ite (leI 0 c) (.ite (ltI c 256) (.ite (leI (addZ (sz a) 1) lenBound) (.set id (some (.bld (catS a (bytesOf [c])))) (.ret (.cst .nilIface))) .fail) .fail) .fail
    | _ => .fail
  | 3, [.box id 0] => .get id fun
    | .bld a => .set id none (.ret (.str a))
    | _ => .fail
  | 4, [.box id 0] => .get id fun
    | .bld a => .ret (.int .i64 (sz a))
    | _ => .fail
  | _, _ => .fail
def callE (E : Env) (cf : Cf E) (d : Option Nat) (f : Nat) (vs : List V) : Eff V := match E.bld f with
  | 0 => callE1 E cf d f vs
  | n => bldE n vs
/-- two structs of plain cells, field by field -/
def eqTV (P : Program) (t : TypeId) (x y : V) : Option Bool := match P.underlying t, x, y with
  | some (.int _), .int k a, .int k' b => if k = k' then some (eqI a b) else none
  | some .bool, .bool a, .bool b => some (eqB a b)
  | some .string, .str a, .str b => some (bytesEq a b)
  | _, _, _ => none
def eqFieldsV (P : Program) (xs ys : List V) : List Field → Option Bool
  | [] => some true
  | f :: fs => bif f.name == "_" then none else match xs[f.offset]?, ys[f.offset]? with
    | some x, some y => match eqTV P f.type x y, eqFieldsV P xs ys fs with
      | some r, some s => some (andB r s)
      | _, _ => none
    | _, _ => none
def eqStructE (P : Program) (t : TypeId) (fs : List Field) (x y : V) : Eff Bool := match x, y with
  | .agg xs, .agg ys => bif P.stoodInHeld t || P.eqGuardType P.depth t then .fail else match eqFieldsV P xs ys fs with
    | some r => .ret r
    | none => .fail
  | _, _ => .fail
/-- what a variable of the program holds, if it is known -/
def gvOf (E : Env) : Operand → Option V
  | .global g => E.gv g
  | _ => none
def effOp (E : Env) (cf : Cf E) (o : Oper) (rv : Operand → V) : Eff V :=
  let P := E.P
  match o.op with
  | .move x => .ret (rv x)
  | .assign x => .ret (rv x)
  | .pick c a b => (match rv c with
    | .bool t => .ite t (.ret (rv a)) (.ret (rv b))
    | _ => .fail)
  | .alloc t => bif E.isB t then .new (tag o.dst 0) (.bld ⟨#[]⟩) (.ret (.box (tag o.dst 0) 0)) else (match zeroV? P t with
    | some z => .new (tag o.dst 0) (.box z) (.ret (.box (tag o.dst 0) 0))
    | none => .fail)
  | .box _ x => (match (rv x).cells? with
    | some vs => .new (tag o.dst 0) (.box vs) (.ret (.box (tag o.dst 0) 0))
    | none => .fail)
  | .build t ps => buildE P t (ps.toList.map fun p => (p.1, rv p.2))
  | .buildSlice t n ps => buildSliceE P o.dst t n (ps.toList.map fun p => (p.1, rv p.2))
  | .load t a => (match gvOf E a with
    | some v => bif flatT P t then .ret v else .fail
    | none => (match rv a with
      | .mt id p => mtLoadE P t id p
      | x => loadE P t x))
  | .store t a x => (match rv a with
    | .mt id p => mtStoreE P t id p (rv x)
    | y => storeE P t y (rv x))
  | .nilCheck x => (match rv x with
    | .box id off => .ret (.box id off)
    | .el id i off => .ret (.el id i off)
    | .roel e x off => .ret (.roel e x off)
    | .mt id (.adr i) => .ret (.mt id (.adr i))
    | .mt id (.cel i j) => .ret (.mt id (.cel i j))
    | .fn f a b => .ret (.fn f a b)
    | _ => .fail)
  | .binOp op t x y _ => (match op, P.underlying t with
    | .eql, some (.slice _) => bif isNil (rv y) then (nilE (rv x)).bind fun b => .ret (.bool b) else .fail
    | .neq, some (.slice _) => bif isNil (rv y) then (nilE (rv x)).bind fun b => .ret (.bool (notB b)) else .fail
    | .eql, some (.struct fs) => (eqStructE P t fs.toList (rv x) (rv y)).bind fun b => .ret (.bool b)
    | .neq, some (.struct fs) => (eqStructE P t fs.toList (rv x) (rv y)).bind fun b => .ret (.bool (notB b))
    | .eql, some .bool => (match rv x, rv y with
      | .bool a, .bool b => .ret (.bool (eqB a b))
      | _, _ => .fail)
    | .neq, some .bool => (match rv x, rv y with
      | .bool a, .bool b => .ret (.bool (notB (eqB a b)))
      | _, _ => .fail)
    | _, _ => binE op (rv x) (rv y))
  | .unOp op _ x => unE op (rv x)
  | .convert s t x => convE P o.dst s t (rv x)
  | .makeSlice t l c => bif (matOf? P t).isSome then mtMakeE P o.dst t (rv l) (rv c) else makeSliceE P o.dst t (rv l) (rv c)
  | .slice t x lo hi mx => sliceE P t (rv x).unrc (lo.map rv) (hi.map rv) (mx.map rv)
  | .fieldAddr s x f => (match field? P s f, rv x with
    | some (off, n, _), .box id o => bif Nat.beq n 0 then .fail else .ret (.box id (o + off))
    | some (off, n, _), .el id i o => bif Nat.beq n 0 then .fail else .ret (.el id i (o + off))
    | some (off, n, _), .roel e x o => bif Nat.beq n 0 then .fail else .ret (.roel e x (o + off))
    | _, _ => .fail)
  | .field s x f => (match field? P s f, rv x with
    | some (off, n, ag), .agg cs => bif ag then .ret (.agg ((cs.drop off).take n)) else (match cs[off]? with
      | some v => .ret v
      | none => .fail)
    | _, _ => .fail)
  | .indexAddr t x i => (match rv x with
    | .mt id p => mtIndexE P t id p (rv i)
    | .box id off => arrIndexE P t id off (rv i)
    | x => indexAddrE P t x.unrc (rv i))
  | .index t x i => indexE P t (rv x) (rv i)
  | .extract x i => (match rv x with
    | .tup vs => (match vs[i]? with
      | some v => .ret v
      | none => .fail)
    | _ => .fail)
  | .makeFunc (.func f) first cap => .ret (.fn f (first.toList.map rv) (cap.toList.map rv))
  | .call c => (match c.callee with
    | .value x => (match rv x with
      | .fn f first cap => callE E cf o.dst f (first ++ c.args.toList.map rv ++ cap)
      | _ => .fail)
    | .builtin b => (match b, c.args.toList.map rv, c.argTypes.toList with
      | .len, [x], t :: _ => lenE P t x.unrc
      | .append, [s, x], [t, u] => bif (Nat.beq u t && !isStrV x) || (isStr P u && isStrV x) then appendE P o.dst t s x else .fail
      | .max, [x, y], _ => mxE x y
      | .min, [x, y], _ => mnE x y
      | .clear, [x], [t] => clearE P t x
      | _, _, _ => .fail)
    | _ => .fail)
  | _ => .fail

/-! ### regions -/
/-- what names a new object has gone -/
def tmAfter (ns : List Nat) (tm : Nat → V) : Nat → V := match ns with
  | [] => tm
  | ns => fun i => killAll ns (tm i)
def stepE {ρ : Type} (E : Env) (cf : Cf E) (o : Oper) (st : St) (K : St → Option ρ) : Option ρ :=
  (effOp E cf o st.rv).run st.ob ⟨[], [], []⟩ fun v ob' f => v.force fun v => K (St.put? { tm := tmAfter f.ns st.tm, ob := ob' } o.dst v)
def dstOf (ops : List Oper) (g : Nat) : Option Nat := match ops[g]? with
  | some o => o.dst
  | none => none
def evR {ρ : Type} (E : Env) (cf : Cf E) (ops : List Oper) : List Oper → St → (St → Option ρ) → Option ρ
  | [], st, K => K st
  | o :: rest, st, K => match o.guard with
    | none => stepE E cf o st fun st' => evR E cf ops rest st' K
    | some (g, want) => match dstOf ops g with
      | none => none
      | some t => match st.tm t with
        | .bool b => brB b
            (bif want then stepE E cf o (st.put t (.bool true)) fun st' => evR E cf ops rest st' K
              else evR E cf ops rest (St.put? (st.put t (.bool true)) o.dst (.tup [])) K)
            (bif want then evR E cf ops rest (St.put? (st.put t (.bool false)) o.dst (.tup [])) K
              else stepE E cf o (st.put t (.bool false)) fun st' => evR E cf ops rest st' K)
        | .tup [] => evR E cf ops rest (St.put? st o.dst (.tup [])) K
        | _ => none

/-! ### regions whose order is drawn: the text's order is done, and looked at whether another order could tell -/
def V.full : V → Bool
  | .un => false
  | .agg vs => go vs
  | .tup vs => go vs
  | .fn _ a b => go a && go b
  | _ => true
  where go : List V → Bool
  | [] => true
  | v :: vs => v.full && go vs
def obFull : Option O → Bool
  | some (.box cs) => V.full.go cs
  | _ => true
def obIds : Option O → List Nat
  | some (.box cs) => V.ids.go cs
  | _ => []
structure Rec where
  o : Oper
  q : Bool
  fl : Bool
  ids : List Nat
  rs : List Nat
  xs : List Nat
  ns : List Nat
  ws : List Nat
  wi : List Nat
def mkRec (o : Oper) (st : St) (v : V) (ob' : Ob) (f : Fp) : Rec :=
  let us := o.op.operands.toList.map st.rv
  { o, q := f.ws.isEmpty && f.ns.isEmpty, fl := V.full.go us && f.rs.all fun id => obFull (st.ob id),
    ids := V.ids.go us ++ v.ids ++ (f.rs.map fun id => obIds (st.ob id)).flatten, rs := f.rs, xs := f.ns ++ f.ws, ns := f.ns, ws := f.ws, wi := ((f.ns ++ f.ws).map fun id => obIds (ob' id)).flatten }
def skipRec (o : Oper) : Rec := { o, q := true, fl := true, ids := [], rs := [], xs := [], ns := [], ws := [], wi := [] }
def apartIds (x q : Rec) : Bool := (x.ns.all fun id => !q.ids.contains id) && x.xs.all fun id => !q.rs.contains id
def disj (xs ys : List Nat) : Bool := xs.all fun id => !ys.contains id
/-- what is written was read; what is new is not written -/
def Rec.neat (x : Rec) : Bool := (x.ws.all fun id => x.rs.contains id) && disj x.ns x.ws
/-- both write, each elsewhere -/
def apart2 (x y : Rec) : Bool := y.fl && x.neat && y.neat && disj x.xs y.rs && disj x.xs y.xs && disj y.xs x.rs && disj y.ns x.ids && disj y.ns x.wi && disj x.ns y.ids && disj x.ns y.wi
def pairOk (ops : Array Oper) (x y : Rec) : Bool :=
  Oper.apart ops x.o y.o && ((x.q && y.q) || (x.q && x.fl && apartIds y x) || (y.q && y.fl && apartIds x y) || apart2 x y)
def edgeMask (acc : List Nat) : List Edge → Nat
  | [] => 0
  | e :: es => bif Region.binds .any e then (2 ^ e.on ||| (acc[e.on]?).getD 0) ||| edgeMask acc es else edgeMask acc es
def masks : List Oper → List Nat → List Nat
  | [], acc => acc
  | o :: l, acc => masks l (acc ++ [edgeMask acc o.after.toList])
def edgesDown : List Oper → Nat → Bool
  | [], _ => true
  | o :: l, i => o.after.toList.all (fun e => !Region.binds .any e || Nat.blt e.on i) && edgesDown l (i + 1)
def pairsOk (ops : Array Oper) (ms : List Nat) (i : Nat) (r : Rec) (rs : List (Nat × Rec)) : Bool :=
  rs.all fun p => Nat.testBit ((ms[i]?).getD 0) p.1 || pairOk ops p.2 r
/-- numbers and flags, evaluated once -/
def natK {ρ : Type} (n : Nat) (K : Nat → ρ) : ρ := match n with
  | 0 => K 0
  | m + 1 => K (m + 1)
def natsK {ρ : Type} (ns : List Nat) (K : List Nat → ρ) : ρ := match ns with
  | [] => K []
  | n :: ns => natK n fun n => natsK ns fun ns => K (n :: ns)
def boolK {ρ : Type} (b : Bool) (K : Bool → ρ) : ρ := match b with
  | true => K true
  | false => K false
def recK {ρ : Type} (r : Rec) (K : Rec → ρ) : ρ := boolK r.q fun q => boolK r.fl fun fl => natsK r.ids fun ids => natsK r.rs fun rs => natsK r.xs fun xs => natsK r.ns fun ns => natsK r.ws fun ws => natsK r.wi fun wi => K ⟨r.o, q, fl, ids, rs, xs, ns, ws, wi⟩
def masksK {ρ : Type} : List Oper → List Nat → (List Nat → ρ) → ρ
  | [], acc, K => K acc
  | o :: l, acc, K => natK (edgeMask acc o.after.toList) fun n => masksK l (acc ++ [n]) K
theorem natK_eq {ρ : Type} (n : Nat) (K : Nat → ρ) : natK n K = K n := by cases n <;> rfl
theorem natsK_eq {ρ : Type} : ∀ (ns : List Nat) (K : List Nat → ρ), natsK ns K = K ns
  | [], _ => rfl
  | n :: ns, K => by simp only [natsK, natK_eq]; rw [natsK_eq ns]
theorem boolK_eq {ρ : Type} (b : Bool) (K : Bool → ρ) : boolK b K = K b := by cases b <;> rfl
theorem recK_eq {ρ : Type} (r : Rec) (K : Rec → ρ) : recK r K = K r := by simp only [recK, boolK_eq, natsK_eq]
theorem masksK_eq {ρ : Type} : ∀ (l : List Oper) (acc : List Nat) (K : List Nat → ρ), masksK l acc K = K (masks l acc)
  | [], _, _ => rfl
  | o :: l, acc, K => by simp only [masksK, natK_eq, masks]; rw [masksK_eq l]
def evRD {ρ : Type} (E : Env) (cf : Cf E) (ops : Array Oper) (ms : List Nat) : List Oper → Nat → St → List (Nat × Rec) → (St → Option ρ) → Option ρ
  | [], _, st, _, K => K st
  | o :: rest, i, st, rs, K =>
    let doIt : St → Option ρ := fun st => (effOp E cf o st.rv).run st.ob ⟨[], [], []⟩ fun v ob' f => v.force fun v => recK (mkRec o st v ob' f) fun rc =>
      bif pairsOk ops ms i rc rs then evRD E cf ops ms rest (i + 1) (St.put? { tm := tmAfter f.ns st.tm, ob := ob' } o.dst v) (rs ++ [(i, rc)]) K else none
    let skipIt : St → Option ρ := fun st =>
      bif pairsOk ops ms i (skipRec o) rs then evRD E cf ops ms rest (i + 1) (St.put? st o.dst (.tup [])) (rs ++ [(i, skipRec o)]) K else none
    match o.guard with
    | none => doIt st
    | some (g, want) => match dstOf ops.toList g with
      | none => none
      | some t => match st.tm t with
        | .bool b => brB b
            (bif want then doIt (st.put t (.bool true)) else skipIt (st.put t (.bool true)))
            (bif want then skipIt (st.put t (.bool false)) else doIt (st.put t (.bool false)))
        | .tup [] => skipIt st
        | _ => none

/-! ### code -/
def keyOf : Code → Nat
  | .region id _ _ => id
  | .seq a _ => keyOf a
  | .block _ b => keyOf b
  | .loop b => keyOf b
  | .cond _ a _ => keyOf a
  | _ => 0
def nrmK {ρ : Type} (m : Nat) (h : Option Hint) (st : St) (K : St → ρ) : ρ := match h with
  | some h => normK m h st K
  | none => K st
/-- where code behind a fork is shared -/
noncomputable def joinB {ρ : Type} : Option ρ → Option ρ := shut fun x => x
theorem joinB_eq {ρ : Type} (x : Option ρ) : joinB x = x := by rw [joinB, shut_eq]
def mark {ρ : Type} (h : Option Hint) (x : Option ρ) : Option ρ := match h with
  | some _ => joinB x
  | none => x
/-- behind the loop's body: round again -/
def lpK {ρ : Type} (again : St → (Exit → St → Option ρ) → Option ρ) (nm : St → (St → Option ρ) → Option ρ) (K : Exit → St → Option ρ) : Exit → St → Option ρ := fun e st1 => match e with
  | .normal => nm st1 fun st2 => again st2 K
  | e => K e st1
def loopK {ρ : Type} (body : St → (Exit → St → Option ρ) → Option ρ) (nm : St → (St → Option ρ) → Option ρ) : Nat → St → (Exit → St → Option ρ) → Option ρ
  | 0, _, _ => none
  | k + 1, st, K => body st (lpK (loopK body nm k) nm K)
def seqKont {ρ : Type} (m : Nat) (h : Option Hint) (ev : St → (Exit → St → Option ρ) → Option ρ) (K : Exit → St → Option ρ) : Exit → St → Option ρ := fun e st1 => match e with
  | .normal => nrmK m h st1 fun st2 => mark h (ev st2 K)
  | e => K e st1
def blockKont {ρ : Type} (id : Nat) (K : Exit → St → Option ρ) : Exit → St → Option ρ := fun e st1 => match e with
  | .exit id' => bif Nat.beq id' id then K .normal st1 else K e st1
  | e => K e st1
def evK {ρ : Type} (E : Env) (cf : Cf E) (f m k : Nat) : Code → St → (Exit → St → Option ρ) → Option ρ
  | .skip, st, K => K .normal st
  | .label _, st, K => K .normal st
  | .region _ ops draw, st, K => bif draw
      then (bif edgesDown ops.toList 0 then masksK ops.toList [] fun ms => evRD E cf ops ms ops.toList 0 st [] fun st' => K .normal st' else none)
      else evR E cf ops.toList ops.toList st fun st' => K .normal st'
  | .seq a b, st, K => evK E cf f m k a st (seqKont m (E.joinHint f (keyOf b)) (evK E cf f m k b) K)
  | .cond c a b, st, K => match st.rv c with
    | .bool t => brB t (evK E cf f m k a st K) (evK E cf f m k b st K)
    | _ => none
  | .block id b, st, K => evK E cf f m k b st (blockKont id K)
  | .loop b, st, K => nrmK m (E.loopHint f (keyOf b)) st fun st1 => loopK (evK E cf f m k b) (nrmK m (E.loopHint f (keyOf b))) k st1 K
  | .exit id, st, K => K (.exit id) st
  | .ret, st, K => K .ret st
  | _, _, _ => none

/-- every destination of the code is a temporary of the function -/
def dstsOk (N : Nat) (ops : List Oper) : Bool := ops.all fun o => match o.dst with
  | some d => Nat.blt d N
  | none => true
def codeOk (N : Nat) : Code → Bool
  | .region _ ops _ => dstsOk N ops.toList
  | .seq a b => codeOk N a && codeOk N b
  | .cond _ a b => codeOk N a && codeOk N b
  | .block _ b => codeOk N b
  | .loop b => codeOk N b
  | _ => true
/-! ### functions -/
def resV (P : Program) (st : St) : ResultVar → Option V
  | .tmp t => some (st.tm t)
  | .cell a t => match st.tm a with
    | .box id off => match st.ob id, tagg P t with
      | some (.box cs), some true => bif Nat.ble (off + tsize P t) cs.length then some (.agg ((cs.drop off).take (tsize P t))) else none
      | some (.box cs), some false => cs[off]?
      | _, _ => none
    | _ => none
def resVs (P : Program) (st : St) : List ResultVar → Option (List V)
  | [] => some []
  | r :: rs => match resV P st r, resVs P st rs with
    | some v, some vs => some (v :: vs)
    | _, _ => none
def resOf (P : Program) (st : St) (rs : List ResultVar) : Option V := match resVs P st rs with
  | some [v] => some v
  | some vs => some (.tup vs)
  | none => none
def initSt (vs : List V) (os : List O) : St := { tm := fun i => (vs[i]?).getD (.tup []), ob := fun i => os[i]? }
def finK (E : Env) (f : Nat) (rs : List ResultVar) (e : Exit) (st : St) : Option (E.sig f).T :=
  match e with
  | .normal | .ret => match resOf E.P st rs with
    | some v => (E.sig f).proj st.ob v
    | none => none
  | _ => none
def evFn (E : Env) (cf : Cf E) (f k : Nat) (fn : Func) (vs : List V) (os : List O) : Option (E.sig f).T :=
  match fn.body with
  | some c => bif codeOk fn.ntmps c then evK E cf f os.length k c (initSt vs os) (finK E f fn.results.toList) else none
  | none => none
def evF (E : Env) (ext : Cf E) : Nat → Cf E
  | 0, f, vs, os => ext f vs os
  | k + 1, f, vs, os => bif E.over f then ext f vs os else match E.P.funcs[f]? with
    | some fn => match fn.body with
      | some _ => evFn E (evF E ext k) f k fn vs os
      | none => ext f vs os
    | none => none
end
end Go.Eng
