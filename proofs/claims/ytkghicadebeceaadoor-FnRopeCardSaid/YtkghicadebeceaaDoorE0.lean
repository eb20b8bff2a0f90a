/- The evaluator: the loaded code over pure values. No proofs here but small ones. -/
import Derived.Calls
import Derived.Orders
namespace Go.Eng

/-! ### kinds of cells, rows of elements -/
mutual
inductive CT where
  | int (k : IntKind) | bool | str | row (e : CTs)
inductive CTs where
  | one (c : CT) | cons (c : CT) (cs : CTs)
end
mutual
def CT.D : CT → Type
  | .int _ => Int
  | .bool => Bool
  | .str => ByteArray
  | .row e => List (CTs.D e)
def CTs.D : CTs → Type
  | .one c => CT.D c
  | .cons c cs => CT.D c × CTs.D cs
end
mutual
def CT.same : CT → CT → Bool
  | .int k, .int k' => decide (k = k')
  | .bool, .bool => true
  | .str, .str => true
  | .row e, .row e' => CTs.same e e'
  | _, _ => false
def CTs.same : CTs → CTs → Bool
  | .one c, .one c' => CT.same c c'
  | .cons c cs, .cons c' cs' => CT.same c c' && CTs.same cs cs'
  | _, _ => false
end
mutual
theorem CT.eq_of_same : ∀ (a b : CT), CT.same a b = true → a = b
  | .int k, .int k', h => by simp [CT.same] at h; rw [h]
  | .bool, .bool, _ => rfl
  | .str, .str, _ => rfl
  | .row e, .row e', h => by simp [CT.same] at h; rw [CTs.eq_of_same e e' h]
  | .int _, .bool, h => by simp [CT.same] at h
  | .int _, .str, h => by simp [CT.same] at h
  | .int _, .row _, h => by simp [CT.same] at h
  | .bool, .int _, h => by simp [CT.same] at h
  | .bool, .str, h => by simp [CT.same] at h
  | .bool, .row _, h => by simp [CT.same] at h
  | .str, .int _, h => by simp [CT.same] at h
  | .str, .bool, h => by simp [CT.same] at h
  | .str, .row _, h => by simp [CT.same] at h
  | .row _, .int _, h => by simp [CT.same] at h
  | .row _, .bool, h => by simp [CT.same] at h
  | .row _, .str, h => by simp [CT.same] at h
theorem CTs.eq_of_same : ∀ (a b : CTs), CTs.same a b = true → a = b
  | .one c, .one c', h => by simp [CTs.same] at h; rw [CT.eq_of_same c c' h]
  | .cons c cs, .cons c' cs', h => by simp [CTs.same] at h; rw [CT.eq_of_same c c' h.1, CTs.eq_of_same cs cs' h.2]
  | .one _, .cons _ _, h => by simp [CTs.same] at h
  | .cons _ _, .one _, h => by simp [CTs.same] at h
end
def CTs.cast {a b : CTs} (h : CTs.same a b = true) (xs : List a.D) : List b.D := CTs.eq_of_same a b h ▸ xs
def CTs.size : CTs → Nat
  | .one _ => 1
  | .cons _ cs => cs.size + 1
def CT.zero : (c : CT) → c.D
  | .int _ => (0 : Int)
  | .bool => false
  | .str => (⟨#[]⟩ : ByteArray)
  | .row e => ([] : List e.D)
def CTs.zero : (e : CTs) → e.D
  | .one c => c.zero
  | .cons c cs => (c.zero, cs.zero)

/-! ### values -/
/-- what is known of nil -/
inductive NI where | unk | is (b : Bool)
inductive V where
  | un
  | int (k : IntKind) (n : Int)
  | bool (b : Bool)
  | str (s : ByteArray)
  | nil
  | pnil
  | ro (e : CTs) (xs : List (CTs.D e))
  | rn (e : CTs) (xs : List (CTs.D e))
  | rc (i : Nat) (e : CTs) (xs : List (CTs.D e))
  | roel (e : CTs) (x : CTs.D e) (off : Nat)
  | own (id : Nat)
  | sub (id : Nat) (lo hi : Int)
  | el (id : Nat) (i : Int) (off : Nat)
  | box (id : Nat) (off : Nat)
  | agg (vs : List V)
  | tup (vs : List V)
  | fn (f : Nat) (first cap : List V)
  | cst (c : Value)
instance : Inhabited V := ⟨.un⟩
inductive O where
  | row (nl : NI) (e : CTs) (xs : List (CTs.D e))
  | box (cs : List V)
  | bld (s : ByteArray)
abbrev Ob := Nat → Option O
def upd (ob : Ob) (id : Nat) (o : Option O) : Ob := fun j => bif Nat.beq j id then o else ob j

/-- a slice that the run was begun with, as one that is read only -/
def V.unrc : V → V
  | .rc _ e xs => .ro e xs
  | v => v
def CT.toV : (c : CT) → c.D → V
  | .int k, n => .int k n
  | .bool, b => .bool b
  | .str, s => .str s
  | .row e, xs => .ro e xs
def CTs.cellV : (e : CTs) → e.D → Nat → V
  | .one c, x, 0 => c.toV x
  | .one _, _, _ + 1 => .un
  | .cons c _, x, 0 => c.toV x.1
  | .cons _ cs, x, j + 1 => cs.cellV x.2 j
/-- n cells from the j-th on -/
def CTs.cellsV (e : CTs) (x : e.D) (j : Nat) : Nat → List V
  | 0 => []
  | n + 1 => e.cellV x j :: e.cellsV x (j + 1) n
def CT.ofV : (c : CT) → V → Option c.D
  | .int k, .int k' n => if k = k' then some n else none
  | .bool, .bool b => some b
  | .str, .str s => some s
  | .row e, .nil => some ([] : List e.D)
  | _, _ => none
def CTs.setV : (e : CTs) → e.D → Nat → V → Option e.D
  | .one c, _, 0, v => c.ofV v
  | .one _, _, _ + 1, _ => none
  | .cons c _, x, 0, v => (c.ofV v).map fun d => (d, x.2)
  | .cons _ cs, x, j + 1, v => (cs.setV x.2 j v).map fun d => (x.1, d)
def CTs.ofVs : (e : CTs) → List V → Option e.D
  | .one c, [v] => c.ofV v
  | .cons c cs, v :: vs => match c.ofV v, cs.ofVs vs with
    | some d, some ds => some (d, ds)
    | _, _ => none
  | _, _ => none
def CTs.setsV (e : CTs) (x : e.D) (j : Nat) : List V → Option e.D
  | [] => some x
  | v :: vs => (e.setV x j v).bind fun x' => e.setsV x' (j + 1) vs
/-- no cell is a row -/
def CTs.flat : CTs → Bool
  | .one (.row _) => false
  | .one _ => true
  | .cons (.row _) _ => false
  | .cons _ cs => cs.flat
/-- a value that no evaluation looks into -/
theorem shut_ex {α : Type} (a : α) : ∃ x, x = a := ⟨a, rfl⟩
noncomputable def shut {α : Type} (a : α) : α := Classical.choose (shut_ex a)
theorem shut_eq {α : Type} (a : α) : shut a = a := Classical.choose_spec (shut_ex a)
/-- tests and lengths under names of their own: where they are met no evaluation goes on -/
noncomputable def ltI : Int → Int → Bool := shut fun a b => decide (a < b)
theorem ltI_eq (a b : Int) : ltI a b = (decide (a < b)) := by rw [ltI, shut_eq]
noncomputable def leI : Int → Int → Bool := shut fun a b => decide (a ≤ b)
theorem leI_eq (a b : Int) : leI a b = (decide (a ≤ b)) := by rw [leI, shut_eq]
noncomputable def eqI : Int → Int → Bool := shut fun a b => decide (a = b)
theorem eqI_eq (a b : Int) : eqI a b = (decide (a = b)) := by rw [eqI, shut_eq]
def leN (a b : Nat) : Bool := decide (a ≤ b)
def ltN (a b : Nat) : Bool := decide (a < b)
def ln {α : Type} (xs : List α) : Int := (xs.length : Int)
def sz (s : ByteArray) : Int := (s.size : Int)
def subs (s : ByteArray) (l h : Int) : ByteArray := s.extract l.toNat h.toNat
noncomputable def strLess : ByteArray → ByteArray → Bool := shut fun a b => Op.bytesLess a.toList b.toList
theorem strLess_eq (a b : ByteArray) : strLess a b = (Op.bytesLess a.toList b.toList) := by rw [strLess, shut_eq]
noncomputable def bytesEq : ByteArray → ByteArray → Bool := shut fun a b => a.toList == b.toList
theorem bytesEq_eq (a b : ByteArray) : bytesEq a b = (a.toList == b.toList) := by rw [bytesEq, shut_eq]
def takeI {α : Type} (xs : List α) (n : Int) : List α := xs.take n.toNat
def dropI {α : Type} (xs : List α) (n : Int) : List α := xs.drop n.toNat
def setI {α : Type} (xs : List α) (i : Int) (x : α) : List α := xs.set i.toNat x
def repI {α : Type} (n : Int) (z : α) : List α := List.replicate n.toNat z
def catL {α : Type} (xs ys : List α) : List α := xs ++ ys
def catS (a b : ByteArray) : ByteArray := a ++ b
noncomputable def maxI : Int → Int → Int := shut fun a b => if a < b then b else a
theorem maxI_eq (a b : Int) : maxI a b = (if a < b then b else a) := by rw [maxI, shut_eq]
noncomputable def minI : Int → Int → Int := shut fun a b => if b < a then b else a
theorem minI_eq (a b : Int) : minI a b = (if b < a then b else a) := by rw [minI, shut_eq]
noncomputable def shlI : IntKind → Int → Int → Int := shut fun k a b => k.wrap (a * 2 ^ (min b.toNat k.bits))
theorem shlI_eq (k : IntKind) (a b : Int) : shlI k a b = (k.wrap (a * 2 ^ (min b.toNat k.bits))) := by rw [shlI, shut_eq]
noncomputable def shrI : IntKind → Int → Int → Int := shut fun k a b => a.fdiv (2 ^ (min b.toNat k.bits))
theorem shrI_eq (k : IntKind) (a b : Int) : shrI k a b = (a.fdiv (2 ^ (min b.toNat k.bits))) := by rw [shrI, shut_eq]
noncomputable def andI : IntKind → Int → Int → Int := shut fun k a b => k.wrap (BitVec.ofInt k.bits a &&& BitVec.ofInt k.bits b).toNat
theorem andI_eq (k : IntKind) (a b : Int) : andI k a b = (k.wrap (BitVec.ofInt k.bits a &&& BitVec.ofInt k.bits b).toNat) := by rw [andI, shut_eq]
noncomputable def orI : IntKind → Int → Int → Int := shut fun k a b => k.wrap (BitVec.ofInt k.bits a ||| BitVec.ofInt k.bits b).toNat
theorem orI_eq (k : IntKind) (a b : Int) : orI k a b = (k.wrap (BitVec.ofInt k.bits a ||| BitVec.ofInt k.bits b).toNat) := by rw [orI, shut_eq]
noncomputable def xorI : IntKind → Int → Int → Int := shut fun k a b => k.wrap (BitVec.ofInt k.bits a ^^^ BitVec.ofInt k.bits b).toNat
theorem xorI_eq (k : IntKind) (a b : Int) : xorI k a b = (k.wrap (BitVec.ofInt k.bits a ^^^ BitVec.ofInt k.bits b).toNat) := by rw [xorI, shut_eq]
noncomputable def andNotI : IntKind → Int → Int → Int := shut fun k a b => k.wrap (BitVec.ofInt k.bits a &&& ~~~ BitVec.ofInt k.bits b).toNat
theorem andNotI_eq (k : IntKind) (a b : Int) : andNotI k a b = (k.wrap (BitVec.ofInt k.bits a &&& ~~~ BitVec.ofInt k.bits b).toNat) := by rw [andNotI, shut_eq]
noncomputable def addI : IntKind → Int → Int → Int := shut fun k a b => k.wrap (a + b)
theorem addI_eq (k : IntKind) (a b : Int) : addI k a b = (k.wrap (a + b)) := by rw [addI, shut_eq]
noncomputable def subI : IntKind → Int → Int → Int := shut fun k a b => k.wrap (a - b)
theorem subI_eq (k : IntKind) (a b : Int) : subI k a b = (k.wrap (a - b)) := by rw [subI, shut_eq]
noncomputable def mulI : IntKind → Int → Int → Int := shut fun k a b => k.wrap (a * b)
theorem mulI_eq (k : IntKind) (a b : Int) : mulI k a b = (k.wrap (a * b)) := by rw [mulI, shut_eq]
noncomputable def quoI : IntKind → Int → Int → Int := shut fun k a b => k.wrap (a.tdiv b)
theorem quoI_eq (k : IntKind) (a b : Int) : quoI k a b = (k.wrap (a.tdiv b)) := by rw [quoI, shut_eq]
noncomputable def remI : Int → Int → Int := shut fun a b => a.tmod b
theorem remI_eq (a b : Int) : remI a b = (a.tmod b) := by rw [remI, shut_eq]
noncomputable def wrI : IntKind → Int → Int := shut fun k a => k.wrap a
theorem wrI_eq (k : IntKind) (a : Int) : wrI k a = (k.wrap a) := by rw [wrI, shut_eq]
noncomputable def mulZ : Int → Int → Int := shut fun a b => a * b
theorem mulZ_eq (a b : Int) : mulZ a b = (a * b) := by rw [mulZ, shut_eq]
noncomputable def addZ : Int → Int → Int := shut fun a b => a + b
theorem addZ_eq (a b : Int) : addZ a b = (a + b) := by rw [addZ, shut_eq]
noncomputable def subZ : Int → Int → Int := shut fun a b => a - b
theorem subZ_eq (a b : Int) : subZ a b = (a - b) := by rw [subZ, shut_eq]
def notB (b : Bool) : Bool := !b
def orB (a b : Bool) : Bool := a || b
def andB (a b : Bool) : Bool := a && b
def eqB (a b : Bool) : Bool := a == b
def rd {α : Type} (xs : List α) (i : Int) (z : α) : α := xs.getD i.toNat z
/-- a byte of a string -/
def bt (s : ByteArray) (i : Int) : Int := ((s.data.toList.getD i.toNat 0).toNat : Int)

def oneC : Value → Bool
  | .agg _ => false
  | .tuple _ => false
  | _ => true
def constV : Value → V
  | .int k n => .int k n
  | .bool b => .bool b
  | .string s => .str s
  | .slice none 0 0 => .nil
  | .pointer none => .pnil
  | .agg cs => .agg (cs.toList.map fun
      | .int k n => .int k n
      | .bool b => .bool b
      | .string s => .str s
      | .slice none 0 0 => .nil
      | .pointer none => .pnil
      | c => bif oneC c then .cst c else .un)
  | c => bif oneC c then .cst c else .un
def V.cells? : V → Option (List V)
  | .agg vs => some vs
  | .un => none
  | .tup _ => none
  | v => some [v]
/-- one cell, for certain -/
def V.solid : V → Bool
  | .agg _ => false
  | .un => false
  | .tup _ => false
  | _ => true

/-! ### effects on the objects -/
inductive Eff (α : Type) : Type 1 where
  | ret (a : α)
  | fail
  | ite (c : Bool) (t e : Eff α)
  | get (id : Nat) (k : O → Eff α)
  | set (id : Nat) (o : Option O) (k : Eff α)
  | new (id : Nat) (o : O) (k : Eff α)
  | opt {β : Type} (x : Option β) (k : β → Eff α)
structure Fp where
  rs : List Nat
  ws : List Nat
  ns : List Nat
/-- a value without what names the object id -/
def V.kill (id : Nat) : V → V
  | .own j => bif Nat.beq j id then .un else .own j
  | .sub j a b => bif Nat.beq j id then .un else .sub j a b
  | .el j i o => bif Nat.beq j id then .un else .el j i o
  | .box j o => bif Nat.beq j id then .un else .box j o
  | .agg vs => .agg (go id vs)
  | .tup vs => .tup (go id vs)
  | .fn f a b => .fn f (go id a) (go id b)
  | v => v
  where go (id : Nat) : List V → List V
  | [] => []
  | v :: vs => v.kill id :: go id vs
def O.kill (id : Nat) : O → O
  | .row nl e xs => .row nl e xs
  | .box cs => .box (V.kill.go id cs)
  | .bld s => .bld s
def killOb (id : Nat) (ob : Ob) : Ob := fun j => match ob j with
  | some o => some (o.kill id)
  | none => none
def killAll : List Nat → V → V
  | [], v => v
  | id :: ids, v => (killAll ids v).kill id
/-! ### forcing: what is handed on is evaluated first -/
def V.force {ρ : Type} (v : V) (K : V → ρ) : ρ := match v with
  | .un => K .un
  | .int k n => K (.int k n)
  | .bool b => K (.bool b)
  | .str s => K (.str s)
  | .nil => K .nil
  | .pnil => K .pnil
  | .ro e xs => K (.ro e xs)
  | .rn e xs => K (.rn e xs)
  | .rc i e xs => K (.rc i e xs)
  | .roel e x off => K (.roel e x off)
  | .own id => K (.own id)
  | .sub id lo hi => K (.sub id lo hi)
  | .el id i off => K (.el id i off)
  | .box id off => K (.box id off)
  | .agg vs => go vs fun vs => K (.agg vs)
  | .tup vs => go vs fun vs => K (.tup vs)
  | .fn f a b => go a fun a => go b fun b => K (.fn f a b)
  | .cst c => K (.cst c)
  where go {ρ : Type} (vs : List V) (K : List V → ρ) : ρ := match vs with
  | [] => K []
  | v :: vs => v.force fun v => go vs fun vs => K (v :: vs)
def O.force {ρ : Type} (o : O) (K : O → ρ) : ρ := match o with
  | .row nl e xs => K (.row nl e xs)
  | .box cs => V.force.go cs fun cs => K (.box cs)
  | .bld s => K (.bld s)
def forceO {ρ : Type} (o : Option O) (K : Option O → ρ) : ρ := match o with
  | none => K none
  | some o => o.force fun o => K (some o)
/-- where a test decides -/
def brB {α : Type} (c : Bool) (a b : α) : α := bif c then a else b
/-- where an answer of a callee is waited for -/
def optB {β ρ : Type} (x : Option β) (k : β → Option ρ) : Option ρ := x.bind k
def Eff.run {α ρ : Type} : Eff α → Ob → Fp → (α → Ob → Fp → Option ρ) → Option ρ
  | .ret a, ob, f, K => K a ob f
  | .fail, _, _, _ => none
  | .ite c t e, ob, f, K => brB c (t.run ob f K) (e.run ob f K)
  | .get id k, ob, f, K => match ob id with
    | some o => (k o).run ob ⟨id :: f.rs, f.ws, f.ns⟩ K
    | none => none
  | .set id o k, ob, f, K => match ob id with
    | some _ => forceO o fun o => k.run (upd ob id o) ⟨f.rs, id :: f.ws, f.ns⟩ K
    | none => none
  | .new id o k, ob, f, K => match ob id with
    | none => (o.kill id).force fun o => k.run (upd (killOb id ob) id (some o)) ⟨f.rs, f.ws, id :: f.ns⟩ K
    | some _ => none
  | .opt x k, ob, f, K => optB x fun b => (k b).run ob f K
def Eff.bind {α β : Type} : Eff α → (α → Eff β) → Eff β
  | .ret a, g => g a
  | .fail, _ => .fail
  | .ite c t e, g => .ite c (t.bind g) (e.bind g)
  | .get id k, g => .get id fun o => (k o).bind g
  | .set id o k, g => .set id o (k.bind g)
  | .new id o k, g => .new id o (k.bind g)
  | .opt x k, g => .opt x fun b => (k b).bind g
def Eff.ofOpt {α : Type} : Option α → Eff α
  | some a => .ret a
  | none => .fail

/-! ### what a function answers -/
mutual
inductive RT where
  | int (k : IntKind) | bool | str | own (e : CTs) | ownF (e : CTs) | rc (i : Nat) (e : CTs) | ptr (rs : RTs) | agg (rs : RTs) | tup (rs : RTs)
inductive RTs where
  | nil | one (r : RT) | cons (r : RT) (rs : RTs)
end
mutual
def RT.T : RT → Type
  | .int _ => Int
  | .bool => Bool
  | .str => ByteArray
  | .own e => List e.D
  | .ownF e => List e.D × Bool
  | .rc _ e => List e.D
  | .ptr rs => RTs.T rs
  | .agg rs => RTs.T rs
  | .tup rs => RTs.T rs
def RTs.T : RTs → Type
  | .nil => Unit
  | .one r => RT.T r
  | .cons r rs => RT.T r × RTs.T rs
end
mutual
def RT.plain : RT → Bool
  | .int _ => true
  | .bool => true
  | .str => true
  | .rc _ _ => true
  | _ => false
def RTs.plain : RTs → Bool
  | .nil => true
  | .one r => RT.plain r
  | .cons r rs => RT.plain r && RTs.plain rs
end
/-- an object that was lent, at the end -/
inductive FT where
  | row (e : CTs) | box (rs : RTs) | dead | bld
def FT.T : FT → Type
  | .row e => List e.D
  | .box rs => rs.T
  | .dead => Unit
  | .bld => ByteArray
def fts : List FT → Type
  | [] => Unit
  | [f] => f.T
  | f :: fs => f.T × fts fs
structure Sig where
  res : RT
  fin : List FT := []
def Sig.T (s : Sig) : Type := match s.fin with
  | [] => s.res.T
  | fs => s.res.T × fts fs
/-- a slice's row: the list, and the objects it takes -/
def rowOf (ob : Ob) (e : CTs) (used : List Nat) : V → Option (List e.D × List Nat)
  | .nil => bif e.flat then some ([], used) else none
  | .own id => bif used.contains id then none else match ob id with
    | some (.row _ e' xs) => if h : CTs.same e' e = true then some (CTs.cast h xs, id :: used) else none
    | _ => none
  | .sub id (.ofNat 0) hi => bif used.contains id then none else match ob id with
    | some (.row _ e' xs) => if h : CTs.same e' e = true then some (takeI (CTs.cast h xs) hi, id :: used) else none
    | _ => none
  | _ => none
/-- what is known of a slice's nil -/
def niOf (ob : Ob) : V → NI
  | .nil => .is true
  | .own id => match ob id with
    | some (.row nl _ _) => nl
    | _ => .unk
  | _ => .unk
def rowFlag (ob : Ob) (e : CTs) (u : List Nat) (v : V) : Option ((List e.D × Bool) × List Nat) := match rowOf ob e u v with
  | some (xs, u') => match niOf ob v with
    | .is b => some ((xs, b), u')
    | .unk => none
  | none => none
mutual
def RT.proj (ob : Ob) : (r : RT) → List Nat → V → Option (r.T × List Nat)
  | .int k, u, v => match v with
    | .int k' n => if k = k' then some (n, u) else none
    | _ => none
  | .bool, u, v => match v with
    | .bool b => some (b, u)
    | _ => none
  | .str, u, v => match v with
    | .str s => some (s, u)
    | _ => none
  | .own e, u, v => rowOf ob e u v
  | .ownF e, u, v => rowFlag ob e u v
  | .rc i e, u, v => match v with
    | .rc i' e' xs => if i = i' then (if h : CTs.same e' e = true then some (CTs.cast h xs, u) else none) else none
    | _ => none
  | .ptr rs, u, v => match v with
    | .box id 0 => bif u.contains id || !rs.plain then none else match ob id with
      | some (.box cs) => RTs.proj ob rs (id :: u) cs
      | _ => none
    | _ => none
  | .agg rs, u, v => match v with
    | .agg vs => RTs.proj ob rs u vs
    | _ => none
  | .tup rs, u, v => match v with
    | .tup vs => RTs.proj ob rs u vs
    | _ => none
def RTs.proj (ob : Ob) : (rs : RTs) → List Nat → List V → Option (rs.T × List Nat)
  | .nil, u, vs => match vs with
    | [] => some ((), u)
    | _ => none
  | .one r, u, vs => match vs with
    | [v] => RT.proj ob r u v
    | _ => none
  | .cons r rs, u, vs => match vs with
    | v :: vs => match RT.proj ob r u v with
      | some (x, u1) => match RTs.proj ob rs u1 vs with
        | some (xs, u2) => some ((x, xs), u2)
        | none => none
      | none => none
    | [] => none
end
def FT.proj (ob : Ob) (id : Nat) (u : List Nat) : (f : FT) → Option (f.T × List Nat)
  | .row e => rowOf ob e u (.own id)
  | .box rs => bif u.contains id then none else match ob id with
    | some (.box cs) => RTs.proj ob rs (id :: u) cs
    | _ => none
  | .dead => some ((), u)
  | .bld => bif u.contains id then none else match ob id with
    | some (.bld s) => some (s, id :: u)
    | _ => none
def ftsProj (ob : Ob) : (id : Nat) → (u : List Nat) → (fs : List FT) → Option (fts fs)
  | _, _, [] => some ()
  | id, u, [f] => match f.proj ob id u with
    | some (x, _) => some x
    | none => none
  | id, u, f :: g :: fs => match f.proj ob id u with
    | some (x, u1) => match ftsProj ob (id + 1) u1 (g :: fs) with
      | some xs => some (x, xs)
      | none => none
    | none => none
def Sig.proj (ob : Ob) (v : V) : (s : Sig) → Option s.T
  | ⟨r, []⟩ => match RT.proj ob r [] v with
    | some (x, _) => some x
    | none => none
  | ⟨r, f :: fs⟩ => match RT.proj ob r [] v with
    | some (x, u) => match ftsProj ob 0 u (f :: fs) with
      | some ys => some (x, ys)
      | none => none
    | none => none
-- the value again, with its rows as new objects from number j on
mutual
def RT.inj : (r : RT) → r.T → Nat → V × List O
  | .int k, n, _ => (.int k n, [])
  | .bool, b, _ => (.bool b, [])
  | .str, s, _ => (.str s, [])
  | .own e, xs, j => (.own j, [.row .unk e xs])
  | .ownF e, x, j => (.own j, [.row (.is x.2) e x.1])
  | .rc i e, xs, _ => (.rc i e xs, [])
  | .ptr rs, x, j => (.box j 0, [.box (RTs.inj rs x j).1])
  | .agg rs, x, j => let (vs, os) := RTs.inj rs x j; (.agg vs, os)
  | .tup rs, x, j => let (vs, os) := RTs.inj rs x j; (.tup vs, os)
def RTs.inj : (rs : RTs) → rs.T → Nat → List V × List O
  | .nil, _, _ => ([], [])
  | .one r, x, j => let (v, os) := RT.inj r x j; ([v], os)
  | .cons r rs, x, j => let (v, os) := RT.inj r x.1 j; let (vs, os') := RTs.inj rs x.2 (j + os.length); (v :: vs, os ++ os')
end
/-- a lent object again: what it is now, and the new objects that it names -/
def FT.inj : (f : FT) → f.T → Nat → Option O × List O
  | .row e, xs, _ => (some (.row .unk e xs), [])
  | .box rs, x, j => let (vs, os) := RTs.inj rs x j; (some (.box vs), os)
  | .dead, _, _ => (none, [])
  | .bld, s, _ => (some (.bld s), [])
def ftsInj : (fs : List FT) → fts fs → Nat → List (Option O) × List O
  | [], _, _ => ([], [])
  | [f], x, j => let (o, os) := f.inj x j; ([o], os)
  | f :: g :: fs, x, j => let (o, os) := f.inj x.1 j; let (l, os') := ftsInj (g :: fs) x.2 (j + os.length); (o :: l, os ++ os')
def Sig.inj : (s : Sig) → s.T → Nat → V × List (Option O) × List O
  | ⟨r, []⟩, x, j => let (v, os) := r.inj x j; (v, [], os)
  | ⟨r, f :: fs⟩, x, j => let (v, os) := r.inj x.1 j; let (l, os') := ftsInj (f :: fs) x.2 (j + os.length); (v, l, os ++ os')
end Go.Eng
