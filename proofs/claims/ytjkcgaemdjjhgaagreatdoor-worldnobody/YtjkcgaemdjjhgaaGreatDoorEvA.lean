/-
  An evaluator for the model's code, over names instead of addresses; no claim is made here.
-/
import GoSem.Dispatch
import Derived.CallsIn
namespace Go.Ev

/-! ### Abstract values: addresses are names; a slice's capacity may be known only from below. -/
inductive AVal where
  | bool (b : Bool) | int (k : IntKind) (n : Int) | str (s : List Nat)
  | pnil | ptr (r off : Nat)
  | snil | sl (r off len cap : Nat) (ex : Bool)
  | mnil | map (r : Nat)
  | func (fn : Fn) (first cap : List AVal) | yld (l : Nat) | fnil
  | iface (t : Nat) (v : AVal) | inil
  | agg (l : List AVal) | tup (l : List AVal)
  | bad
  deriving Inhabited

def AVal.cells : AVal → List AVal
  | .agg l => l
  | v => [v]
def undefA : AVal := .tup []

/-! ### Maps from numbers, as trees. -/
inductive Tr (α : Type) where
  | nil
  | node (v : Option α) (l r : Tr α)
  deriving Inhabited
theorem brec {α : Type} (c : Bool) (t e : α) : @Bool.rec (fun _ => α) e t c = cond c t e := by cases c <;> rfl
noncomputable def Tr.get {α : Type} (t : Tr α) : Nat → Option α :=
  @Tr.rec α (fun _ => Nat → Option α) (fun _ => none)
    (fun v _ _ l r k => (@Bool.rec (fun _ => _) ((@Bool.rec (fun _ => _) (r (Nat.sub (Nat.div k 2) 1)) (l (Nat.div k 2)) (Nat.beq (Nat.mod k 2) 1))) (v) (Nat.beq k 0))) t
noncomputable def Tr.setF {α : Type} (x : α) (f : Nat) : Nat → Tr α → Tr α :=
  @Nat.rec (fun _ => Nat → Tr α → Tr α) (fun _ t => t)
    (fun _ ih k t => @Tr.rec α (fun _ => Nat → (Nat → Tr α → Tr α) → Tr α)
      (fun k ih => (@Bool.rec (fun _ => _) ((@Bool.rec (fun _ => _) (.node none .nil (ih (Nat.sub (Nat.div k 2) 1) .nil)) (.node none (ih (Nat.div k 2) .nil) .nil) (Nat.beq (Nat.mod k 2) 1))) (.node (some x) .nil .nil) (Nat.beq k 0)))
      (fun v l r _ _ k ih => (@Bool.rec (fun _ => _) ((@Bool.rec (fun _ => _) (.node v l (ih (Nat.sub (Nat.div k 2) 1) r)) (.node v (ih (Nat.div k 2) l) r) (Nat.beq (Nat.mod k 2) 1))) (.node (some x) l r) (Nat.beq k 0))) t k ih) f
theorem Tr.get_nil {α : Type} (k : Nat) : (Tr.nil : Tr α).get k = none := rfl
theorem Tr.get_node {α : Type} (v : Option α) (l r : Tr α) (k : Nat) : (Tr.node v l r).get k = bif Nat.beq k 0 then v else bif Nat.beq (k % 2) 1 then l.get (k / 2) else r.get (k / 2 - 1) := by rw [← brec, ← brec]; rfl
theorem Tr.setF_zero {α : Type} (x : α) (k : Nat) (t : Tr α) : Tr.setF x 0 k t = t := rfl
theorem Tr.setF_nil {α : Type} (x : α) (f k : Nat) : Tr.setF x (f + 1) k .nil = bif Nat.beq k 0 then .node (some x) .nil .nil else bif Nat.beq (k % 2) 1 then .node none (Tr.setF x f (k / 2) .nil) .nil else .node none .nil (Tr.setF x f (k / 2 - 1) .nil) := by rw [← brec, ← brec]; rfl
theorem Tr.setF_node {α : Type} (x : α) (f k : Nat) (v : Option α) (l r : Tr α) : Tr.setF x (f + 1) k (.node v l r) = bif Nat.beq k 0 then .node (some x) l r else bif Nat.beq (k % 2) 1 then .node v (Tr.setF x f (k / 2) l) r else .node v l (Tr.setF x f (k / 2 - 1) r) := by rw [← brec, ← brec]; rfl
noncomputable def Tr.set {α : Type} (t : Tr α) (k : Nat) (x : α) : Tr α := Tr.setF x (k + 1) k t

theorem beq_false {a b : Nat} (h : a ≠ b) : Nat.beq a b = false := by
  cases hb : Nat.beq a b
  · rfl
  · exact absurd (Nat.eq_of_beq_eq_true hb) h
theorem ne_of_beq {a b : Nat} (h : Nat.beq a b = false) : a ≠ b := fun e => by subst e; rw [Nat.beq_refl] at h; cases h

theorem Tr.get_setF_same {α : Type} (x : α) : ∀ (f k : Nat) (t : Tr α), k < f → (Tr.setF x f k t).get k = some x := by
  intro f
  induction f with
  | zero => intro k t h; omega
  | succ f ih =>
    intro k t h
    rcases Nat.eq_zero_or_pos k with rfl | hk
    · cases t <;> simp only [Tr.setF_nil, Tr.setF_node, Nat.beq_refl, cond_true, Tr.get_node]
    · have h0 : Nat.beq k 0 = false := beq_false (by omega)
      cases t <;> (simp only [Tr.setF_nil, Tr.setF_node, h0, cond_false]; cases hb : Nat.beq (k % 2) 1 <;> simp only [cond_true, cond_false, Tr.get_node, h0, hb] <;> apply ih <;> omega)

theorem Tr.get_setF_ne {α : Type} (x : α) : ∀ (f k j : Nat) (t : Tr α), j ≠ k → (Tr.setF x f k t).get j = t.get j := by
  intro f
  induction f with
  | zero => intro k j t _; rfl
  | succ f ih =>
    intro k j t h
    cases hk : Nat.beq k 0
    · have hk0 : k ≠ 0 := fun e => by rw [e] at hk; exact Bool.noConfusion hk
      cases hj : Nat.beq j 0
      · have hj0 : j ≠ 0 := fun e => by rw [e] at hj; exact Bool.noConfusion hj
        cases hb : Nat.beq (k % 2) 1 <;> cases hc : Nat.beq (j % 2) 1 <;> cases t <;>
          simp only [Tr.setF_nil, Tr.setF_node, hk, hb, cond_true, cond_false, Tr.get_nil, Tr.get_node, hj, hc] <;>
          first
            | rfl
            | (refine (ih _ _ _ ?_).trans (by rfl); intro e; apply h
               first
                 | (have hb := Nat.eq_of_beq_eq_true hb; have hc := Nat.eq_of_beq_eq_true hc; omega)
                 | (have hb := ne_of_beq hb; have hc := ne_of_beq hc; omega))
      · cases hb : Nat.beq (k % 2) 1 <;> cases t <;> simp only [Tr.setF_nil, Tr.setF_node, hk, hb, cond_true, cond_false, Tr.get_nil, Tr.get_node, hj] 
    · have hk0 : k = 0 := Nat.eq_of_beq_eq_true hk
      have hj : Nat.beq j 0 = false := beq_false (by omega)
      cases hc : Nat.beq (j % 2) 1 <;> cases t <;> simp only [Tr.setF_nil, Tr.setF_node, hk, cond_true, cond_false, Tr.get_nil, Tr.get_node, hj, hc] 

theorem Tr.get_set {α : Type} (t : Tr α) (k j : Nat) (x : α) : (t.set k x).get j = if j = k then some x else t.get j := by
  unfold Tr.set
  by_cases h : j = k
  · subst h; rw [if_pos rfl]; exact Tr.get_setF_same x _ _ t (by omega)
  · rw [if_neg h]; exact Tr.get_setF_ne x _ _ _ t h


/-! ### Numbers, quickly. -/
noncomputable def kcode : IntKind → Nat
  | .i8 => 0 | .i16 => 1 | .i32 => 2 | .i64 => 3 | .u8 => 4 | .u16 => 5 | .u32 => 6 | .u64 => 7
noncomputable def kEq (a b : IntKind) : Bool := Nat.beq (kcode a) (kcode b)
noncomputable def maxN : IntKind → Nat
  | .i8 => 127 | .i16 => 32767 | .i32 => 2147483647 | .i64 => 9223372036854775807
  | .u8 => 255 | .u16 => 65535 | .u32 => 4294967295 | .u64 => 18446744073709551615
noncomputable def sgn : IntKind → Bool
  | .i8 => true | .i16 => true | .i32 => true | .i64 => true | .u8 => false | .u16 => false | .u32 => false | .u64 => false
noncomputable def fits (k : IntKind) : Int → Bool
  | .ofNat m => Nat.ble m (maxN k)
  | .negSucc m => (@Bool.rec (fun _ => _) (false) (Nat.ble m (maxN k)) (sgn k))
noncomputable def wrapF (k : IntKind) (n : Int) : Int := (@Bool.rec (fun _ => _) (k.wrap n) (n) (fits k n))
noncomputable def eqI : Int → Int → Bool
  | .ofNat a, .ofNat b => Nat.beq a b
  | .negSucc a, .negSucc b => Nat.beq a b
  | .ofNat _, .negSucc _ => false
  | .negSucc _, .ofNat _ => false
noncomputable def ltI : Int → Int → Bool
  | .ofNat a, .ofNat b => Nat.ble (a + 1) b
  | .negSucc a, .negSucc b => Nat.ble (b + 1) a
  | .ofNat _, .negSucc _ => false
  | .negSucc _, .ofNat _ => true
noncomputable def bitsS (op : BinOp) (k : IntKind) (x y : Int) : Option Int :=
  let a := BitVec.ofInt k.bits x
  let b := BitVec.ofInt k.bits y
  match op with
  | .and => some (k.wrap (a &&& b).toNat)
  | .or => some (k.wrap (a ||| b).toNat)
  | .xor => some (k.wrap (a ^^^ b).toNat)
  | .andNot => some (k.wrap (a &&& ~~~b).toNat)
  | _ => none
noncomputable def in2 (a b m : Nat) : Bool := (@Bool.rec (fun _ => _) (false) (Nat.ble b m) (Nat.ble a m))
noncomputable def bitsF : BinOp → Int → Int → IntKind → Option Int
  | .and, .ofNat a, .ofNat b, k => (@Bool.rec (fun _ => _) (bitsS .and k (.ofNat a) (.ofNat b)) (some (.ofNat (Nat.land a b))) (in2 a b (maxN k)))
  | .or, .ofNat a, .ofNat b, k => (@Bool.rec (fun _ => _) (bitsS .or k (.ofNat a) (.ofNat b)) (some (.ofNat (Nat.lor a b))) (in2 a b (maxN k)))
  | .xor, .ofNat a, .ofNat b, k => (@Bool.rec (fun _ => _) (bitsS .xor k (.ofNat a) (.ofNat b)) (some (.ofNat (Nat.xor a b))) (in2 a b (maxN k)))
  | op, x, y, k => bitsS op k x y
noncomputable def shlF (k : IntKind) (a : Int) (n : Nat) : Int := wrapF k (Int.mul a (.ofNat (2 ^ n)))
noncomputable def shrF : Int → Nat → Int
  | .ofNat m, n => .ofNat (Nat.div m (2 ^ n))
  | .negSucc m, n => (Int.negSucc m).fdiv (2 ^ n)
noncomputable def nbits : IntKind → Nat
  | .i8 => 8 | .i16 => 16 | .i32 => 32 | .i64 => 64 | .u8 => 8 | .u16 => 16 | .u32 => 32 | .u64 => 64

/-! ### Lists, quickly. -/
def consO {α : Type} (a : α) : Option (List α) → Option (List α)
  | some l => some (a :: l)
  | none => none
noncomputable def nth {α : Type} (l : List α) : Nat → Option α :=
  @List.rec α (fun _ => Nat → Option α) (fun _ => none) (fun a _ ih k => (@Bool.rec (fun _ => _) (ih (Nat.sub k 1)) (some a) (Nat.beq k 0))) l
theorem nth_nil {α : Type} (k : Nat) : nth ([] : List α) k = none := rfl
theorem nth_cons {α : Type} (a : α) (l : List α) (k : Nat) : nth (a :: l) k = bif Nat.beq k 0 then some a else nth l (k - 1) := by rw [← brec]; rfl
noncomputable def len {α : Type} (l : List α) : Nat := @List.rec α (fun _ => Nat) 0 (fun _ _ ih => Nat.add ih 1) l
theorem len_eq {α : Type} (l : List α) : len l = l.length := by
  induction l with
  | nil => rfl
  | cons a l ih => exact congrArg (· + 1) ih
noncomputable def beqN (l : List Nat) : List Nat → Bool :=
  @List.rec Nat (fun _ => List Nat → Bool) (fun m => @List.rec Nat (fun _ => Bool) true (fun _ _ _ => false) m)
    (fun a _ ih m => @List.rec Nat (fun _ => Nat → (List Nat → Bool) → Bool) (fun _ _ => false) (fun b m _ a ih => (@Bool.rec (fun _ => _) (false) (ih m) (Nat.beq a b))) m a ih) l
noncomputable def lessS : List Nat → List Nat → Bool
  | _, [] => false
  | [], _ :: _ => true
  | a :: x, b :: y => (@Bool.rec (fun _ => _) ((@Bool.rec (fun _ => _) (false) (lessS x y) (Nat.beq a b))) (true) (Nat.ble (a + 1) b))
/-- n elements from the place 'off' on -/
noncomputable def cut {α : Type} (l : List α) : Nat → Nat → Option (List α) :=
  @List.rec α (fun _ => Nat → Nat → Option (List α)) (fun off n => (@Bool.rec (fun _ => _) (none) (((@Bool.rec (fun _ => _) (none) (some []) (Nat.beq n 0)))) (Nat.beq off 0)))
    (fun a _ ih off n => (@Bool.rec (fun _ => _) (ih (Nat.sub off 1) n) (((@Bool.rec (fun _ => _) (consO a (ih 0 (Nat.sub n 1))) (some []) (Nat.beq n 0)))) (Nat.beq off 0))) l
/-- the elements from 'off' on replaced by vs; none: they do not fit -/
noncomputable def splice {α : Type} (l : List α) : Nat → List α → Option (List α) :=
  @List.rec α (fun _ => Nat → List α → Option (List α)) (fun off vs => (@Bool.rec (fun _ => _) (none) (@List.rec α (fun _ => Option (List α)) (some []) (fun _ _ _ => none) vs) (Nat.beq off 0)))
    (fun a l ih off vs => (@Bool.rec (fun _ => _) (consO a (ih (Nat.sub off 1) vs)) (@List.rec α (fun _ => α → List α → (Nat → List α → Option (List α)) → Option (List α)) (fun a l _ => some (a :: l)) (fun v vs _ _ _ ih => consO v (ih 0 vs)) vs a l ih) (Nat.beq off 0))) l
noncomputable def reps {α : Type} (z : List α) : Nat → List α
  | 0 => []
  | n + 1 => z ++ reps z n

/-! ### Types. -/
structure FD where
  off : Nat
  size : Nat
  agg : Bool
  deriving Inhabited
inductive PK where | b | i | s
  deriving Inhabited
inductive TD where
  | bool | int (k : IntKind) | str
  | ptr (e : Nat)
  | slice (e esz : Nat) (bytes : Bool)
  | arr (n e esz : Nat) (eagg : Bool)
  | map (kk : Option PK) (zv : AVal)
  | struct (fs : List FD) (pk : Option (List PK))
  | func
  | iface
  | uptr
  | other
  deriving Inhabited
structure TI where
  d : TD
  size : Nat
  zv : AVal
  agg : Bool
  deriving Inhabited
structure Env where
  ty : Tr TI
  fn : Tr Func
  mt : List (Nat × String × Nat)
  ta : List (Nat × Nat × Bool)

noncomputable def ofStr (s : ByteArray) : AVal := .str (s.data.toList.map (·.toNat))
noncomputable def ofPtr (o : Option Addr) : AVal := @Option.rec Addr (fun _ => AVal) .pnil (fun _ => .bad) o
noncomputable def ofSl (o : Option Addr) (n c : Nat) : AVal := @Option.rec Addr (fun _ => AVal) ((@Bool.rec (fun _ => _) (.bad) (((@Bool.rec (fun _ => _) (.bad) (.snil) (Nat.beq c 0)))) (Nat.beq n 0))) (fun _ => .bad) o
noncomputable def ofMap (o : Option Nat) : AVal := @Option.rec Nat (fun _ => AVal) .mnil (fun _ => .bad) o
/-- a constant -/
noncomputable def ofV (v : Value) : AVal :=
  @Value.rec (fun _ => AVal) (fun _ => List AVal) (fun _ => List AVal)
    (fun b => .bool b) (fun k n => .int k n) (fun _ _ => .bad) (fun _ _ _ => .bad) (fun s => ofStr s) (fun o => ofPtr o) (fun o n c => ofSl o n c)
    (fun o => ofMap o) (fun _ => .bad) (fun _ _ _ _ _ => .bad) .fnil (fun t _ v => .iface t v) .inil (fun _ l => .agg l) (fun _ l => .tup l)
    (fun _ l => l) [] (fun _ _ a l => a :: l) v

/-! ### The heap. -/
inductive LSt where | ready | busy | done | exhausted
  deriving Inhabited
inductive AObj where
  | cells (cs : List AVal) (elem : Nat) (loose spent fz : Bool) (anc : List Nat)
  | map (es : List (AVal × AVal × Nat)) (clock : Nat)
  | miter (m : Option Nat) (since : Nat) (seen : List Nat) (last : Nat)
  | siter (s : List Nat) (pos : Nat)
  | loop (tmps : Tr AVal) (N : Nat) (params : List Nat) (assign body : Code) (st : LSt) (pending : Option Code) (dblk : Nat)
  | deferred (taken : Bool)
  | dead
  deriving Inhabited
structure St where
  heap : Tr AObj
  next : Nat
  deriving Inhabited
structure Act where
  tm : Tr AVal
  N : Nat
  defers : List (AVal × List AVal)
  rnd : Bool
  deriving Inhabited
inductive AExit where | normal | exit (id : Nat) | goto (l : Nat) | ret
  deriving Inhabited

noncomputable def orUndef (o : Option AVal) : AVal := @Option.rec AVal (fun _ => AVal) undefA (fun v => v) o
noncomputable def evalR (x : Operand) : Tr AVal → AVal :=
  @Operand.rec (fun _ => Tr AVal → AVal) (fun t tm => orUndef (tm.get t)) (fun v _ => ofV v) (fun g _ => @Bool.rec (fun _ => AVal) .bad (.ptr g 0) (Nat.ble g 1023)) (fun f _ => .func (.func f) [] []) x
noncomputable def evalO (tm : Tr AVal) (x : Operand) : AVal := evalR x tm

noncomputable def cellsOf : Option AObj → Option (List AVal)
  | some (.cells cs _ _ _ _ _) => some cs
  | _ => none
noncomputable def getCells (h : Tr AObj) (r : Nat) : Option (List AVal) := cellsOf (h.get r)
noncomputable def cutO : Option (List AVal) → Nat → Nat → Option (List AVal)
  | some cs, off, n => cut cs off n
  | none, _, _ => none
noncomputable def nthO : Option (List AVal) → Nat → Option AVal
  | some cs, off => nth cs off
  | none, _ => none
noncomputable def loadN (h : Tr AObj) (r off n : Nat) : Option (List AVal) := cutO (getCells h r) off n
noncomputable def killAll (h : Tr AObj) : List Nat → Tr AObj
  | [] => h
  | r :: l => killAll (h.set r .dead) l
noncomputable def oneA (v : AVal) : Bool :=
  @AVal.rec (fun _ => Bool) (fun _ => Unit) (fun _ => true) (fun _ _ => true) (fun _ => true) true (fun _ _ => true) true (fun _ _ _ _ _ => true) true (fun _ => true) (fun _ _ _ _ _ => true) (fun _ => true) true (fun _ _ _ => true) true
    (fun _ _ => false) (fun _ _ => false) false () (fun _ _ _ _ => ()) v
noncomputable def allOne (l : List AVal) : Bool := @List.rec AVal (fun _ => Bool) true (fun v _ ih => @Bool.rec (fun _ => Bool) false ih (oneA v)) l
noncomputable def putCells (s : St) (r : Nat) (e : Nat) (lo fz : Bool) (anc : List Nat) : Option (List AVal) → Option St
  | some cs => some { s with heap := (killAll s.heap anc).set r (.cells cs e lo false fz []) }
  | none => none
noncomputable def storeO : Option AObj → St → Nat → Nat → List AVal → Option St
  | some (.cells cs e lo false fz anc), s, r, off, vs => @Bool.rec (fun _ => Option St) none (putCells s r e lo fz anc (splice cs off vs)) (allOne vs)
  | _, _, _, _, _ => none
noncomputable def storeN (s : St) (r off : Nat) (vs : List AVal) : Option St := storeO (s.heap.get r) s r off vs
noncomputable def alloc (s : St) (o : AObj) : St := { heap := s.heap.set s.next o, next := s.next + 1 }
noncomputable def aggO : Option (List AVal) → Option AVal
  | some l => some (.agg l)
  | none => none
noncomputable def loadT : Option TI → Tr AObj → Nat → Nat → Option AVal
  | some i, h, r, off => (@Bool.rec (fun _ => _) (nthO (getCells h r) off) (aggO (loadN h r off i.size)) (i.agg))
  | none, _, _, _ => none
noncomputable def loadVar (X : Env) (h : Tr AObj) (t r off : Nat) : Option AVal := loadT (X.ty.get t) h r off
noncomputable def storeVar (X : Env) (s : St) (t r off : Nat) (v : AVal) : Option St :=
  match X.ty.get t with
  | some i => (@Bool.rec (fun _ => _) (none) (storeN s r off v.cells) (Nat.beq (len v.cells) i.size))
  | none => none

/-! ### Equality. -/
def eqB : Bool → Bool → Bool
  | true, b => b
  | false, b => !b
noncomputable def eqP : PK → AVal → AVal → Option Bool
  | .b, .bool a, .bool b => some (eqB a b)
  | .i, .int k a, .int j b => @Bool.rec (fun _ => Option Bool) none (some (eqI a b)) (kEq k j)
  | .s, .str a, .str b => some (beqN a b)
  | _, _, _ => none
noncomputable def eqAll : List PK → List AVal → List AVal → Option Bool
  | [], [], [] => some true
  | p :: ps, a :: l, b :: m => match eqP p a b with
    | some true => eqAll ps l m
    | some false => some false
    | none => none
  | _, _, _ => none
noncomputable def unlike (h : Tr AObj) (r q : Nat) : Bool :=
  match h.get r, h.get q with
  | some (.cells _ _ _ _ false []), some (.cells _ _ _ _ false []) => true
  | _, _ => false
noncomputable def eqE (X : Env) (h : Tr AObj) (t : Nat) (x y : AVal) : Option Bool :=
  match X.ty.get t with
  | none => none
  | some i =>
    match i.d, x, y with
    | .bool, x, y => eqP .b x y
    | .int _, x, y => eqP .i x y
    | .str, x, y => eqP .s x y
    | .ptr _, .pnil, .pnil => some true
    | .ptr _, .pnil, .ptr _ _ => some false
    | .ptr _, .ptr _ _, .pnil => some false
    | .ptr e, .ptr a b, .ptr c d =>
      match X.ty.get e with
      | some ie => (@Bool.rec (fun _ => _) ((@Bool.rec (fun _ => _) ((@Bool.rec (fun _ => _) (none) (some false) (unlike h a c))) (some (Nat.beq b d)) (Nat.beq a c))) (none) (Nat.beq ie.size 0))
      | none => none
    | .iface, .inil, .inil => some true
    | .iface, .inil, .iface _ _ => some false
    | .iface, .iface _ _, .inil => some false
    | .iface, .iface tx vx, .iface ty vy =>
      (@Bool.rec (fun _ => _) (some false) ((match X.ty.get tx with
        | some j => (match j.d with
          | .int _ => eqP .i vx vy
          | .str => eqP .s vx vy
          | .bool => eqP .b vx vy
          | _ => none)
        | none => none)) (Nat.beq tx ty))
    | .struct _ (some ps), .agg xs, .agg ys => eqAll ps xs ys
    | .slice _ _ _, .snil, .snil => some true
    | .slice _ _ _, .sl _ _ _ _ _, .snil => some false
    | .slice _ _ _, .snil, .sl _ _ _ _ _ => some false
    | .map _ _, .mnil, .mnil => some true
    | .map _ _, .map _, .mnil => some false
    | .map _ _, .mnil, .map _ => some false
    | .func, .fnil, .fnil => some true
    | .func, .func _ _ _, .fnil => some false
    | .func, .fnil, .func _ _ _ => some false
    | .func, .yld _, .fnil => some false
    | .func, .fnil, .yld _ => some false
    | _, _, _ => none
noncomputable def isLit : Operand → Bool
  | .const _ => true
  | _ => false

/-! ### Operations that read at most. -/
noncomputable def notB : Option Bool → Option AVal
  | some b => some (.bool (!b))
  | none => none
noncomputable def yesB : Option Bool → Option AVal
  | some b => some (.bool b)
  | none => none
noncomputable def intO (k : IntKind) : Option Int → Option AVal
  | some n => some (.int k n)
  | none => none
noncomputable def intE : BinOp → IntKind → Int → Int → Option AVal
  | .add, k, a, b => some (.int k (wrapF k (Int.add a b)))
  | .sub, k, a, b => some (.int k (wrapF k (Int.sub a b)))
  | .mul, k, a, b => some (.int k (wrapF k (Int.mul a b)))
  | .quo, k, a, b => (@Bool.rec (fun _ => _) (some (.int k (wrapF k (a.tdiv b)))) (none) (eqI b 0))
  | .rem, k, a, b => (@Bool.rec (fun _ => _) (some (.int k (a.tmod b))) (none) (eqI b 0))
  | .and, k, a, b => intO k (bitsF .and a b k)
  | .or, k, a, b => intO k (bitsF .or a b k)
  | .xor, k, a, b => intO k (bitsF .xor a b k)
  | .andNot, k, a, b => intO k (bitsF .andNot a b k)
  | .eql, _, a, b => some (.bool (eqI a b))
  | .neq, _, a, b => some (.bool (!eqI a b))
  | .lss, _, a, b => some (.bool (ltI a b))
  | .leq, _, a, b => some (.bool (!ltI b a))
  | .gtr, _, a, b => some (.bool (ltI b a))
  | .geq, _, a, b => some (.bool (!ltI a b))
  | _, _, _, _ => none
noncomputable def strE : BinOp → List Nat → List Nat → Option AVal
  | .add, a, b => (@Bool.rec (fun _ => _) (none) (some (.str (a ++ b))) (Nat.ble (len a + len b) 9223372036854775807))
  | .eql, a, b => some (.bool (beqN a b))
  | .neq, a, b => some (.bool (!beqN a b))
  | .lss, a, b => some (.bool (lessS a b))
  | .leq, a, b => some (.bool (lessS a b || beqN a b))
  | .gtr, a, b => some (.bool (!(lessS a b || beqN a b)))
  | .geq, a, b => some (.bool (!lessS a b))
  | _, _, _ => none
noncomputable def shE : BinOp → IntKind → Int → Int → Option AVal
  | .shl, k, a, b => (@Bool.rec (fun _ => _) (some (.int k (shlF k a (min b.toNat (nbits k))))) (none) (ltI b 0))
  | .shr, k, a, b => (@Bool.rec (fun _ => _) (some (.int k (shrF a (min b.toNat (nbits k))))) (none) (ltI b 0))
  | _, _, _, _ => none
noncomputable def isSh : BinOp → Bool
  | .shl => true
  | .shr => true
  | _ => false
noncomputable def cmpE : BinOp → Option Bool → Option AVal
  | .eql, b => yesB b
  | .neq, b => notB b
  | _, _ => none
noncomputable def binInt (o : AVal) : IntKind → Int → BinOp → Option AVal :=
  @AVal.rec (fun _ => IntKind → Int → BinOp → Option AVal) (fun _ => Unit)
    (fun _ _ _ _ => none)
    (fun j b k a op => (@Bool.rec (fun _ => _) ((@Bool.rec (fun _ => _) (none) (intE op k a b) (kEq k j))) (shE op k a b) (isSh op)))
    (fun _ _ _ _ => none)
    (fun _ _ _ => none)
    (fun _ _ _ _ _ => none)
    (fun _ _ _ => none)
    (fun _ _ _ _ _ _ _ _ => none)
    (fun _ _ _ => none)
    (fun _ _ _ _ => none)
    (fun _ _ _ _ _ _ _ _ => none)
    (fun _ _ _ _ => none)
    (fun _ _ _ => none)
    (fun _ _ _ _ _ _ => none)
    (fun _ _ _ => none)
    (fun _ _ _ _ _ => none)
    (fun _ _ _ _ _ => none)
    (fun _ _ _ => none)
    () (fun _ _ _ _ => ()) o
noncomputable def isStrA (o : AVal) : Option (List Nat) :=
  @AVal.rec (fun _ => Option (List Nat)) (fun _ => Unit)
    (fun _  => none)
    (fun _ _  => none)
    (fun s  => some s)
    (none)
    (fun _ _  => none)
    (none)
    (fun _ _ _ _ _  => none)
    (none)
    (fun _  => none)
    (fun _ _ _ _ _  => none)
    (fun _  => none)
    (none)
    (fun _ _ _  => none)
    (none)
    (fun _ _  => none)
    (fun _ _  => none)
    (none)
    () (fun _ _ _ _ => ()) o
noncomputable def isIntA (o : AVal) : Bool :=
  @AVal.rec (fun _ => Bool) (fun _ => Unit)
    (fun _  => false)
    (fun k n  => true)
    (fun _  => false)
    (false)
    (fun _ _  => false)
    (false)
    (fun _ _ _ _ _  => false)
    (false)
    (fun _  => false)
    (fun _ _ _ _ _  => false)
    (fun _  => false)
    (false)
    (fun _ _ _  => false)
    (false)
    (fun _ _  => false)
    (fun _ _  => false)
    (false)
    () (fun _ _ _ _ => ()) o
noncomputable def binStr (s : List Nat) (op : BinOp) : Option (List Nat) → Option AVal
  | some b => strE op s b
  | none => none
noncomputable def binG : AVal → AVal → BinOp → Env → Tr AObj → Nat → Operand → Operand → Option AVal
  | .inil, .inil, op, X, h, t, ox, oy => (@Bool.rec (fun _ => _) (none) (cmpE op (eqE X h t .inil .inil)) (isLit ox || isLit oy))
  | x, y, op, X, h, t, _, _ => cmpE op (eqE X h t x y)
noncomputable def binK (o : AVal) : AVal → BinOp → Env → Tr AObj → Nat → Operand → Operand → Option AVal :=
  @AVal.rec (fun _ => AVal → BinOp → Env → Tr AObj → Nat → Operand → Operand → Option AVal) (fun _ => Unit)
    (fun a0 y op X h t ox oy => binG (.bool a0) y op X h t ox oy)
    (fun k a y op X h t ox oy => binInt y k a op)
    (fun s y op X h t ox oy => binStr s op (isStrA y))
    (fun y op X h t ox oy => binG (.pnil ) y op X h t ox oy)
    (fun a0 a1 y op X h t ox oy => binG (.ptr a0 a1) y op X h t ox oy)
    (fun y op X h t ox oy => binG (.snil ) y op X h t ox oy)
    (fun a0 a1 a2 a3 a4 y op X h t ox oy => binG (.sl a0 a1 a2 a3 a4) y op X h t ox oy)
    (fun y op X h t ox oy => binG (.mnil ) y op X h t ox oy)
    (fun a0 y op X h t ox oy => binG (.map a0) y op X h t ox oy)
    (fun a0 a1 a2 _ _ y op X h t ox oy => binG (.func a0 a1 a2) y op X h t ox oy)
    (fun a0 y op X h t ox oy => binG (.yld a0) y op X h t ox oy)
    (fun y op X h t ox oy => binG (.fnil ) y op X h t ox oy)
    (fun a0 a1 _ y op X h t ox oy => binG (.iface a0 a1) y op X h t ox oy)
    (fun y op X h t ox oy => binG (.inil ) y op X h t ox oy)
    (fun a0 _ y op X h t ox oy => binG (.agg a0) y op X h t ox oy)
    (fun a0 _ y op X h t ox oy => binG (.tup a0) y op X h t ox oy)
    (fun y op X h t ox oy => binG (.bad ) y op X h t ox oy)
    () (fun _ _ _ _ => ()) o
noncomputable def unE (op : UnOp) (x : AVal) : Option AVal :=
  match op, x with
  | .not, .bool b => some (.bool (!b))
  | .neg, .int k n => some (.int k (wrapF k (Int.sub 0 n)))
  | .xor, .int k n => intO k (bitsF .xor (if k.signed then -1 else k.max) n k)
  | _, _ => none
noncomputable def bytesOf : List AVal → Option (List Nat)
  | [] => some []
  | .int .u8 (.ofNat n) :: l => (@Bool.rec (fun _ => _) (none) ((match bytesOf l with | some r => some (n :: r) | none => none)) (Nat.ble n 255))
  | _ :: _ => none
noncomputable def byteVals (l : List Nat) : List AVal := l.map fun n => .int .u8 (.ofNat n)
/-- conversions that make nothing new -/
noncomputable def convE (X : Env) (h : Tr AObj) (src dst : Nat) (x : AVal) : Option AVal :=
  match X.ty.get src, X.ty.get dst with
  | some i, some j =>
    match i.d, j.d, x with
    | .int _, .int k, .int _ n => some (.int k (wrapF k n))
    | .str, .str, .str a => some (.str a)
    | .slice _ _ true, .str, .snil => some (.str [])
    | .slice _ _ true, .str, .sl r off n _ _ => (match loadN h r off n with | some l => (match bytesOf l with | some b => some (.str b) | none => none) | none => none)
    | _, _, _ => none
  | _, _ => none
noncomputable def natOf : AVal → Option Nat
  | .int _ (.ofNat n) => some n
  | _ => none
noncomputable def natOr (d : Nat) : Option AVal → Option Nat
  | none => some d
  | some v => natOf v
noncomputable def szOf (X : Env) (esz : Nat) : Option AObj → Bool
  | some (.cells _ e true _ _ _) => (match X.ty.get e with | some ei => Nat.beq ei.size esz | none => false)
  | _ => false
noncomputable def sliceF (X : Env) (hp : Tr AObj) (t : Nat) (x : AVal) (lo hi mx : Option AVal) : Option AVal :=
  match natOr 0 lo, X.ty.get t with
  | some l, some i =>
    match i.d, x with
    | .str, .str a =>
      (match natOr (len a) hi, mx with
      | some h, none => (@Bool.rec (fun _ => _) (none) ((match cut a l (h - l) with | some r => some (.str r) | none => none)) (Nat.ble l h && Nat.ble h (len a)))
      | _, _ => none)
    | .slice _ _ _, .snil =>
      (match natOr 0 hi, natOr 0 mx with
      | some h, some m => (@Bool.rec (fun _ => _) (none) (some .snil) (Nat.beq l 0 && Nat.beq h 0 && Nat.beq m 0))
      | _, _ => none)
    | .slice _ esz _, .sl r off n cap ex =>
      (match natOr n hi with
      | some h =>
        (match mx with
        | some v => (match natOf v with
          | some m => (@Bool.rec (fun _ => _) (none) (some (.sl r ((@Bool.rec (fun _ => _) (off + l * esz) (off) (Nat.beq m l))) (h - l) (m - l) true)) (Nat.ble l h && Nat.ble h m && Nat.ble m cap))
          | none => none)
        | none => (@Bool.rec (fun _ => _) (none) (some (.sl r ((@Bool.rec (fun _ => _) (off + l * esz) (off) (ex && Nat.beq cap l))) (h - l) (cap - l) ex)) (Nat.ble l h && Nat.ble h cap && (ex || (Nat.beq l 0 || szOf X esz (hp.get r))))))
      | none => none)
    | .arr n _ esz _, .ptr r off =>
      (match natOr n hi, natOr n mx with
      | some h, some m => (@Bool.rec (fun _ => _) (none) (some (.sl r ((@Bool.rec (fun _ => _) (off + l * esz) (off) (Nat.beq m l))) (h - l) (m - l) true)) (Nat.ble l h && Nat.ble h m && Nat.ble m n))
      | _, _ => none)
    | _, _ => none
  | _, _ => none
noncomputable def sliceE (X : Env) (hp : Tr AObj) (t : Nat) (x : AVal) (lo : Option AVal) : Option AVal → Option AVal → Option AVal
  | none, none => sliceF X hp t x lo none none
  | none, some _ => none
  | some hi, mx => sliceF X hp t x lo (some hi) mx
noncomputable def partE (agg : Bool) (off size : Nat) (l : List AVal) : Option AVal :=
  (@Bool.rec (fun _ => _) (nth l off) ((match cut l off size with | some r => some (.agg r) | none => none)) (agg))
noncomputable def indexE (X : Env) (t : Nat) (x i : AVal) : Option AVal :=
  match natOf i, X.ty.get t with
  | some n, some ti => match ti.d, x with
    | .str, .str a => (match nth a n with | some b => some (.int .u8 (.ofNat b)) | none => none)
    | .arr m _ esz eagg, .agg l => (@Bool.rec (fun _ => _) (none) (partE eagg (n * esz) esz l) (Nat.ble (n + 1) m))
    | _, _ => none
  | _, _ => none
noncomputable def ixD : TD → AVal → Nat → Option AVal
  | .arr m _ esz _, .ptr r off, n => (@Bool.rec (fun _ => _) (none) (some (.ptr r (off + n * esz))) (Nat.ble (n + 1) m))
  | .slice _ esz _, .sl r off m _ _, n => (@Bool.rec (fun _ => _) (none) (some (.ptr r (off + n * esz))) (Nat.ble (n + 1) m))
  | _, _, _ => none
noncomputable def ixT : Option TI → Option Nat → AVal → Option AVal
  | some ti, some n, x => ixD ti.d x n
  | _, _, _ => none
noncomputable def indexAddrE (X : Env) (t : Nat) (x i : AVal) : Option AVal := ixT (X.ty.get t) (natOf i) x
noncomputable def fdAddr : Option FD → Nat → Nat → Option AVal
  | some fd, r, off => (@Bool.rec (fun _ => _) (some (.ptr r (off + fd.off))) (none) (Nat.beq fd.size 0))
  | none, _, _ => none
noncomputable def faD : TD → AVal → Nat → Option AVal
  | .struct fs _, .ptr r off, f => fdAddr (nth fs f) r off
  | _, _, _ => none
noncomputable def faT : Option TI → AVal → Nat → Option AVal
  | some ti, x, f => faD ti.d x f
  | none, _, _ => none
noncomputable def fieldAddrE (X : Env) (t : Nat) (x : AVal) (f : Nat) : Option AVal := faT (X.ty.get t) x f
noncomputable def fieldE (X : Env) (t : Nat) (x : AVal) (f : Nat) : Option AVal :=
  match X.ty.get t, x with
  | some ti, .agg l => match ti.d with
    | .struct fs _ => (match nth fs f with | some fd => partE fd.agg fd.off fd.size l | none => none)
    | _ => none
  | _, _ => none
noncomputable def fillP (sz : Nat → Option (Nat × Nat)) : List AVal → List (Nat × AVal) → Option (List AVal)
  | cs, [] => some cs
  | cs, (i, v) :: rest => match sz i with
    | some (off, size) => (@Bool.rec (fun _ => _) (none) ((match splice cs off v.cells with | some cs' => fillP sz cs' rest | none => none)) (Nat.beq (len v.cells) size && allOne v.cells))
    | none => none
noncomputable def fdPlace (fs : List FD) (i : Nat) : Option (Nat × Nat) := match nth fs i with | some fd => some (fd.off, fd.size) | none => none
noncomputable def buildE (X : Env) (t : Nat) (parts : List (Nat × AVal)) : Option AVal :=
  match X.ty.get t with
  | some ti => match ti.d with
    | .struct fs _ => (match fillP (fdPlace fs) ti.zv.cells parts with | some l => some (.agg l) | none => none)
    | .arr _ _ esz _ => (match fillP (fun i => some (i * esz, esz)) ti.zv.cells parts with | some l => some (.agg l) | none => none)
    | _ => none
  | none => none
noncomputable def findK (p : PK) (k : AVal) : List (AVal × AVal × Nat) → Nat → Option (Option (Nat × AVal))
  | [], _ => some none
  | (k', v, _) :: es, i => match eqP p k k' with
    | some true => some (some (i, v))
    | some false => findK p k es (i + 1)
    | none => none
noncomputable def mapEs (h : Tr AObj) : AVal → Option (List (AVal × AVal × Nat))
  | .mnil => some []
  | .map r => (match h.get r with | some (.map es _) => some es | _ => none)
  | _ => none
noncomputable def okV (ok : Bool) (v : AVal) (b : Bool) : AVal := @Bool.rec (fun _ => AVal) v (.tup [v, .bool b]) ok
noncomputable def lkE (zv : AVal) (ok : Bool) : Option (Option (Nat × AVal)) → Option AVal
  | some (some (_, v)) => some (okV ok v true)
  | some none => some (okV ok zv false)
  | none => none
noncomputable def lkD (p : PK) (zv k : AVal) (ok : Bool) : Option (List (AVal × AVal × Nat)) → Option AVal
  | some es => lkE zv ok (findK p k es 0)
  | none => none
noncomputable def lookupE (X : Env) (h : Tr AObj) (t : Nat) (x k : AVal) (ok : Bool) : Option AVal :=
  match X.ty.get t with
  | some ti => match ti.d with
    | .map (some p) zv => lkD p zv k ok (mapEs h x)
    | _ => none
  | none => none
noncomputable def enV : Option (AVal × AVal × Nat) → Option AVal
  | some (k, v, _) => some (.tup [k, v])
  | none => none
noncomputable def enB (es : List (AVal × AVal × Nat)) : List Nat → Option AVal
  | st :: _ => enV (es.find? (fun e => Nat.beq e.2.2 st))
  | [] => none
noncomputable def enM (seen : List Nat) (last : Nat) : Option AObj → Option AVal
  | some (.map es clock) => @Bool.rec (fun _ => _) (none) (enB es seen) (Nat.beq clock last)
  | _ => none
noncomputable def enI (h : Tr AObj) : Option AObj → Option AVal
  | some (.miter (some m) _ seen last) => enM seen last (h.get m)
  | _ => none
noncomputable def entryE (h : Tr AObj) (it : AVal) : Option AVal :=
  match it with
  | .ptr r 0 => enI h (h.get r)
  | _ => none
noncomputable def taFind (l : List (Nat × Nat × Bool)) (a t : Nat) : Option Bool :=
  match l with
  | [] => none
  | (x, y, b) :: l => (@Bool.rec (fun _ => _) (taFind l a t) (some b) (Nat.beq x a && Nat.beq y t))
noncomputable def failsE (zv : AVal) (ok : Bool) : Option AVal := @Bool.rec (fun _ => Option AVal) (none) (some (.tup [zv, .bool false])) ok
noncomputable def taI (v : AVal) (zv : AVal) (ok : Bool) : Option Bool → Option AVal
  | some true => some (okV ok v true)
  | some false => failsE zv ok
  | none => none
noncomputable def taD (X : Env) (a : Nat) (zv : AVal) (ok : Bool) : TD → AVal → Option AVal
  | .iface, .inil => failsE zv ok
  | .iface, .iface t v => taI (.iface t v) zv ok (taFind X.ta a t)
  | .iface, _ => none
  | _, .inil => failsE zv ok
  | _, .iface t v => @Bool.rec (fun _ => Option AVal) (failsE zv ok) (some (okV ok v true)) (Nat.beq t a)
  | _, _ => none
noncomputable def typeAssertE (X : Env) (x : AVal) (asserted : Nat) (ok : Bool) : Option AVal :=
  match X.ty.get asserted with
  | none => none
  | some ai => taD X asserted ai.zv ok ai.d x
noncomputable def arrLen : Option TI → Option AVal
  | some ai => (match ai.d with | .arr n _ _ _ => some (.int .i64 (.ofNat n)) | _ => none)
  | none => none
noncomputable def mapLen : Option AObj → Option AVal
  | some (.map es _) => some (.int .i64 (.ofNat (len es)))
  | _ => none
noncomputable def lenD : TD → AVal → Env → Tr AObj → Option AVal
  | .str, .str l, _, _ => some (.int .i64 (.ofNat (len l)))
  | .slice _ _ _, .snil, _, _ => some (.int .i64 0)
  | .slice _ _ _, .sl _ _ n _ _, _, _ => some (.int .i64 (.ofNat n))
  | .map _ _, .mnil, _, _ => some (.int .i64 0)
  | .map _ _, .map r, _, h => mapLen (h.get r)
  | .arr n _ _ _, _, _, _ => some (.int .i64 (.ofNat n))
  | .ptr a, _, X, _ => arrLen (X.ty.get a)
  | _, _, _, _ => none
noncomputable def lenT : Option TI → AVal → Env → Tr AObj → Option AVal
  | some ti, x, X, h => lenD ti.d x X h
  | none, _, _, _ => none
noncomputable def lenE (X : Env) (h : Tr AObj) (t : Nat) (x : AVal) : Option AVal := lenT (X.ty.get t) x X h
noncomputable def foldI (f : Int → Int → Int) (k : IntKind) (a : Int) : List AVal → Option AVal
  | [] => some (.int k a)
  | .int j b :: l => (@Bool.rec (fun _ => _) (none) (foldI f k (f a b) l) (kEq j k))
  | _ :: _ => none
noncomputable def minI (a b : Int) : Int := (@Bool.rec (fun _ => _) (a) (b) (ltI b a))
noncomputable def maxI (a b : Int) : Int := (@Bool.rec (fun _ => _) (a) (b) (ltI a b))
noncomputable def capD : TD → AVal → Option AVal
  | .slice _ _ _, .snil => some (.int .i64 0)
  | .slice _ _ _, .sl _ _ _ c true => some (.int .i64 (.ofNat c))
  | _, _ => none
noncomputable def capT : Option TI → AVal → Option AVal
  | some ti, x => capD ti.d x
  | none, _ => none
noncomputable def bltE (X : Env) (h : Tr AObj) (b : Builtin) (ts : List Nat) (args : List AVal) : Option AVal :=
  match b, ts, args with
  | .len, t :: _, [x] => lenE X h t x
  | .cap, t :: _, [x] => capT (X.ty.get t) x
  | .max, _, .int k a :: l => foldI maxI k a l
  | .min, _, .int k a :: l => foldI minI k a l
  | _, _, _ => none
noncomputable def mapO (ev : Operand → AVal) : Option Operand → Option AVal
  | some x => some (ev x)
  | none => none
/-- what an operation gives that reads at most: 'rdE' -/
noncomputable def pickE : AVal → AVal → AVal → Option AVal
  | .bool true, a, _ => some a
  | .bool false, _, b => some b
  | _, _, _ => none
noncomputable def loadA : AVal → Env → Tr AObj → Nat → Option AVal
  | .ptr r off, X, h, t => loadVar X h t r off
  | _, _, _, _ => none
noncomputable def nilE : AVal → Option AVal
  | .ptr r off => some (.ptr r off)
  | .func (.func f) a b => some (.func (.func f) a b)
  | .iface t v => some (.iface t v)
  | _ => none
noncomputable def mkIfD : Option TI → Nat → AVal → Option AVal
  | some i, t, v => (match i.d with | .iface => none | _ => some (.iface t v))
  | none, _, _ => none
noncomputable def mkFnE : Fn → List AVal → List AVal → Option AVal
  | .yield _, _, _ => none
  | fn, a, b => some (.func fn a b)
noncomputable def extrE : AVal → Nat → Option AVal
  | .tup l, i => nth l i
  | _, _ => none
noncomputable def callRd : Callee → Env → Tr AObj → List Nat → List AVal → Option AVal
  | .builtin b, X, h, ts, args => bltE X h b ts args
  | _, _, _, _, _ => none
noncomputable def rdE : Op → Env → (Operand → AVal) → Tr AObj → Option AVal
  | .move x, _, ev, _ => some (ev x)
  | .assign x, _, ev, _ => some (ev x)
  | .pick c a b, _, ev, _ => pickE (ev c) (ev a) (ev b)
  | .build t parts, X, ev, _ => buildE X t (parts.toList.map fun p => (p.1, ev p.2))
  | .load t a, X, ev, h => loadA (ev a) X h t
  | .nilCheck x, _, ev, _ => nilE (ev x)
  | .binOp op t x y _, X, ev, h => binK (ev x) (ev y) op X h t x y
  | .unOp op _ x, _, ev, _ => unE op (ev x)
  | .convert a b x, X, ev, h => convE X h a b (ev x)
  | .makeInterface t x, X, ev, _ => mkIfD (X.ty.get t) t (ev x)
  | .makeFunc fn a b, _, ev, _ => mkFnE fn (a.toList.map ev) (b.toList.map ev)
  | .slice t x lo hi mx, X, ev, h => sliceE X h t (ev x) (mapO ev lo) (mapO ev hi) (mapO ev mx)
  | .fieldAddr t x f, X, ev, _ => fieldAddrE X t (ev x) f
  | .field t x f, X, ev, _ => fieldE X t (ev x) f
  | .indexAddr t x i, X, ev, _ => indexAddrE X t (ev x) (ev i)
  | .index t x i, X, ev, _ => indexE X t (ev x) (ev i)
  | .lookup t x i ok, X, ev, h => lookupE X h t (ev x) (ev i) ok
  | .entry it, _, ev, h => entryE h (ev it)
  | .typeAssert x _ a ok, X, ev, _ => typeAssertE X (ev x) a ok
  | .extract t i, _, ev, _ => extrE (ev t) i
  | .call c, X, ev, h => callRd c.callee X h c.argTypes.toList (c.args.toList.map ev)
  | _, _, _, _ => none
/-- what is newly made: the object, and what is handed back once it has an address -/
inductive AlR where
  | ptr | map | sl (len cap : Nat) (ex : Bool)
noncomputable def AlR.val (r : Nat) : AlR → AVal
  | .ptr => .ptr r 0
  | .map => .map r
  | .sl n c ex => .sl r 0 n c ex
noncomputable def cvS (X : Env) (l : List Nat) : TD → TD → Option (AObj × AlR)
  | .str, .slice e esz true => @Bool.rec (fun _ => _) none (some (.cells (byteVals l) e true false true [], .sl (len l) (len l) false)) (match X.ty.get e with | some ei => Nat.beq ei.size 1 | none => false)
  | _, _ => none
noncomputable def fillS (e n : Nat) : Option (List AVal) → Option (AObj × AlR)
  | some cs => some (.cells cs e false false false [], .sl n n true)
  | none => none
noncomputable def bsD (X : Env) (ev : Operand → AVal) (n : Nat) (parts : List (Nat × Operand)) : TD → Option (AObj × AlR)
  | .slice e esz _ => (match X.ty.get e with
    | some ei => @Bool.rec (fun _ => _) none (fillS e n (fillP (fun i => some (i * esz, esz)) (reps ei.zv.cells n) (parts.map fun p => (p.1, ev p.2)))) (Nat.ble (n * esz) 16777216)
    | none => none)
  | _ => none
noncomputable def msD (X : Env) (l c : Nat) : TD → Option (AObj × AlR)
  | .slice e _ _ => (match X.ty.get e with
    | some ei => @Bool.rec (fun _ => _) (none) (some (.cells (reps ei.zv.cells c) e false false false [], .sl l c true)) (Nat.ble l c && Nat.ble c 1048576)
    | none => none)
  | _ => none
noncomputable def alE : Op → Env → (Operand → AVal) → Option (AObj × AlR)
  | .alloc e, X, _ => (match X.ty.get e with | some i => some (.cells i.zv.cells e false false false [], .ptr) | none => none)
  | .box e x, _, ev => @Bool.rec (fun _ => _) none (some (.cells (ev x).cells e false false false [], .ptr)) (allOne (ev x).cells)
  | .buildSlice t n parts, X, ev => (match X.ty.get t with
    | some ti => bsD X ev n parts.toList ti.d
    | none => none)
  | .makeMap _ none, _, _ => some (.map [] 0, .map)
  | .makeMap _ (some _), _, _ => none
  | .makeSlice t l c, X, ev => (match X.ty.get t, natOf (ev l), natOf (ev c) with
    | some ti, some l, some c => msD X l c ti.d
    | _, _, _ => none)
  | .convert a b x, X, ev => (match X.ty.get a, X.ty.get b, ev x with
    | some i, some j, .str l => cvS X l i.d j.d
    | _, _, _ => none)
  | _, _, _ => none

/-! ### Operations that write. -/
noncomputable def modAt (f : AVal × AVal × Nat → AVal × AVal × Nat) : List (AVal × AVal × Nat) → Nat → List (AVal × AVal × Nat)
  | [], _ => []
  | e :: es, 0 => f e :: es
  | e :: es, i + 1 => e :: modAt f es i
noncomputable def eraseAt {α : Type} : List α → Nat → List α
  | [], _ => []
  | _ :: es, 0 => es
  | e :: es, i + 1 => e :: eraseAt es i
noncomputable def setObj (s : St) (r : Nat) (o : AObj) : St := { s with heap := s.heap.set r o }
noncomputable def updR (s : St) (r : Nat) (es : List (AVal × AVal × Nat)) (c : Nat) (k v : AVal) : Option (Option (Nat × AVal)) → Option St
  | some (some (i, _)) => some (setObj s r (.map (modAt (fun e => (k, v, e.2.2)) es i) c))
  | some none => some (setObj s r (.map (es ++ [(k, v, c)]) (c + 1)))
  | none => none
noncomputable def updO (s : St) (r : Nat) (p : PK) (k v : AVal) : Option AObj → Option St
  | some (.map es c) => updR s r es c k v (findK p k es 0)
  | _ => none
noncomputable def updD (s : St) (k v : AVal) : TD → AVal → Option St
  | .map (some p) _, .map r => updO s r p k v (s.heap.get r)
  | _, _ => none
noncomputable def updE (X : Env) (s : St) (t : Nat) (m k v : AVal) : Option St :=
  match X.ty.get t with
  | some ti => updD s k v ti.d m
  | none => none
noncomputable def appLoose : Option AObj → St → Nat → Nat → Nat → Nat → Nat → List AVal → List AVal → Option (AVal × St)
  | some (.cells cs e' true false fz anc), s, r, off, mz, e, n, old, new =>
    (@Bool.rec (fun _ => _) (none) (some (.sl s.next 0 n n false, alloc (setObj s r (.cells cs e' true true fz anc)) (.cells (old ++ new) e true false fz (r :: anc)))) (Nat.beq e' e && (Nat.beq (off + mz) (len cs) && allOne new)))
  | _, _, _, _, _, _, _, _, _ => none
noncomputable def appNew (s : St) (e n : Nat) (l : List AVal) : Option (AVal × St) :=
  some (.sl s.next 0 n n false, alloc s (.cells l e true false false []))
noncomputable def appGrow (s : St) (e r off m mz n : Nat) (ex : Bool) (new : List AVal) : Option (List AVal) → Option (AVal × St)
  | some old => @Bool.rec (fun _ => _) (appLoose (s.heap.get r) s r off mz e (m + n) old new) (appNew s e (m + n) (old ++ new)) ex
  | none => none
noncomputable def appIn (r off m cap : Nat) (ex : Bool) : Option St → Option (AVal × St)
  | some s' => some (.sl r off m cap ex, s')
  | none => none
noncomputable def appV (s : St) (e esz n : Nat) (new : List AVal) : AVal → Option (AVal × St)
  | .snil => (@Bool.rec (fun _ => _) ((@Bool.rec (fun _ => _) none (appNew s e n new) (Nat.ble n 1048576))) (some (.snil, s)) (Nat.beq n 0))
  | .sl r off m cap ex =>
    @Bool.rec (fun _ => _)
      (@Bool.rec (fun _ => _) none (appGrow s e r off m (m * esz) n ex new (loadN s.heap r off (m * esz))) (Nat.ble (m + n) 1048576))
      (@Bool.rec (fun _ => _) (appIn r off (m + n) cap ex (storeN s r (off + m * esz) new)) (some (.sl r off m cap ex, s)) (Nat.beq n 0))
      (Nat.ble (m + n) cap)
  | _ => none
noncomputable def andN (n : Nat) : Option (List AVal) → Option (Nat × List AVal)
  | some l => some (n, l)
  | none => none
noncomputable def srcE (h : Tr AObj) (esz : Nat) (zc : List AVal) : TD → AVal → Option (Nat × List AVal)
  | .slice _ _ _, .snil => some (0, [])
  | .slice _ _ _, .sl r off n _ _ => andN n (loadN h r off (n * esz))
  | .str, .str l => some (len l, byteVals l)
  | .int .i64, .int _ (.ofNat n) => @Bool.rec (fun _ => _) none (some (n, reps zc n)) (Nat.ble n 1048576)
  | _, _ => none
noncomputable def appS (s : St) (e esz : Nat) (x : AVal) : Option (Nat × List AVal) → Option (AVal × St)
  | some (n, new) => @Bool.rec (fun _ => _) none (appV s e esz n new x) (Nat.beq (len new) (n * esz))
  | none => none
noncomputable def appE (X : Env) (s : St) (t u : Nat) (x y : AVal) : Option (AVal × St) :=
  match X.ty.get t, X.ty.get u with
  | some ti, some ui => (match ti.d with
    | .slice e esz _ => (match X.ty.get e with
      | some ei => appS s e esz x (srcE s.heap esz ei.zv.cells ui.d y)
      | none => none)
    | _ => none)
  | _, _ => none
noncomputable def cpS (k : Nat) : Option St → Option (AVal × St)
  | some s' => some (.int .i64 (.ofNat k), s')
  | none => none
noncomputable def cpV (s : St) (r off k : Nat) : Option (List AVal) → Option (AVal × St)
  | some l => @Bool.rec (fun _ => _) (cpS k (storeN s r off l)) (some (.int .i64 0, s)) (Nat.beq k 0)
  | none => none
noncomputable def cpD (s : St) (esz : Nat) : AVal → AVal → Option (AVal × St)
  | .snil, .snil => some (.int .i64 0, s)
  | .snil, .sl _ _ _ _ _ => some (.int .i64 0, s)
  | .sl _ _ _ _ _, .snil => some (.int .i64 0, s)
  | .sl r off m _ _, .sl q o n _ _ => cpV s r off (min n m) (loadN s.heap q o (min n m * esz))
  | _, _ => none
noncomputable def copyE (X : Env) (s : St) (t : Nat) (d x : AVal) : Option (AVal × St) :=
  match X.ty.get t with
  | some ti => (match ti.d with
    | .slice _ esz _ => cpD s esz d x
    | _ => none)
  | none => none
noncomputable def clO (s : St) (r : Nat) : Option AObj → Option St
  | some (.map _ c) => some (setObj s r (.map [] c))
  | _ => none
noncomputable def clearE (X : Env) (s : St) (t : Nat) (x : AVal) : Option St :=
  match X.ty.get t, x with
  | some _, .mnil => some s
  | some _, .map r => clO s r (s.heap.get r)
  | _, _ => none
noncomputable def delR (s : St) (r : Nat) (es : List (AVal × AVal × Nat)) (c : Nat) : Option (Option (Nat × AVal)) → Option St
  | some (some (i, _)) => some (setObj s r (.map (eraseAt es i) c))
  | some none => some (setObj s r (.map es c))
  | none => none
noncomputable def delO (s : St) (r : Nat) (p : PK) (k : AVal) : Option AObj → Option St
  | some (.map es c) => delR s r es c (findK p k es 0)
  | _ => none
noncomputable def delD (s : St) (k : AVal) : TD → AVal → Option St
  | .map (some _) _, .mnil => some s
  | .map (some p) _, .map r => delO s r p k (s.heap.get r)
  | _, _ => none
noncomputable def delE (X : Env) (s : St) (t : Nat) (m k : AVal) : Option St :=
  match X.ty.get t with
  | some ti => delD s k ti.d m
  | none => none
noncomputable def rgO (s : St) (m : Nat) : Option AObj → Option (AVal × St)
  | some (.map _ c) => some (.ptr s.next 0, alloc s (.miter (some m) c [] c))
  | _ => none
noncomputable def rgD (s : St) : TD → AVal → Option (AVal × St)
  | .str, .str a => some (.ptr s.next 0, alloc s (.siter a 0))
  | .map _ _, .mnil => some (.ptr s.next 0, alloc s (.miter none 0 [] 0))
  | .map _ _, .map m => rgO s m (s.heap.get m)
  | _, _ => none
noncomputable def rangeE (X : Env) (s : St) (t : Nat) (x : AVal) : Option (AVal × St) :=
  match X.ty.get t with
  | some ti => rgD s ti.d x
  | none => none
noncomputable def hasN (l : List Nat) (n : Nat) : Bool := @List.rec Nat (fun _ => Bool) false (fun a _ ih => (@Bool.rec (fun _ => _) (ih) (true) (Nat.beq a n))) l
noncomputable def leftE (seen : List Nat) : List (AVal × AVal × Nat) → List (AVal × AVal × Nat)
  | [] => []
  | e :: es => (@Bool.rec (fun _ => _) (e :: leftE seen es) (leftE seen es) (hasN seen e.2.2))
noncomputable def allGe (last : Nat) : List (AVal × AVal × Nat) → Bool
  | [] => true
  | e :: es => (@Bool.rec (fun _ => _) (false) (allGe last es) (Nat.ble last e.2.2))
noncomputable def nxS (s : St) (r : Nat) (a : List Nat) (pos : Nat) : Option Nat → Option (AVal × St)
  | none => @Bool.rec (fun _ => _) none (some (.tup [.bool false], s)) (Nat.ble (len a) pos)
  | some b => @Bool.rec (fun _ => _) none (some (.tup [.bool true, .int .i64 (.ofNat pos), .int .i32 (.ofNat b)], setObj s r (.siter a (pos + 1)))) (Nat.ble b 127)
noncomputable def nxStale (last : Nat) : List Nat → List (AVal × AVal × Nat) → Bool
  | [], _ => false
  | _ :: _, [] => false
  | _ :: _, e :: es => allGe last (e :: es)
noncomputable def nxL (s : St) (r m since c : Nat) (seen : List Nat) : List (AVal × AVal × Nat) → Option (AVal × St)
  | [] => some (.tup [.bool false], s)
  | [e] => @Bool.rec (fun _ => _) none (some (.tup [.bool true, e.1, e.2.1], setObj s r (.miter (some m) since (e.2.2 :: seen) c))) (Nat.ble (e.2.2 + 1) since)
  | _ :: _ :: _ => none
noncomputable def nxM (s : St) (r m since : Nat) (seen : List Nat) (last : Nat) : Option AObj → Option (AVal × St)
  | some (.map es c) => @Bool.rec (fun _ => _) (nxL s r m since c seen (leftE seen es)) none (nxStale last seen es)
  | _ => none
noncomputable def nxO (s : St) (r : Nat) : Option AObj → Bool → Option (AVal × St)
  | some (.siter a pos), true => nxS s r a pos (nth a pos)
  | some (.miter none _ _ _), false => some (.tup [.bool false], s)
  | some (.miter (some m) since seen last), false => nxM s r m since seen last (s.heap.get m)
  | _, _ => none
noncomputable def nextE (s : St) (it : AVal) (isS : Bool) : Option (AVal × St) :=
  match it with
  | .ptr r 0 => nxO s r (s.heap.get r) isS
  | _ => none
noncomputable def andS (v : AVal) : Option St → Option (AVal × St)
  | some s => some (v, s)
  | none => none
noncomputable def storeA : AVal → Env → St → Nat → AVal → Option St
  | .ptr r off, X, s, t, v => storeVar X s t r off v
  | _, _, _, _, _ => none
noncomputable def bwE : Builtin → List Nat → List AVal → Env → St → Option (AVal × St)
  | .append, t :: u :: _, [x, y], X, s => appE X s t u x y
  | .copy, t :: _, [x, y], X, s => copyE X s t x y
  | .clear, t :: _, [x], X, s => andS undefA (clearE X s t x)
  | .delete, t :: _, [m, k], X, s => andS undefA (delE X s t m k)
  | _, _, _, _, _ => none
noncomputable def callBw : Callee → List Nat → List AVal → Env → St → Option (AVal × St)
  | .builtin b, ts, l, X, s => bwE b ts l X s
  | _, _, _, _, _ => none
/-- the operations that write, but for calls -/
noncomputable def wrE : Op → Env → (Operand → AVal) → St → Option (AVal × St)
  | .store t a v, X, ev, s => andS undefA (storeA (ev a) X s t (ev v))
  | .mapUpdate t m k v, X, ev, s => andS undefA (updE X s t (ev m) (ev k) (ev v))
  | .insert t m k v, X, ev, s => andS undefA (updE X s t (ev m) (ev k) (ev v))
  | .range t x, X, ev, s => rangeE X s t (ev x)
  | .next it b, _, ev, s => nextE s (ev it) b
  | .call c, X, ev, s => callBw c.callee c.argTypes.toList (c.args.toList.map ev) X s
  | _, _, _, _ => none
inductive Cls where
  | rd | al | rdal | wr | call | dfr
noncomputable def clsB : Builtin → Cls
  | .len => .rd
  | .cap => .rd
  | .max => .rd
  | .min => .rd
  | _ => .wr
noncomputable def clsC : Callee → Cls
  | .builtin b => clsB b
  | _ => .call
/-- how an operation is carried out -/
noncomputable def clsO : Op → Cls
  | .alloc _ => .al
  | .box _ _ => .al
  | .buildSlice _ _ _ => .al
  | .makeMap _ _ => .al
  | .makeSlice _ _ _ => .al
  | .convert _ _ _ => .rdal
  | .store _ _ _ => .wr
  | .mapUpdate _ _ _ _ => .wr
  | .insert _ _ _ _ => .wr
  | .mapEntry _ _ _ => .wr
  | .entryStore _ _ _ _ => .wr
  | .range _ _ => .wr
  | .next _ _ => .wr
  | .call c => clsC c.callee
  | .defer _ => .dfr
  | _ => .rd

/-! ### Functions without a Go body. -/
inductive Ext where
  | clone | idx | same
  | typeOf (rt G : Nat)
  | tab (G : Nat) (l : List (Nat × AVal))
  deriving Inhabited
noncomputable def idxE (b : Nat) : List Nat → Nat → Int
  | [], _ => -1
  | a :: l, i => (@Bool.rec (fun _ => _) (idxE b l (i + 1)) (.ofNat i) (Nat.beq a b))
noncomputable def tabE (t : Nat) : List (Nat × AVal) → Option AVal
  | [] => none
  | (u, v) :: l => (@Bool.rec (fun _ => _) (tabE t l) (some v) (Nat.beq u t))
noncomputable def extE (e : Ext) (args : List AVal) (s : St) : Option (AVal × St) :=
  match e, args with
  | .clone, [.iface t (.map r)] => (match s.heap.get r with | some (.map es c) => some (.iface t (.map s.next), alloc s (.map es c)) | _ => none)
  | .idx, [.str l, .int .u8 (.ofNat b)] => @Bool.rec (fun _ => _) none (some (.int .i64 (idxE b l 0), s)) (Nat.ble b 255)
  | .same, [x] => some (x, s)
  | .typeOf _ _, [.inil] => some (.inil, s)
  | .typeOf rt G, [.iface t _] => some (.iface rt (.agg [.ptr G t]), s)
  | .tab G l, [.agg [.ptr g t]] => (@Bool.rec (fun _ => _) (none) ((match tabE t l with | some v => some (v, s) | none => none)) (Nat.beq g G))
  | _, _ => none

/-! ### Code. -/
structure Rec where
  code : Code → Act → St → Option (AExit × Act × St)
  call : AVal → List AVal → St → Option (AVal × St)
noncomputable def putE (a : Act) (dst : Option Nat) (v : AVal) : Option Act :=
  match dst with
  | none => some a
  | some d => (@Bool.rec (fun _ => _) (none) (some { a with tm := a.tm.set d v }) (Nat.ble (d + 1) a.N))
noncomputable def put1 (a : Act) (dst : Option Nat) : Option (AVal × St) → Option (Act × St)
  | some (v, s) => (match putE a dst v with | some a' => some (a', s) | none => none)
  | none => none
noncomputable def mtFind (l : List (Nat × String × Nat)) (t : Nat) (name : String) : Option Nat :=
  match l with
  | [] => none
  | (u, n, g) :: l => (@Bool.rec (fun _ => _) (mtFind l t name) (some g) (Nat.beq u t && (n == name)))
noncomputable def callM (X : Env) (r : Rec) (recv : AVal) (name : String) (args : List AVal) (s : St) : Option (AVal × St) :=
  match recv with
  | .iface t v => (match mtFind X.mt t name with | some g => r.call (.func (.func g) [] []) (v :: args) s | none => none)
  | _ => none
noncomputable def clsK (o : Op) : Cls :=
  @Op.rec (fun _ => Cls)
    (fun _  => .rd)
    (fun _  => .rd)
    (fun _ _ _  => .rd)
    (fun _  => .al)
    (fun _ _  => .al)
    (fun _ _  => .rd)
    (fun _ _ _  => .al)
    (fun _ _ _ _  => .wr)
    (fun _ _  => .rd)
    (fun _ _ _  => .wr)
    (fun _  => .rd)
    (fun _  => .rd)
    (fun _  => .rd)
    (fun _ _ _ _ _  => .rd)
    (fun _ _ _  => .rd)
    (fun _ _ _  => .rdal)
    (fun _ _  => .rd)
    (fun _ _  => .rd)
    (fun _ _ _  => .rd)
    (fun _ _  => .al)
    (fun _ _  => .rd)
    (fun _ _ _  => .al)
    (fun _ _ _ _ _  => .rd)
    (fun _ _ _  => .rd)
    (fun _ _ _  => .rd)
    (fun _ _ _  => .rd)
    (fun _ _ _  => .rd)
    (fun _ _ _ _  => .rd)
    (fun _ _ _ _  => .wr)
    (fun _ _ _  => .wr)
    (fun _ _ _ _  => .wr)
    (fun _ _  => .wr)
    (fun _ _  => .wr)
    (fun _  => .rd)
    (fun _ _ _ _  => .rd)
    (fun _ _  => .rd)
    (fun c  => clsC c.callee)
    (fun _  => .rd)
    (fun _  => .dfr)
    (fun _  => .rd)
    (fun _ _  => .rd)
    (fun _ _ _  => .rd)
    (fun _ _  => .rd)
    o
noncomputable def rdK (o : Op) : Env → (Operand → AVal) → Tr AObj → Option AVal :=
  @Op.rec (fun _ => Env → (Operand → AVal) → Tr AObj → Option AVal)
    (fun x X ev h => some (ev x))
    (fun x X ev h => some (ev x))
    (fun c a b X ev h => pickE (ev c) (ev a) (ev b))
    (fun _ _ _ _ => none)
    (fun _ _ _ _ _ => none)
    (fun t parts X ev h => buildE X t (parts.toList.map fun p => (p.1, ev p.2)))
    (fun _ _ _ _ _ _ => none)
    (fun _ _ _ _ _ _ _ => none)
    (fun t a X ev h => loadA (ev a) X h t)
    (fun _ _ _ _ _ _ => none)
    (fun _ _ _ _ => none)
    (fun _ _ _ _ => none)
    (fun x X ev h => nilE (ev x))
    (fun op t x y _ X ev h => binK (ev x) (ev y) op X h t x y)
    (fun op _ x X ev h => unE op (ev x))
    (fun a b x X ev h => convE X h a b (ev x))
    (fun _ _ _ _ _ => none)
    (fun t x X ev h => mkIfD (X.ty.get t) t (ev x))
    (fun fn a b X ev h => mkFnE fn (a.toList.map ev) (b.toList.map ev))
    (fun _ _ _ _ _ => none)
    (fun _ _ _ _ _ => none)
    (fun _ _ _ _ _ _ => none)
    (fun t x lo hi mx X ev h => sliceE X h t (ev x) (mapO ev lo) (mapO ev hi) (mapO ev mx))
    (fun t x f X ev h => fieldAddrE X t (ev x) f)
    (fun t x f X ev h => fieldE X t (ev x) f)
    (fun t x i X ev h => indexAddrE X t (ev x) (ev i))
    (fun t x i X ev h => indexE X t (ev x) (ev i))
    (fun t x i ok X ev h => lookupE X h t (ev x) (ev i) ok)
    (fun _ _ _ _ _ _ _ => none)
    (fun _ _ _ _ _ _ => none)
    (fun _ _ _ _ _ _ _ => none)
    (fun _ _ _ _ _ => none)
    (fun _ _ _ _ _ => none)
    (fun it X ev h => entryE h (ev it))
    (fun x _ a ok X ev h => typeAssertE X (ev x) a ok)
    (fun t i X ev h => extrE (ev t) i)
    (fun c X ev h => callRd c.callee X h c.argTypes.toList (c.args.toList.map ev))
    (fun _ _ _ _ => none)
    (fun _ _ _ _ => none)
    (fun _ _ _ _ => none)
    (fun _ _ _ _ _ => none)
    (fun _ _ _ _ _ _ => none)
    (fun _ _ _ _ _ => none)
    o
noncomputable def alK (o : Op) : Env → (Operand → AVal) → Option (AObj × AlR) :=
  @Op.rec (fun _ => Env → (Operand → AVal) → Option (AObj × AlR))
    (fun _ _ _ => none)
    (fun _ _ _ => none)
    (fun _ _ _ _ _ => none)
    (fun e X ev => alE (.alloc e) X ev)
    (fun e v X ev => alE (.box e v) X ev)
    (fun _ _ _ _ => none)
    (fun t n parts X ev => alE (.buildSlice t n parts) X ev)
    (fun _ _ _ _ _ _ => none)
    (fun _ _ _ _ => none)
    (fun _ _ _ _ _ => none)
    (fun _ _ _ => none)
    (fun _ _ _ => none)
    (fun _ _ _ => none)
    (fun _ _ _ _ _ _ _ => none)
    (fun _ _ _ _ _ => none)
    (fun a b x X ev => alE (.convert a b x) X ev)
    (fun _ _ _ _ => none)
    (fun _ _ _ _ => none)
    (fun _ _ _ _ _ => none)
    (fun t r X ev => alE (.makeMap t r) X ev)
    (fun _ _ _ _ => none)
    (fun t l c X ev => alE (.makeSlice t l c) X ev)
    (fun _ _ _ _ _ _ _ => none)
    (fun _ _ _ _ _ => none)
    (fun _ _ _ _ _ => none)
    (fun _ _ _ _ _ => none)
    (fun _ _ _ _ _ => none)
    (fun _ _ _ _ _ _ => none)
    (fun _ _ _ _ _ _ => none)
    (fun _ _ _ _ _ => none)
    (fun _ _ _ _ _ _ => none)
    (fun _ _ _ _ => none)
    (fun _ _ _ _ => none)
    (fun _ _ _ => none)
    (fun _ _ _ _ _ _ => none)
    (fun _ _ _ _ => none)
    (fun _ _ _ => none)
    (fun _ _ _ => none)
    (fun _ _ _ => none)
    (fun _ _ _ => none)
    (fun _ _ _ _ => none)
    (fun _ _ _ _ _ => none)
    (fun _ _ _ _ => none)
    o
noncomputable def wrK (o : Op) : Env → (Operand → AVal) → St → Option (AVal × St) :=
  @Op.rec (fun _ => Env → (Operand → AVal) → St → Option (AVal × St))
    (fun _ _ _ _ => none)
    (fun _ _ _ _ => none)
    (fun _ _ _ _ _ _ => none)
    (fun _ _ _ _ => none)
    (fun _ _ _ _ _ => none)
    (fun _ _ _ _ _ => none)
    (fun _ _ _ _ _ _ => none)
    (fun t m k v X ev s => andS undefA (updE X s t (ev m) (ev k) (ev v)))
    (fun _ _ _ _ _ => none)
    (fun t a v X ev s => andS undefA (storeA (ev a) X s t (ev v)))
    (fun _ _ _ _ => none)
    (fun _ _ _ _ => none)
    (fun _ _ _ _ => none)
    (fun _ _ _ _ _ _ _ _ => none)
    (fun _ _ _ _ _ _ => none)
    (fun _ _ _ _ _ _ => none)
    (fun _ _ _ _ _ => none)
    (fun _ _ _ _ _ => none)
    (fun _ _ _ _ _ _ => none)
    (fun _ _ _ _ _ => none)
    (fun _ _ _ _ _ => none)
    (fun _ _ _ _ _ _ => none)
    (fun _ _ _ _ _ _ _ _ => none)
    (fun _ _ _ _ _ _ => none)
    (fun _ _ _ _ _ _ => none)
    (fun _ _ _ _ _ _ => none)
    (fun _ _ _ _ _ _ => none)
    (fun _ _ _ _ _ _ _ => none)
    (fun t m k v X ev s => andS undefA (updE X s t (ev m) (ev k) (ev v)))
    (fun _ _ _ _ _ _ => none)
    (fun _ _ _ _ _ _ _ => none)
    (fun t x X ev s => rangeE X s t (ev x))
    (fun it b X ev s => nextE s (ev it) b)
    (fun _ _ _ _ => none)
    (fun _ _ _ _ _ _ _ => none)
    (fun _ _ _ _ _ => none)
    (fun c X ev s => callBw c.callee c.argTypes.toList (c.args.toList.map ev) X s)
    (fun _ _ _ _ => none)
    (fun _ _ _ _ => none)
    (fun _ _ _ _ => none)
    (fun _ _ _ _ _ => none)
    (fun _ _ _ _ _ _ => none)
    (fun _ _ _ _ _ => none)
    o
theorem clsK_eq : clsK = clsO := by funext o; cases o <;> rfl
theorem rdK_eq : rdK = rdE := by
  funext o X ev h
  cases o <;> rfl
theorem alK_eq : alK = alE := by funext o X ev; cases o <;> first | rfl
theorem wrK_eq : wrK = wrE := by funext o X ev s; cases o <;> first | rfl
noncomputable def rdPut : Option AVal → Act → Option Nat → St → Option (Act × St)
  | some v, a, d, s => put1 a d (some (v, s))
  | none, _, _, _ => none
noncomputable def alPut : Option (AObj × AlR) → Act → Option Nat → St → Option (Act × St)
  | some (ob, ar), a, d, s => put1 a d (some (ar.val s.next, alloc s ob))
  | none, _, _, _ => none
noncomputable def callO : Callee → Array Operand → Env → Rec → (Operand → AVal) → St → Option (AVal × St)
  | .value f, args, _, r, ev, s => r.call (ev f) (args.toList.map ev) s
  | .invoke x name, args, X, r, ev, s => callM X r (ev x) name (args.toList.map ev) s
  | .builtin _, _, _, _, _, _ => none
noncomputable def callP : Op → Env → Rec → (Operand → AVal) → St → Option (AVal × St)
  | .call c, X, r, ev, s => callO c.callee c.args X r ev s
  | _, _, _, _, _ => none
noncomputable def dfrV : AVal → Bool → List AVal → Option Nat → Act → St → Option (Act × St)
  | .func (.func g) first cap, false, args, d, a, s => put1 { a with defers := (.func (.func g) first cap, args) :: a.defers } d (some (undefA, s))
  | _, _, _, _, _, _ => none
noncomputable def dfrC : Callee → Array Operand → Option Nat → Act → St → Option (Act × St)
  | .value f, args, d, a, s => dfrV (evalO a.tm f) a.rnd (args.toList.map (evalO a.tm)) d a s
  | _, _, _, _, _ => none
noncomputable def dfrP : Op → Option Nat → Act → St → Option (Act × St)
  | .defer c, d, a, s => dfrC c.callee c.args d a s
  | _, _, _, _ => none
noncomputable def rdalP : Option AVal → Op → Option Nat → Env → Act → St → Option (Act × St)
  | some v, _, d, _, a, s => put1 a d (some (v, s))
  | none, o, d, X, a, s => alPut (alK o X (evalO a.tm)) a d s
noncomputable def opC : Cls → Op → Option Nat → Env → Rec → Act → St → Option (Act × St)
  | .rd, o, d, X, _, a, s => rdPut (rdK o X (evalO a.tm) s.heap) a d s
  | .al, o, d, X, _, a, s => alPut (alK o X (evalO a.tm)) a d s
  | .rdal, o, d, X, _, a, s => rdalP (rdK o X (evalO a.tm) s.heap) o d X a s
  | .wr, o, d, X, _, a, s => put1 a d (wrK o X (evalO a.tm) s)
  | .call, o, d, X, r, a, s => put1 a d (callP o X r (evalO a.tm) s)
  | .dfr, o, d, _, _, a, s => dfrP o d a s
noncomputable def opE (X : Env) (r : Rec) (o : Oper) (a : Act) (s : St) : Option (Act × St) := opC (clsK o.op) o.op o.dst X r a s
noncomputable def dstO : Option Oper → Option Nat
  | some o => o.dst
  | none => none
noncomputable def dstAt (ops : List Oper) (j : Nat) : Option Nat := dstO (nth ops j)
noncomputable def isBool : AVal → Bool → Option Bool
  | .bool b, want => some (eqB b want)
  | .bad, _ => none
  | _, _ => some false
noncomputable def wantD : Option Nat → Tr AVal → Bool → Option Bool
  | some d, tm, want => isBool (orUndef (tm.get d)) want
  | none, _, _ => some false
noncomputable def wantG : Option (Nat × Bool) → List Oper → Tr AVal → Option Bool
  | none, _, _ => some true
  | some (j, want), ops, tm => wantD (dstAt ops j) tm want
noncomputable def wantedE (ops : List Oper) (o : Oper) (tm : Tr AVal) : Option Bool := wantG o.guard ops tm
noncomputable def turnW : Option Bool → Env → Rec → Oper → Act → St → Option (Act × St)
  | some true, X, r, o, a, s => opE X r o a s
  | some false, _, _, o, a, s => put1 a o.dst (some (undefA, s))
  | none, _, _, _, _, _ => none
/-- an operation in its turn, its guard asked -/
noncomputable def turnE (X : Env) (r : Rec) (all : List Oper) (o : Oper) (a : Act) (s : St) : Option (Act × St) := turnW (wantedE all o a.tm) X r o a s
noncomputable def contE (ih : List Oper → Env → Rec → Act → St → Option (Act × St)) (all : List Oper) (X : Env) (r : Rec) : Option (Act × St) → Option (Act × St)
  | some (a, s) => ih all X r a s
  | none => none
noncomputable def seqE (l : List Oper) : List Oper → Env → Rec → Act → St → Option (Act × St) :=
  @List.rec Oper (fun _ => List Oper → Env → Rec → Act → St → Option (Act × St)) (fun _ _ _ a s => some (a, s))
    (fun o _ ih all X r a s => contE ih all X r (turnE X r all o a s)) l
noncomputable def leaves : AExit → Bool
  | .normal => true
  | .ret => true
  | _ => false
noncomputable def initTm (l : List AVal) : Nat → Tr AVal → Tr AVal :=
  @List.rec AVal (fun _ => Nat → Tr AVal → Tr AVal) (fun _ t => t) (fun v _ ih i t => ih (Nat.add i 1) (t.set i v)) l
noncomputable def actOf (args : List AVal) (N : Nat) : Act := { tm := initTm args 0 .nil, N, defers := [], rnd := false }
noncomputable def takeO (s : St) (b : Nat) : Option AObj → Option St
  | some (.deferred false) => some (setObj s b (.deferred true))
  | _ => none
noncomputable def bodyOf (X : Env) (g : Nat) : Option (Func × Code) :=
  match X.fn.get g with
  | some fn => (match fn.body with
    | some c => some (fn, c)
    | none => none)
  | none => none
noncomputable def leftD : Option (AExit × Act × St) → Option St
  | some (e, ⟨_, _, [], _⟩, s') => @Bool.rec (fun _ => _) none (some s') (leaves e)
  | _ => none
noncomputable def fnD (r : Rec) (s : St) (args : List AVal) : Option (Func × Code) → Option St
  | some (fn, c) => (match fn.results.toList with
    | [] => @Bool.rec (fun _ => _) none (leftD (r.code c (actOf args fn.ntmps) s)) (Nat.ble (len args) fn.ntmps)
    | _ => none)
  | none => none
noncomputable def oneD (X : Env) (r : Rec) (args : List AVal) (s : St) : AVal → Option St
  | .yld b => takeO s b (s.heap.get b)
  | .func (.func g) first cap => fnD r s (first ++ args ++ cap) (bodyOf X g)
  | _ => none
noncomputable def runD (X : Env) (r : Rec) : List (AVal × List AVal) → St → Option St
  | [], s => some s
  | (f, args) :: ds, s => (match oneD X r args s f with
    | some s' => runD X r ds s'
    | none => none)
noncomputable def resV (X : Env) (h : Tr AObj) (tm : Tr AVal) : ResultVar → Option AVal
  | .tmp t => some (evalO tm (.tmp t))
  | .cell ad t => loadA (evalO tm (.tmp ad)) X h t
noncomputable def consV (v : Option AVal) (l : Option (List AVal)) : Option (List AVal) :=
  match v with
  | some v => consO v l
  | none => none
noncomputable def resE (X : Env) (h : Tr AObj) (tm : Tr AVal) : List ResultVar → Option (List AVal)
  | [] => some []
  | x :: l => consV (resV X h tm x) (resE X h tm l)
noncomputable def oneOf : List AVal → AVal
  | [v] => v
  | l => .tup l
noncomputable def retE (s : St) : Option (List AVal) → Option (AVal × St)
  | some l => some (oneOf l, s)
  | none => none
noncomputable def endF (X : Env) (fn : Func) (tm : Tr AVal) : Option St → Option (AVal × St)
  | some s2 => retE s2 (resE X s2.heap tm fn.results.toList)
  | none => none
noncomputable def leftF (X : Env) (r : Rec) (fn : Func) : Option (AExit × Act × St) → Option (AVal × St)
  | some (e, a, s1) => @Bool.rec (fun _ => _) none (endF X fn a.tm (runD X r a.defers s1)) (leaves e)
  | none => none
noncomputable def fnF (X : Env) (r : Rec) (args : List AVal) (s : St) : Option (Func × Code) → Option (AVal × St)
  | some (fn, c) => @Bool.rec (fun _ => _) none (leftF X r fn (r.code c (actOf args fn.ntmps) s)) (Nat.ble (len args) fn.ntmps)
  | none => none
noncomputable def runF (X : Env) (r : Rec) (g : Nat) (args : List AVal) (s : St) : Option (AVal × St) := fnF X r args s (bodyOf X g)
noncomputable def bindPs : List Nat → List AVal → Nat → Tr AVal → Option (Tr AVal)
  | [], [], _, t => some t
  | p :: ps, v :: vs, N, t => (@Bool.rec (fun _ => _) (none) (bindPs ps vs N (t.set p v)) (Nat.ble (p + 1) N))
  | _, _, _, _ => none
noncomputable def jumpOf : AExit → Option Code
  | .normal => none
  | .ret => some .ret
  | .exit i => some (.exit i)
  | .goto l => some (.goto l)
noncomputable def closeE (s : St) (l : Nat) (j : Option Code) : Option AObj → Option (AVal × St)
  | some (.loop tm N ps as bo .busy _ db) => (match j with
    | none => some (.bool true, setObj s l (.loop tm N ps as bo .ready none db))
    | some c => some (.bool false, setObj s l (.loop tm N ps as bo .done (some c) db)))
  | _ => none
noncomputable def bodyY (l : Nat) : Option (AExit × Act × St) → Option (AVal × St)
  | some (e, ⟨_, _, [], _⟩, s2) => closeE s2 l (jumpOf e) (s2.heap.get l)
  | _ => none
noncomputable def openY (s : St) (l : Nat) : Option AObj → Option St
  | some (.loop tm N ps as bo .ready pend db) => some (setObj s l (.loop tm N ps as bo .busy pend db))
  | _ => none
noncomputable def thenY (r : Rec) (l : Nat) (body : Code) (a : Act) : Option St → Option (AVal × St)
  | some s => bodyY l (r.code body a s)
  | none => none
noncomputable def asgY (r : Rec) (l : Nat) (body : Code) : Option (AExit × Act × St) → Option (AVal × St)
  | some (.normal, a1, s1) => thenY r l body a1 (openY s1 l (s1.heap.get l))
  | _ => none
noncomputable def bindY (r : Rec) (l N : Nat) (assign body : Code) (s : St) : Option (Tr AVal) → Option (AVal × St)
  | some tm => asgY r l body (r.code assign { tm, N, defers := [], rnd := true } s)
  | none => none
noncomputable def yieldO (r : Rec) (l : Nat) (args : List AVal) (s : St) : Option AObj → Option (AVal × St)
  | some (.loop tm N ps assign body _ _ _) => bindY r l N assign body s (bindPs ps args N tm)
  | _ => none
noncomputable def yieldE (r : Rec) (l : Nat) (args : List AVal) (s : St) : Option (AVal × St) := yieldO r l args s (s.heap.get l)
noncomputable def callE (X : Env) (xt : Tr Ext) (r : Rec) (f : AVal) (args : List AVal) (s : St) : Option (AVal × St) :=
  match f with
  | .func (.func g) first cap => (match xt.get g with
    | some e => extE e (first ++ args ++ cap) s
    | none => runF X r g (first ++ args ++ cap) s)
  | .func (.method name) (recv :: first) _ => callM X r recv name (first ++ args) s
  | .yld l => yieldE r l args s
  | _ => none

/-! ### Regions that draw their order. -/
noncomputable def bindsA (e : Edge) : Bool :=
  match e.ground with
  | .textOnly _ => false
  | .gcOnly _ => false
  | _ => true
noncomputable def maskOf (ms : List Nat) : List Edge → Nat → Nat
  | [], m => m
  | e :: l, m => (@Bool.rec (fun _ => _) (maskOf ms l m) (maskOf ms l (Nat.lor (Nat.lor m (2 ^ e.on)) (match nth ms e.on with | some x => x | none => 0))) (bindsA e))
noncomputable def masks : List Oper → List Nat → List Nat
  | [], ms => ms
  | o :: l, ms => masks l (ms ++ [maskOf ms o.after.toList 0])
noncomputable def isWC : Cls → Bool
  | .rd => false
  | .rdal => false
  | _ => true
/-- 'alloc', unguarded: it may come up whenever it likes -/
noncomputable def allocT : Option (Nat × Bool) → Op → Option Nat
  | none, .alloc e => some e
  | _, _ => none
inductive Kd where | al | wr | rd
noncomputable def kdC : Bool → Kd
  | true => .wr
  | false => .rd
noncomputable def kdT : Option Nat → Op → Kd
  | some _, _ => .al
  | none, o => kdC (isWC (clsK o))
noncomputable def kdOf (o : Oper) : Kd := kdT (allocT o.guard o.op) o.op
noncomputable def isWK : Kd → Bool
  | .wr => true
  | _ => false
noncomputable def isW (o : Oper) : Bool := isWK (kdOf o)
noncomputable def tmpsOf : List Operand → List Nat
  | [] => []
  | .tmp t :: l => t :: tmpsOf l
  | _ :: l => tmpsOf l
noncomputable def looks (ops : List Oper) (o : Oper) : List Nat :=
  tmpsOf o.op.operands.toList ++ (match o.guard with | some (j, _) => (match dstAt ops j with | some d => [d] | none => []) | none => [])
noncomputable def notIn (d : Option Nat) (l : List Nat) : Bool :=
  match d with
  | some d => !hasN l d
  | none => true
noncomputable def edgesOk (i : Nat) : List Edge → Bool
  | [] => true
  | e :: l => ((@Bool.rec (fun _ => _) (true) (Nat.ble (e.on + 1) i) (bindsA e))) && edgesOk i l
noncomputable def unlikeD (x y : Option Nat) : Bool :=
  match x, y with
  | some a, some b => !Nat.beq a b
  | _, _ => true
/-- one operation against those behind it -/
noncomputable def pairOk (ops : List Oper) (i : Nat) (x : Oper) : List (Oper × Nat) → Bool
  | [] => true
  | (y, m) :: l => unlikeD x.dst y.dst &&
      ((@Bool.rec (fun _ => _) (notIn x.dst (looks ops y) && notIn y.dst (looks ops x) && !(isW x && isW y)) (true) (Nat.testBit m i))) && pairOk ops i x l
noncomputable def pairsOk (ops : List Oper) (i : Nat) : List (Oper × Nat) → Bool
  | [] => true
  | (x, _) :: l => edgesOk i x.after.toList && pairOk ops i x l && pairsOk ops (i + 1) l
structure Note where
  i : Nat
  o : Oper
  tm : Tr AVal
  v : AVal
  k : Nat
structure TrSt where
  a : Act
  s : St
  i : Nat
  nm : Nat
  k : Nat
  hs : List (Tr AObj)
  ns : List Note
noncomputable def trAl (t : TrSt) : Option Act → Option TrSt
  | some a => some { t with a, i := t.i + 1, nm := t.nm + 1 }
  | none => none
noncomputable def trWr (t : TrSt) : Option (Act × St) → Option TrSt
  | some (a, s) => some { t with a, s, i := t.i + 1, k := t.k + 1, hs := s.heap :: t.hs }
  | none => none
noncomputable def trNo (t : TrSt) : Option Act → Option TrSt
  | some a => some { t with a, i := t.i + 1 }
  | none => none
noncomputable def trRd (t : TrSt) (o : Oper) (v : AVal) : Option Act → Option TrSt
  | some a => some { t with a, i := t.i + 1, ns := { i := t.i, o, tm := t.a.tm, v, k := t.k } :: t.ns }
  | none => none
noncomputable def trRv (t : TrSt) (o : Oper) : Option AVal → Option TrSt
  | some v => trRd t o v (putE t.a o.dst v)
  | none => none
noncomputable def trW (X : Env) (t : TrSt) (o : Oper) : Option Bool → Option TrSt
  | some true => trRv t o (rdK o.op X (evalO t.a.tm) t.s.heap)
  | some false => trNo t (putE t.a o.dst undefA)
  | none => none
noncomputable def isDfr : Cls → Bool
  | .dfr => true
  | _ => false
noncomputable def trK (X : Env) (r : Rec) (all : List Oper) (t : TrSt) (o : Oper) : Kd → Option TrSt
  | .al => trAl t (putE t.a o.dst (.ptr t.nm 0))
  | .wr => @Bool.rec (fun _ => _) (trWr t (turnE X r all o t.a t.s)) none (isDfr (clsK o.op))
  | .rd => trW X t o (wantedE all o t.a.tm)
/-- in the text's order; the heaps behind each writer, the newest first; what was read -/
noncomputable def trStep (X : Env) (r : Rec) (all : List Oper) (t : TrSt) (o : Oper) : Option TrSt := trK X r all t o (kdOf o)
noncomputable def foldT (ih : TrSt → Option TrSt) : Option TrSt → Option TrSt
  | some t => ih t
  | none => none
noncomputable def foldE (f : TrSt → Oper → Option TrSt) (l : List Oper) : TrSt → Option TrSt :=
  @List.rec Oper (fun _ => TrSt → Option TrSt) (fun t => some t) (fun o _ ih t => foldT ih (f t o)) l
/-- what may come up whenever it likes is laid first -/
noncomputable def hoistO (s : St) (e : Nat) : Option TI → Option St
  | some i => some (alloc s (.cells i.zv.cells e false false false []))
  | none => none
noncomputable def hoistA (X : Env) (s : St) : Option Nat → Option St
  | some e => hoistO s e (X.ty.get e)
  | none => some s
noncomputable def hoistE (X : Env) : List Oper → St → Option St
  | [], s => some s
  | o :: l, s => (match hoistA X s (allocT o.guard o.op) with
    | some s' => hoistE X l s'
    | none => none)
noncomputable def beqL (f : AVal → AVal → Bool) : List AVal → List AVal → Bool
  | [], [] => true
  | a :: l, b :: m => (@Bool.rec (fun _ => _) (false) (beqL f l m) (f a b))
  | _, _ => false
noncomputable def beqF : Nat → AVal → AVal → Bool
  | 0, _, _ => false
  | f + 1, x, y =>
    match x, y with
    | .bool true, .bool true => true
    | .bool false, .bool false => true
    | .int k a, .int j b => kEq k j && eqI a b
    | .str a, .str b => beqN a b
    | .pnil, .pnil => true
    | .ptr a b, .ptr c d => Nat.beq a c && Nat.beq b d
    | .snil, .snil => true
    | .sl a b c d e, .sl a' b' c' d' e' => Nat.beq a a' && Nat.beq b b' && Nat.beq c c' && Nat.beq d d' && (match e, e' with | true, true => true | false, false => true | _, _ => false)
    | .mnil, .mnil => true
    | .map a, .map b => Nat.beq a b
    | .fnil, .fnil => true
    | .yld a, .yld b => Nat.beq a b
    | .func (.func g) a b, .func (.func g') c d => Nat.beq g g' && beqL (beqF f) a c && beqL (beqF f) b d
    | .inil, .inil => true
    | .iface t v, .iface u w => Nat.beq t u && beqF f v w
    | .agg a, .agg b => beqL (beqF f) a b
    | .tup a, .tup b => beqL (beqF f) a b
    | _, _ => false
/-- how many there are of a kind -/
noncomputable def cnt (p : Oper → Nat → Nat → Bool) : List (Oper × Nat) → Nat → Nat
  | [], _ => 0
  | (o, m) :: l, j => @Bool.rec (fun _ => Nat) (cnt p l (j + 1)) (cnt p l (j + 1) + 1) (p o m j)
noncomputable def isSome (v : AVal) : Option AVal → Bool
  | some u => beqF 5 v u
  | none => false
noncomputable def sameFrom (X : Env) (n : Note) : List (Tr AObj) → Nat → Nat → Nat → Bool
  | [], _, _, _ => true
  | h :: hs, k, lo, hi => ((@Bool.rec (fun _ => _) (true) (isSome n.v (rdK n.o.op X (evalO n.tm) h)) (Nat.ble lo k && (Nat.ble k hi && !Nat.beq k n.k)))) && sameFrom X n hs (k + 1) lo hi
noncomputable def noteOk (X : Env) (zs : List (Oper × Nat)) (hs : List (Tr AObj)) (n : Note) : Option (Oper × Nat) → Bool
  | some (_, m) => sameFrom X n hs 0 (cnt (fun o _ j => isW o && Nat.testBit m j) zs 0) (cnt (fun o q _ => isW o && !Nat.testBit q n.i) zs 0)
  | none => false
noncomputable def notesOk (X : Env) (zs : List (Oper × Nat)) (hs : List (Tr AObj)) : List Note → Bool
  | [] => true
  | n :: ns => noteOk X zs hs n (nth zs n.i) && notesOk X zs hs ns
noncomputable def drawR (X : Env) (zs : List (Oper × Nat)) : Option TrSt → Option (Act × St)
  | some t => @Bool.rec (fun _ => _) none (some (t.a, t.s)) (notesOk X zs t.hs.reverse t.ns)
  | none => none
noncomputable def drawS (X : Env) (r : Rec) (ops : List Oper) (a : Act) (nm : Nat) (zs : List (Oper × Nat)) : Option St → Option (Act × St)
  | some s => drawR X zs (foldE (trStep X r ops) ops { a, s, i := 0, nm, k := 0, hs := [s.heap], ns := [] })
  | none => none
noncomputable def drawZ (X : Env) (r : Rec) (ops : List Oper) (a : Act) (s : St) (zs : List (Oper × Nat)) : Option (Act × St) :=
  @Bool.rec (fun _ => _) none (drawS X r ops a s.next zs (hoistE X ops s)) (pairsOk ops 0 zs)
noncomputable def drawE (X : Env) (r : Rec) (ops : List Oper) (a : Act) (s : St) : Option (Act × St) := drawZ X r ops a s (ops.zip (masks ops []))

abbrev Out := Option (AExit × Act × St)
noncomputable def outN : Option (Act × St) → Out
  | some (a, s) => some (.normal, a, s)
  | none => none
noncomputable def blockO (id : Nat) : Out → Out
  | some (.exit i, a, s) => (@Bool.rec (fun _ => _) (some (.exit i, a, s)) (some (.normal, a, s)) (Nat.beq i id))
  | o => o
noncomputable def scopeO : Out → Out
  | some (.goto _, _, _) => none
  | o => o
noncomputable def loopO (x : Code) (r : Rec) : Out → Out
  | some (.normal, a, s) => r.code (.loop x) a s
  | o => o
noncomputable def rangeEnd : Option Code → Act → St → Out
  | none, a, s => some (.normal, a, s)
  | some .ret, a, s => some (.ret, a, s)
  | some (.exit i), a, s => some (.exit i, a, s)
  | some (.goto i), a, s => some (.goto i, a, s)
  | some _, _, _ => none
noncomputable def rangeLp (s2 : St) (l d : Nat) (a : Act) : Option AObj → Out
  | some (.loop _ _ _ _ _ .busy _ _) => none
  | some (.loop tm N ps as bo _ pend db) => rangeEnd pend { a with defers := (.yld d, []) :: a.defers } (setObj s2 l (.loop tm N ps as bo .exhausted pend db))
  | _ => none
noncomputable def rangeBack (l d : Nat) (a : Act) : Option (AVal × St) → Out
  | some (_, s2) => rangeLp s2 l d a (s2.heap.get l)
  | none => none
noncomputable def hasB : Option (Func × Code) → Bool
  | some _ => true
  | none => false
noncomputable def hasBody (X : Env) : AVal → Bool
  | .func (.func g) _ _ => hasB (bodyOf X g)
  | _ => false
noncomputable def rangeO (X : Env) (f : Operand) (ps : Array Tmp) (assign body : Code) (r : Rec) (a : Act) (s : St) : Out :=
  (@Bool.rec (fun _ => _) (none) (rangeBack (s.next + 1) s.next a (r.call (evalO a.tm f) [.yld (s.next + 1)] (alloc (alloc s (.deferred false)) (.loop a.tm a.N ps.toList assign body .ready none s.next)))) (!a.rnd && hasBody X (evalO a.tm f)))
noncomputable def condV : AVal → Out → Out → Out
  | .bool true, x, _ => x
  | .bool false, _, y => y
  | _, _, _ => none
noncomputable def thenO (f : Env → Rec → Act → St → Out) (X : Env) (r : Rec) : Out → Out
  | some (.normal, a, s) => f X r a s
  | o => o
noncomputable def evC (c : Code) : Env → Rec → Act → St → Out :=
  @Code.rec (fun _ => Env → Rec → Act → St → Out)
    (fun _ _ a s => some (.normal, a, s))
    (fun _ ops d X r a s => outN ((@Bool.rec (fun _ => _) (seqE ops.toList ops.toList X r a s) (drawE X r ops.toList a s) (d))))
    (fun _ _ x y X r a s => thenO y X r (x X r a s))
    (fun c _ _ x y X r a s => condV (evalO a.tm c) (x X r a s) (y X r a s))
    (fun id _ x X r a s => blockO id (x X r a s))
    (fun b x X r a s => loopO b r (x X r a s))
    (fun f ps assign body _ _ X r a s => rangeO X f ps assign body r a s)
    (fun i _ _ a s => some (.exit i, a, s))
    (fun _ x X r a s => scopeO (x X r a s))
    (fun _ _ _ a s => some (.normal, a, s))
    (fun l _ _ a s => some (.goto l, a, s))
    (fun _ _ a s => some (.ret, a, s))
    (fun _ _ _ _ _ => none) c

noncomputable def stepE (X : Env) (xt : Tr Ext) (r : Rec) : Rec := { code := fun c a s => evC c X r a s, call := callE X xt r }
noncomputable def evN (X : Env) (xt : Tr Ext) : Nat → Rec
  | 0 => { code := fun _ _ _ => none, call := fun _ _ _ => none }
  | n + 1 => stepE X xt (evN X xt n)
end Go.Ev
