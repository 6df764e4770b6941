/-
  What an abstract state stands for in a world, and that single changes keep this.
-/
import Derived.Test.YtjkcgaemdjjhgaaGreatDoorEvA
namespace Go.Ev
open Go

/-! ### What an abstract value stands for. -/
structure Loc where
  b : Nat
  base : Nat
  lim : Nat
  sz : Nat
abbrev Al := Nat → Option Loc

mutual
inductive VRel (α : Al) : AVal → Value → Prop
  | bad (v : Value) : VRel α .bad v
  | bool (b : Bool) : VRel α (.bool b) (.bool b)
  | int (k : IntKind) (n : Int) : VRel α (.int k n) (.int k n)
  | str {l : List Nat} {s : ByteArray} (h : s.data.toList.map (·.toNat) = l) : VRel α (.str l) (.string s)
  | pnil : VRel α .pnil (.pointer none)
  | ptr {r off : Nat} {L : Loc} (h : α r = some L) : VRel α (.ptr r off) (.pointer (some ⟨L.b, L.base + off, none⟩))
  | snil : VRel α .snil (.slice none 0 0)
  | sl {r off n cap cap' : Nat} {ex : Bool} {L : Loc} {a : Addr} (h : α r = some L) (hx : ex = true → cap' = cap) (hc : cap ≤ cap') (hn : n ≤ cap)
      (ha : cap' ≠ 0 → a = ⟨L.b, L.base + off, none⟩) (hr : ex = false → cap' ≠ 0 → L.base + off + cap' * L.sz ≤ L.lim) : VRel α (.sl r off n cap ex) (.slice (some a) n cap')
  | mnil : VRel α .mnil (.map none)
  | map {r : Nat} {L : Loc} (h : α r = some L) : VRel α (.map r) (.map (some L.b))
  | func {fn : Fn} {f c : List AVal} {f' c' : Array Value} (hy : ∀ l, fn ≠ .yield l) (hf : VRels α f f'.toList) (hc : VRels α c c'.toList) : VRel α (.func fn f c) (.func fn f' c')
  | yld {l : Nat} {L : Loc} (h : α l = some L) : VRel α (.yld l) (.func (.yield L.b) #[] #[])
  | fnil : VRel α .fnil .nilFunc
  | iface {t : Nat} {v : AVal} {v' : Value} (h : VRel α v v') : VRel α (.iface t v) (.iface t v')
  | inil : VRel α .inil .nilIface
  | agg {l : List AVal} {c : Array Value} (h : VRels α l c.toList) : VRel α (.agg l) (.agg c)
  | tup {l : List AVal} {c : Array Value} (h : VRels α l c.toList) : VRel α (.tup l) (.tuple c)
inductive VRels (α : Al) : List AVal → List Value → Prop
  | nil : VRels α [] []
  | cons {a : AVal} {v : Value} {l : List AVal} {m : List Value} (h : VRel α a v) (t : VRels α l m) : VRels α (a :: l) (v :: m)
end

def AlLe (α β : Al) : Prop := ∀ r L, α r = some L → β r = some L
theorem AlLe.refl (α : Al) : AlLe α α := fun _ _ h => h
theorem AlLe.trans {α β γ : Al} (h : AlLe α β) (k : AlLe β γ) : AlLe α γ := fun r L e => k r L (h r L e)

mutual
theorem VRel.mono {α β : Al} (hle : AlLe α β) : ∀ {a : AVal} {v : Value}, VRel α a v → VRel β a v
  | _, _, .bad v => .bad v
  | _, _, .bool b => .bool b
  | _, _, .int k n => .int k n
  | _, _, .str h => .str h
  | _, _, .pnil => .pnil
  | _, _, .ptr h => .ptr (hle _ _ h)
  | _, _, .snil => .snil
  | _, _, .sl h hx hc hn ha hr => .sl (hle _ _ h) hx hc hn ha hr
  | _, _, .mnil => .mnil
  | _, _, .map h => .map (hle _ _ h)
  | _, _, .func hy hf hc => .func hy (VRels.mono hle hf) (VRels.mono hle hc)
  | _, _, .yld h => .yld (hle _ _ h)
  | _, _, .fnil => .fnil
  | _, _, .iface h => .iface (VRel.mono hle h)
  | _, _, .inil => .inil
  | _, _, .agg h => .agg (VRels.mono hle h)
  | _, _, .tup h => .tup (VRels.mono hle h)
theorem VRels.mono {α β : Al} (hle : AlLe α β) : ∀ {l : List AVal} {m : List Value}, VRels α l m → VRels β l m
  | _, _, .nil => .nil
  | _, _, .cons h t => .cons (VRel.mono hle h) (VRels.mono hle t)
end

theorem VRels.length {α : Al} {l : List AVal} {m : List Value} (h : VRels α l m) : l.length = m.length := by
  induction l generalizing m with
  | nil => cases h; rfl
  | cons a l ih => cases h with | cons _ t => simp [ih t]
theorem VRels.append {α : Al} {l l2 : List AVal} {m m2 : List Value} (h : VRels α l m) (h2 : VRels α l2 m2) : VRels α (l ++ l2) (m ++ m2) := by
  induction l generalizing m with
  | nil => cases h; exact h2
  | cons a l ih => cases h with | cons hv t => exact .cons hv (ih t)
theorem VRels.get {α : Al} {l : List AVal} {m : List Value} (h : VRels α l m) {i : Nat} {a : AVal} (hi : l[i]? = some a) : ∃ v, m[i]? = some v ∧ VRel α a v := by
  induction l generalizing m i with
  | nil => simp at hi
  | cons x l ih =>
    cases h with
    | cons hv t =>
      cases i with
      | zero => simp at hi; subst hi; exact ⟨_, by simp, hv⟩
      | succ i => simp at hi; obtain ⟨v, h1, h2⟩ := ih t hi; exact ⟨v, by simpa using h1, h2⟩
theorem VRels.of_get {α : Al} {l : List AVal} {m : List Value} (hl : l.length = m.length) (h : ∀ (i : Nat) (a : AVal), l[i]? = some a → ∃ v, m[i]? = some v ∧ VRel α a v) : VRels α l m := by
  induction l generalizing m with
  | nil => cases m with | nil => exact .nil | cons _ _ => simp at hl
  | cons a l ih =>
    cases m with
    | nil => simp at hl
    | cons v m =>
      refine .cons ?_ (ih (by simpa using hl) fun i b hb => by simpa using h (i + 1) b (by simpa using hb))
      obtain ⟨v', h1, h2⟩ := h 0 a (by simp)
      simp at h1; subst h1; exact h2
theorem VRels.map {α : Al} {β : Type} (f : β → AVal) (g : β → Value) (h : ∀ x, VRel α (f x) (g x)) : ∀ l : List β, VRels α (l.map f) (l.map g)
  | [] => .nil
  | x :: l => .cons (h x) (VRels.map f g h l)
theorem VRels.replicate {α : Al} {a : AVal} {v : Value} (h : VRel α a v) : ∀ n, VRels α (List.replicate n a) (List.replicate n v)
  | 0 => .nil
  | n + 1 => .cons h (VRels.replicate h n)

theorem VRel.undef (α : Al) : VRel α undefA undef := .tup .nil

theorem VRel.cells {α : Al} {a : AVal} {v : Value} (h : VRel α a v) (hb : a ≠ .bad) : VRels α a.cells v.cells.toList := by
  cases h with
  | bad => exact absurd rfl hb
  | agg h => exact h
  | bool b => exact .cons (.bool b) .nil
  | int k n => exact .cons (.int k n) .nil
  | str h => exact .cons (.str h) .nil
  | pnil => exact .cons .pnil .nil
  | ptr h => exact .cons (.ptr h) .nil
  | snil => exact .cons .snil .nil
  | sl h hx hc hn ha hr => exact .cons (.sl h hx hc hn ha hr) .nil
  | mnil => exact .cons .mnil .nil
  | map h => exact .cons (.map h) .nil
  | func hy hf hc => exact .cons (.func hy hf hc) .nil
  | yld h => exact .cons (.yld h) .nil
  | fnil => exact .cons .fnil .nil
  | iface h => exact .cons (.iface h) .nil
  | inil => exact .cons .inil .nil
  | tup h => exact .cons (.tup h) .nil

/-! ### Constants. -/
theorem ofV_rel (α : Al) (v : Value) : VRel α (ofV v) v := by
  refine @Value.rec (fun v => VRel α (ofV v) v) (fun a => VRels α (@Value.rec_1 (fun _ => AVal) (fun _ => List AVal) (fun _ => List AVal)
    (fun b => .bool b) (fun k n => .int k n) (fun _ _ => .bad) (fun _ _ _ => .bad) (fun s => ofStr s) (fun o => ofPtr o) (fun o n c => ofSl o n c)
    (fun o => ofMap o) (fun _ => .bad) (fun _ _ _ _ _ => .bad) .fnil (fun t _ v => .iface t v) .inil (fun _ l => .agg l) (fun _ l => .tup l)
    (fun _ l => l) [] (fun _ _ a l => a :: l) a) a.toList) (fun l => VRels α (@Value.rec_2 (fun _ => AVal) (fun _ => List AVal) (fun _ => List AVal)
    (fun b => .bool b) (fun k n => .int k n) (fun _ _ => .bad) (fun _ _ _ => .bad) (fun s => ofStr s) (fun o => ofPtr o) (fun o n c => ofSl o n c)
    (fun o => ofMap o) (fun _ => .bad) (fun _ _ _ _ _ => .bad) .fnil (fun t _ v => .iface t v) .inil (fun _ l => .agg l) (fun _ l => .tup l)
    (fun _ l => l) [] (fun _ _ a l => a :: l) l) l) ?_ ?_ ?_ ?_ ?_ ?_ ?_ ?_ ?_ ?_ ?_ ?_ ?_ ?_ ?_ ?_ ?_ ?_ v
  · exact fun b => .bool b
  · exact fun k n => .int k n
  · exact fun _ _ => .bad _
  · exact fun _ _ _ => .bad _
  · exact fun s => .str rfl
  · intro a; cases a with
    | none => exact .pnil
    | some a => exact .bad _
  · intro a n c; cases a with
    | none =>
      show VRel α (ofSl none n c) _
      unfold ofSl
      simp only [brec]
      cases hn : Nat.beq n 0
      · exact .bad _
      · cases hc : Nat.beq c 0
        · exact .bad _
        · obtain rfl := Nat.eq_of_beq_eq_true hn
          obtain rfl := Nat.eq_of_beq_eq_true hc
          exact .snil
    | some a => exact .bad _
  · intro r; cases r with
    | none => exact .mnil
    | some a => exact .bad _
  · exact fun _ => .bad _
  · exact fun _ _ _ _ _ => .bad _
  · exact .fnil
  · exact fun t v h => .iface h
  · exact .inil
  · exact fun c h => .agg h
  · exact fun c h => .tup h
  · exact fun l h => h
  · exact .nil
  · exact fun a l h t => .cons h t

/-! ### Temporaries. -/
def TmRel (α : Al) (tm : Tr AVal) (N : Nat) (tmps : Array Value) : Prop :=
  tmps.size = N ∧ ∀ t, VRel α (orUndef (tm.get t)) (tmps.getD t undef)
theorem TmRel.mono {α β : Al} (hle : AlLe α β) {tm : Tr AVal} {N : Nat} {tmps : Array Value} (h : TmRel α tm N tmps) : TmRel β tm N tmps :=
  ⟨h.1, fun t => (h.2 t).mono hle⟩
/-- globals stand for themselves -/
def Globals (P : Program) (α : Al) : Prop := ∀ g, g ≤ P.globals.size → ∃ L, α g = some L ∧ L.b = g ∧ L.base = 0
end Go.Ev
namespace Go.Ev
open Go

def spentOf : AObj → Bool
  | .cells _ _ _ s _ _ => s
  | _ => false
def ancOf : AObj → List Nat
  | .cells _ _ _ _ _ a => a
  | _ => []
def lenOf : AObj → Nat
  | .cells cs _ _ _ _ _ => cs.length
  | _ => 0
def lstOf : LSt → LoopState
  | .ready => .ready | .busy => .busy | .done => .done | .exhausted => .exhausted

inductive ERels (α : Al) : List (AVal × AVal × Nat) → List MapEntry → Prop
  | nil : ERels α [] []
  | cons {k v : AVal} {b : Nat} {e : MapEntry} {l : List (AVal × AVal × Nat)} {m : List MapEntry} (hk : VRel α k e.key) (hv : VRel α v e.val) (hb : e.born = b) (t : ERels α l m) : ERels α ((k, v, b) :: l) (e :: m)
theorem ERels.mono {α β : Al} (hle : AlLe α β) {l : List (AVal × AVal × Nat)} {m : List MapEntry} (h : ERels α l m) : ERels β l m := by
  induction h with
  | nil => exact .nil
  | cons hk hv hb _ ih => exact .cons (hk.mono hle) (hv.mono hle) hb ih
theorem ERels.length {α : Al} {l : List (AVal × AVal × Nat)} {m : List MapEntry} (h : ERels α l m) : l.length = m.length := by
  induction h with
  | nil => rfl
  | cons _ _ _ _ ih => simp [ih]

def OptLoc (α : Al) (m : Option Nat) (m' : Option Nat) : Prop :=
  match m with
  | none => m' = none
  | some r => ∃ L, α r = some L ∧ m' = some L.b

/-- what an abstract object stands for -/
def ORel (X : Env) (α : Al) (o : AObj) (L : Loc) (w : World) : Prop :=
  match o with
  | .cells cs e lo _ fz _ => ∃ C e' fr, w.heap[L.b]? = some (.cells C e' fr) ∧ L.base + cs.length ≤ L.lim ∧ L.lim ≤ C.size ∧
      (∀ (i : Nat) (v : AVal), cs[i]? = some v → ∃ v', C[L.base + i]? = some v' ∧ VRel α v v') ∧
      (∀ i, i < C.size → ¬ (fr.1 ≤ i ∧ i < fr.2)) ∧ (fz = false → fr = (0, 0)) ∧ (lo = true → ∃ ti, X.ty.get e = some ti ∧ ti.size = L.sz)
  | .map es c => ∃ es', w.heap[L.b]? = some (.map es' c) ∧ ERels α es es'.toList
  | .miter m since seen last => ∃ m' seen', w.heap[L.b]? = some (.mapIter m' since seen' last) ∧ L.base = 0 ∧ seen'.toList.reverse = seen ∧ OptLoc α m m'
  | .siter s pos => ∃ s' : ByteArray, w.heap[L.b]? = some (.stringIter s' pos) ∧ L.base = 0 ∧ s'.data.toList.map (·.toNat) = s
  | .loop tm N ps as bo st pend d => ∃ l : Loop, w.heap[L.b]? = some (.loop l) ∧ l.state = lstOf st ∧ l.pending = pend ∧ l.params.toList = ps ∧ l.assign = as ∧ l.body = bo ∧ TmRel α tm N l.tmps ∧
      ∃ Ld, α d = some Ld ∧ l.defers = Ld.b
  | .deferred tk => w.heap[L.b]? = some (.deferred (if tk then none else some []))
  | .dead => True

theorem ORel.keep {X : Env} {α β : Al} {o : AObj} {L : Loc} {w w' : World} (hle : AlLe α β) (hb : w'.heap[L.b]? = w.heap[L.b]?) (h : ORel X α o L w) : ORel X β o L w' := by
  cases o with
  | cells cs e lo sp fz anc =>
    obtain ⟨C, e', fr, h1, h2, h3, h4, h5⟩ := h
    exact ⟨C, e', fr, hb.trans h1, h2, h3, fun i v hi => let ⟨v', a, b⟩ := h4 i v hi; ⟨v', a, b.mono hle⟩, h5⟩
  | map es c => obtain ⟨es', h1, h2⟩ := h; exact ⟨es', hb.trans h1, h2.mono hle⟩
  | miter m since seen last =>
    obtain ⟨m', seen', h1, h2, h3, h4⟩ := h
    refine ⟨m', seen', hb.trans h1, h2, h3, ?_⟩
    cases m with
    | none => exact h4
    | some r => obtain ⟨L', a, b⟩ := h4; exact ⟨L', hle _ _ a, b⟩
  | siter s pos => obtain ⟨s', h1, h2⟩ := h; exact ⟨s', hb.trans h1, h2⟩
  | loop tm N ps as bo st pend d =>
    obtain ⟨l, h1, h2, h3, h4, h5, h6, h7, Ld, h8, h9⟩ := h
    exact ⟨l, hb.trans h1, h2, h3, h4, h5, h6, h7.mono hle, Ld, hle _ _ h8, h9⟩
  | deferred tk => exact hb.trans h
  | dead => trivial

/-- may be written to -/
def Wr (o : AObj) : Prop := o ≠ .dead ∧ spentOf o = false
abbrev Hp := Nat → Option AObj
structure Rel (X : Env) (α : Al) (h : Hp) (w : World) : Prop where
  dom : ∀ r L o, α r = some L → h r = some o → o ≠ .dead → L.b < w.heap.size
  obj : ∀ r L o, α r = some L → h r = some o → ORel X α o L w
  sep : ∀ r1 r2 L1 L2 o1 o2, r1 ≠ r2 → α r1 = some L1 → α r2 = some L2 → h r1 = some o1 → h r2 = some o2 → o1 ≠ .dead → o2 ≠ .dead → L1.b = L2.b →
    (r1 ∈ ancOf o2 ∧ spentOf o1 = true ∧ L1.base + lenOf o1 ≤ L2.base + lenOf o2) ∨ (r2 ∈ ancOf o1 ∧ spentOf o2 = true ∧ L2.base + lenOf o2 ≤ L1.base + lenOf o1)

/-- a part of the heap -/
theorem Rel.sub {X : Env} {α : Al} {h h' : Hp} {w : World} (hr : Rel X α h w) (hs : ∀ r L o, α r = some L → h' r = some o → h r = some o) : Rel X α h' w :=
  ⟨fun r L o ha ho hd => hr.dom r L o ha (hs r L o ha ho) hd, fun r L o ha ho => hr.obj r L o ha (hs r L o ha ho),
   fun r1 r2 L1 L2 o1 o2 hne h1 h2 k1 k2 d1 d2 hb => hr.sep r1 r2 L1 L2 o1 o2 hne h1 h2 (hs _ _ _ h1 k1) (hs _ _ _ h2 k2) d1 d2 hb⟩

/-- from world to world -/
structure Stp (α β : Al) (h : Hp) (n m : Nat) (w w' : World) : Prop where
  le : AlLe α β
  new : ∀ r L, β r = some L → α r = some L ∨ (n ≤ r ∧ r < m)
  os : w'.os = w.os
  out : w'.output = w.output
  size : w.heap.size ≤ w'.heap.size
  keep : ∀ b : Nat, b < w.heap.size → (∀ r L o, α r = some L → h r = some o → Wr o → L.b ≠ b) → w'.heap[b]? = w.heap[b]?
  img : ∀ r L, β r = some L → α r = some L ∨ w.heap.size ≤ L.b ∨ ∃ r0 L0 o, α r0 = some L0 ∧ h r0 = some o ∧ Wr o ∧ L0.b = L.b
  nle : n ≤ m
def Fresh (α : Al) (n m : Nat) : Prop := ∀ r, n ≤ r → r < m → α r = none

theorem Stp.refl (α : Al) (h : Hp) (n : Nat) (w : World) : Stp α α h n n w w :=
  ⟨.refl α, fun _ _ h => .inl h, rfl, rfl, Nat.le_refl _, fun _ _ _ => rfl, fun _ _ h => .inl h, Nat.le_refl _⟩
/-- the heap is larger; what was there is so still, or dead, or has changed where it was -/
def Grows (h h' : Hp) (n : Nat) : Prop := ∀ r, r < n → ∀ o', h' r = some o' → Wr o' → ∃ o, h r = some o ∧ Wr o
theorem Grows.refl (h : Hp) (n : Nat) : Grows h h n := fun _ _ o ho hd => ⟨o, ho, hd⟩
theorem Grows.trans {h h' h'' : Hp} {n m : Nat} (hnm : n ≤ m) (g : Grows h h' n) (g' : Grows h' h'' m) : Grows h h'' n := fun r hr o ho hd =>
  let ⟨o1, h1, d1⟩ := g' r (by omega) o ho hd
  g r hr o1 h1 d1
theorem Stp.trans {α β γ : Al} {h h' : Hp} {n m k : Nat} {w w' w'' : World} (a : Stp α β h n m w w') (g : Grows h h' n) (hn : ∀ r, n ≤ r → r < m → α r = none)
    (hbeyond : ∀ r o, m ≤ r → h' r = some o → h r = some o)
    (b : Stp β γ h' m k w' w'') : Stp α γ h n k w w'' where
  le := a.le.trans b.le
  new r L hr := by
    rcases b.new r L hr with h1 | ⟨h1, h2⟩
    · rcases a.new r L h1 with h3 | ⟨h3, h4⟩
      · exact .inl h3
      · exact .inr ⟨h3, Nat.lt_of_lt_of_le h4 b.nle⟩
    · exact .inr ⟨Nat.le_trans a.nle h1, h2⟩
  os := b.os.trans a.os
  out := b.out.trans a.out
  size := Nat.le_trans a.size b.size
  keep x hx hno := by
    rw [← a.keep x hx hno]
    refine b.keep x (Nat.lt_of_lt_of_le hx a.size) fun r L o hr ho hd hL => ?_
    rcases a.img r L hr with h1 | h1 | ⟨r0, L0, o0, h1, h2, h3, h4⟩
    · rcases Nat.lt_or_ge r n with hlt | hge
      · obtain ⟨o1, ho1, hd1⟩ := g r hlt o ho hd
        exact hno r L o1 h1 ho1 hd1 hL
      · rcases Nat.lt_or_ge r m with hlt | hge'
        · rw [hn r hge hlt] at h1; cases h1
        · exact hno r L o h1 (hbeyond r o hge' ho) hd hL
    · omega
    · exact hno r0 L0 o0 h1 h2 h3 (h4.trans hL)
  img r L hr := by
    rcases b.img r L hr with h1 | h1 | ⟨r0, L0, o0, h1, h2, h3, h4⟩
    · exact a.img r L h1
    · exact .inr (.inl (Nat.le_trans a.size h1))
    · rcases a.img r0 L0 h1 with k1 | k1 | ⟨r1, L1, o1, k1, k2, k3, k4⟩
      · rcases Nat.lt_or_ge r0 n with hlt | hge
        · obtain ⟨o1, ho1, hd1⟩ := g r0 hlt o0 h2 h3
          exact .inr (.inr ⟨r0, L0, o1, k1, ho1, hd1, h4⟩)
        · rcases Nat.lt_or_ge r0 m with hlt | hge'
          · rw [hn r0 hge hlt] at k1; cases k1
          · exact .inr (.inr ⟨r0, L0, o0, k1, hbeyond r0 o0 hge' h2, h3, h4⟩)
      · exact .inr (.inl (h4 ▸ k1))
      · exact .inr (.inr ⟨r1, L1, o1, k1, k2, k3, k4.trans h4⟩)
  nle := Nat.le_trans a.nle b.nle
end Go.Ev
namespace Go.Ev
open Go

structure HGrow (s s' : St) : Prop where
  nle : s.next ≤ s'.next
  grows : Grows s.heap.get s'.heap.get s.next
  beyond : ∀ r, s'.next ≤ r → s'.heap.get r = s.heap.get r
theorem HGrow.refl (s : St) : HGrow s s := ⟨Nat.le_refl _, Grows.refl _ _, fun _ _ => rfl⟩
theorem HGrow.trans {a b c : St} (h : HGrow a b) (k : HGrow b c) : HGrow a c :=
  ⟨Nat.le_trans h.nle k.nle, h.grows.trans h.nle k.grows, fun r hr => (k.beyond r hr).trans (h.beyond r (Nat.le_trans k.nle hr))⟩
theorem Stp.comp {α β γ : Al} {s s1 s2 : St} {w w' w'' : World} (a : Stp α β s.heap.get s.next s1.next w w') (g : HGrow s s1) (hf : Fresh α s.next s1.next)
    (b : Stp β γ s1.heap.get s1.next s2.next w' w'') : Stp α γ s.heap.get s.next s2.next w w'' :=
  a.trans g.grows hf (fun r o hr ho => by rw [← g.beyond r hr]; exact ho) b
theorem Fresh.left {α : Al} {n m k : Nat} (h : Fresh α n k) (hm : m ≤ k) : Fresh α n m := fun r a b => h r a (Nat.lt_of_lt_of_le b hm)
theorem Fresh.right {α β : Al} {hp : Hp} {n m k : Nat} {w w' : World} (h : Fresh α n k) (a : Stp α β hp n m w w') : Fresh β m k := fun r hr hk => by
  cases hb : β r with
  | none => rfl
  | some L =>
    rcases a.new r L hb with h1 | ⟨_, h2⟩
    · rw [h r (Nat.le_trans a.nle hr) hk] at h1; cases h1
    · omega

/-! ### The world, changed at one block. -/
def pushW (w : World) (o : Obj) : World := { w with heap := w.heap.push o }
def setW (w : World) (b : Nat) (o : Obj) : World := { w with heap := w.heap.setIfInBounds b o }
theorem pushW_old (w : World) (o : Obj) {b : Nat} (h : b < w.heap.size) : (pushW w o).heap[b]? = w.heap[b]? := by
  simp [pushW, Array.getElem?_push, Nat.ne_of_lt h]
theorem pushW_new (w : World) (o : Obj) : (pushW w o).heap[w.heap.size]? = some o := by simp [pushW]
theorem setW_ne (w : World) (o : Obj) {b c : Nat} (h : b ≠ c) : (setW w b o).heap[c]? = w.heap[c]? := by simp [setW, Array.getElem?_setIfInBounds_ne h]
theorem setW_same (w : World) (o : Obj) {b : Nat} (h : b < w.heap.size) : (setW w b o).heap[b]? = some o := by simp [setW, h]
theorem setW_size (w : World) (o : Obj) (b : Nat) : (setW w b o).heap.size = w.heap.size := by simp [setW]

def updA (α : Al) (n : Nat) (L : Loc) : Al := fun r => if r = n then some L else α r
theorem AlLe.upd {α : Al} {n : Nat} (L : Loc) (h : α n = none) : AlLe α (updA α n L) := fun r M hr => by
  unfold updA; rw [if_neg]; exact hr; intro e; subst e; rw [h] at hr; cases hr
theorem updA_same (α : Al) (n : Nat) (L : Loc) : updA α n L n = some L := by simp [updA]

/-- something newly made -/
theorem rel_alloc {X : Env} {α : Al} {s : St} {w w' : World} {o : AObj} {obj : Obj} {L : Loc} (hr : Rel X α s.heap.get w) (hn : α s.next = none)
    (hL : L.b = w.heap.size) (hw : w'.heap = w.heap.push obj) (hos : w'.os = w.os) (hout : w'.output = w.output) (ho : ORel X (updA α s.next L) o L w') :
    Rel X (updA α s.next L) (alloc s o).heap.get w' ∧ Stp α (updA α s.next L) s.heap.get s.next (alloc s o).next w w' ∧ HGrow s (alloc s o) := by
  have hget : ∀ r, (alloc s o).heap.get r = if r = s.next then some o else s.heap.get r := fun r => Tr.get_set _ _ _ _
  have hold : ∀ b, b < w.heap.size → w'.heap[b]? = w.heap[b]? := fun b hb => by rw [hw]; simp [Array.getElem?_push, Nat.ne_of_lt hb]
  have hsz : w'.heap.size = w.heap.size + 1 := by rw [hw]; simp
  have hle := AlLe.upd (α := α) L hn
  refine ⟨⟨?_, ?_, ?_⟩, ⟨hle, ?_, hos, hout, by omega, fun b hb _ => hold b hb, ?_, by simp [alloc]⟩, ⟨by simp [alloc], ?_, ?_⟩⟩
  · intro r M p h hp hpd
    rw [hget] at hp
    unfold updA at h
    split at h
    · cases h; omega
    · rename_i e; rw [if_neg e] at hp; have := hr.dom r M p h hp hpd; omega
  · intro r M p hM hp
    rw [hget] at hp
    unfold updA at hM
    split at hM
    · rename_i e; subst e; rw [if_pos rfl] at hp; cases hM; cases hp; exact ho
    · rename_i e; rw [if_neg e] at hp
      by_cases hpd : p = .dead
      · subst hpd; trivial
      · exact (hr.obj r M p hM hp).keep hle (hold _ (hr.dom r M p hM hp hpd))
  · intro r1 r2 L1 L2 o1 o2 hne h1 h2 k1 k2 d1 d2 hb
    rw [hget] at k1 k2
    unfold updA at h1 h2
    split at h1 <;> split at h2
    · omega
    · rename_i e1 e2; cases h1; rw [if_neg e2] at k2; have := hr.dom r2 L2 o2 h2 k2 d2; omega
    · rename_i e1 e2; cases h2; rw [if_neg e1] at k1; have := hr.dom r1 L1 o1 h1 k1 d1; omega
    · rename_i e1 e2; rw [if_neg e1] at k1; rw [if_neg e2] at k2; exact hr.sep r1 r2 L1 L2 o1 o2 hne h1 h2 k1 k2 d1 d2 hb
  · intro r M h
    unfold updA at h
    split at h
    · rename_i e; exact .inr ⟨by omega, by simp [alloc]; omega⟩
    · exact .inl h
  · intro r M h
    unfold updA at h
    split at h
    · cases h; exact .inr (.inl (by omega))
    · exact .inl h
  · intro r hlt o' ho' hd
    rw [hget, if_neg (by omega)] at ho'
    exact ⟨o', ho', hd⟩
  · intro r hle
    rw [hget, if_neg (by simp [alloc] at hle; omega)]

/-- something changed where it lies, alone there -/
theorem rel_put {X : Env} {α : Al} {s s' : St} {w w' : World} {r : Nat} {L : Loc} {o o' : AObj} {obj : Obj} (hr : Rel X α s.heap.get w) (ha : α r = some L)
    (ho : s.heap.get r = some o) (hd : o ≠ .dead) (hsp : spentOf o = false) (hnext : s'.next = s.next) (hr' : s'.heap.get r = some o')
    (hq : ∀ q, q ≠ r → s'.heap.get q = s.heap.get q ∨ (s'.heap.get q = some .dead ∧ q < s.next ∨ s'.heap.get q = some .dead ∧ α q ≠ none) )
    (halone : ∀ q Lq oq, q ≠ r → α q = some Lq → s'.heap.get q = some oq → oq ≠ .dead → Lq.b ≠ L.b)
    (hw : w'.heap = w.heap.setIfInBounds L.b obj) (hos : w'.os = w.os) (hout : w'.output = w.output) (hrel : ORel X α o' L w') (hrn : r < s.next) (hqn : ∀ q, s.next ≤ q → s'.heap.get q = s.heap.get q) :
    Rel X α s'.heap.get w' ∧ Stp α α s.heap.get s.next s'.next w w' ∧ HGrow s s' := by
  have hne : ∀ b, L.b ≠ b → w'.heap[b]? = w.heap[b]? := fun b hb => by rw [hw]; simp [Array.getElem?_setIfInBounds_ne hb]
  have hsz : w'.heap.size = w.heap.size := by rw [hw]; simp
  refine ⟨⟨?_, ?_, ?_⟩, ⟨.refl α, fun _ _ h => .inl h, hos, hout, by omega, fun b hb hno => hne b (hno r L o ha ho ⟨hd, hsp⟩), fun _ _ h => .inl h, by omega⟩, ⟨by omega, ?_, fun q hq' => hqn q (by omega)⟩⟩
  · intro q M p h hp hpd
    rw [hsz]
    by_cases e : q = r
    · subst e; rw [ha] at h; cases h; exact hr.dom q L o ha ho hd
    · rcases hq q e with h1 | h1 | h1
      · rw [h1] at hp; exact hr.dom q M p h hp hpd
      · rw [h1.1] at hp; cases hp; exact absurd rfl hpd
      · rw [h1.1] at hp; cases hp; exact absurd rfl hpd
  · intro q M p hM hp
    by_cases e : q = r
    · subst e; rw [ha] at hM; cases hM; rw [hr'] at hp; cases hp; exact hrel
    · by_cases hpd : p = .dead
      · subst hpd; trivial
      · have hb := halone q M p e hM hp hpd
        rcases hq q e with h1 | h1 | h1
        · rw [h1] at hp; exact (hr.obj q M p hM hp).keep (.refl α) (hne _ (Ne.symm hb))
        · rw [h1.1] at hp; cases hp; exact absurd rfl hpd
        · rw [h1.1] at hp; cases hp; exact absurd rfl hpd
  · intro r1 r2 L1 L2 o1 o2 hne' h1 h2 k1 k2 d1 d2 hb
    by_cases e1 : r1 = r
    · subst e1; rw [ha] at h1; cases h1
      exact absurd hb.symm (halone r2 L2 o2 (Ne.symm hne') h2 k2 d2)
    · by_cases e2 : r2 = r
      · subst e2; rw [ha] at h2; cases h2
        exact absurd hb (halone r1 L1 o1 hne' h1 k1 d1)
      · rcases hq r1 e1 with g1 | g1 | g1
        · rcases hq r2 e2 with g2 | g2 | g2
          · rw [g1] at k1; rw [g2] at k2; exact hr.sep r1 r2 L1 L2 o1 o2 hne' h1 h2 k1 k2 d1 d2 hb
          · rw [g2.1] at k2; cases k2; exact absurd rfl d2
          · rw [g2.1] at k2; cases k2; exact absurd rfl d2
        · rw [g1.1] at k1; cases k1; exact absurd rfl d1
        · rw [g1.1] at k1; cases k1; exact absurd rfl d1
  · intro q hlt p hp hpd
    by_cases e : q = r
    · subst e; exact ⟨o, ho, hd, hsp⟩
    · rcases hq q e with h1 | h1 | h1
      · rw [h1] at hp; exact ⟨p, hp, hpd⟩
      · rw [h1.1] at hp; cases hp; exact absurd rfl hpd.1
      · rw [h1.1] at hp; cases hp; exact absurd rfl hpd.1
end Go.Ev
namespace Go.Ev
open Go

theorem fits_wrap {k : IntKind} {n : Int} (h : fits k n = true) : k.wrap n = n := by
  cases n with
  | ofNat m =>
    have h1 : m ≤ maxN k := Nat.le_of_ble_eq_true h
    cases k <;> simp [maxN] at h1 <;> simp [IntKind.wrap, IntKind.bits, IntKind.signed] <;> omega
  | negSucc m =>
    have h0 : sgn k = true ∧ m ≤ maxN k := by
      unfold fits at h
      cases hs : sgn k
      · rw [hs] at h; cases h
      · rw [hs] at h; exact ⟨rfl, Nat.le_of_ble_eq_true h⟩
    obtain ⟨hs, h1⟩ := h0
    cases k <;> first | (exact absurd hs (by decide)) | (dsimp only [maxN] at h1; rw [Int.negSucc_eq]; generalize hx : (-((m : Int) + 1)) = x; have h2 : x < 0 := (by omega); have h3 : -(m : Int) - 1 = x := (by omega); clear hx h; simp [IntKind.wrap, IntKind.bits, IntKind.signed]; omega)
theorem wrapF_eq (k : IntKind) (n : Int) : wrapF k n = k.wrap n := by
  unfold wrapF
  cases h : fits k n
  · rfl
  · exact (fits_wrap h).symm
theorem eqI_eq (a b : Int) : eqI a b = (a == b) := by
  cases a <;> cases b <;> simp [eqI]
  · rename_i m n; rw [Bool.eq_iff_iff]; simp [Nat.beq_eq]; omega
  · rename_i m n; rw [Bool.eq_iff_iff]; simp [Nat.beq_eq]
theorem ltI_eq (a b : Int) : ltI a b = decide (a < b) := by
  cases a <;> cases b <;> simp only [ltI]
  · rename_i m n; rw [Bool.eq_iff_iff, Nat.ble_eq]; simp; omega
  · rename_i m n; symm; simp; omega
  · rename_i m n; symm; simp; omega
  · rename_i m n; rw [Bool.eq_iff_iff, Nat.ble_eq]; simp; omega
theorem kEq_eq (a b : IntKind) : kEq a b = decide (a = b) := by cases a <;> cases b <;> rfl
theorem nbits_eq (k : IntKind) : nbits k = k.bits := by cases k <;> rfl
noncomputable def mbits (k : IntKind) : Nat := if sgn k then nbits k - 1 else nbits k
theorem maxN_pow (k : IntKind) : maxN k + 1 = 2 ^ mbits k := by cases k <;> rfl
theorem fits_nat {k : IntKind} {m : Nat} (h : m < 2 ^ mbits k) : fits k (.ofNat m) = true := by
  have := maxN_pow k
  exact Nat.ble_eq_true_of_le (by omega)
theorem mbits_le (k : IntKind) : mbits k ≤ k.bits := by cases k <;> decide
theorem ofInt_nat {k : IntKind} {m : Nat} (h : m ≤ maxN k) : (BitVec.ofInt k.bits (.ofNat m)).toNat = m := by
  have h1 := maxN_pow k
  have h2 : m < 2 ^ k.bits := Nat.lt_of_lt_of_le (show m < 2 ^ mbits k by omega) (Nat.pow_le_pow_right (by decide) (mbits_le k))
  simp only [BitVec.toNat_ofNat, Int.ofNat_eq_natCast, BitVec.ofInt_natCast]
  exact Nat.mod_eq_of_lt h2
theorem in2_spec {a b m : Nat} (h : in2 a b m = true) : a ≤ m ∧ b ≤ m := by
  unfold in2 at h
  cases h1 : Nat.ble a m
  · simp [h1] at h
  · rw [h1] at h; exact ⟨Nat.le_of_ble_eq_true h1, Nat.le_of_ble_eq_true h⟩
theorem bitsF_eq (op : BinOp) (x y : Int) (k : IntKind) : bitsF op x y k = bitsS op k x y := by
  have hp := maxN_pow k
  cases op <;> first
    | rfl
    | (cases x <;> cases y <;> first
        | rfl
        | (rename_i a b
           unfold bitsF
           simp only [brec]
           cases h : in2 a b (maxN k)
           · rfl
           · obtain ⟨h1, h2⟩ := in2_spec h
             simp only [bitsS, cond_true]
             simp only [BitVec.toNat_and, BitVec.toNat_or, BitVec.toNat_xor, ofInt_nat h1, ofInt_nat h2]
             refine congrArg some (fits_wrap (fits_nat ?_)).symm
             first
               | exact Nat.lt_of_le_of_lt Nat.and_le_left (by omega)
               | exact Nat.or_lt_two_pow (by omega) (by omega)
               | exact Nat.xor_lt_two_pow (by omega) (by omega)))
theorem shrF_eq (a : Int) (n : Nat) : shrF a n = a.fdiv (2 ^ n) := by
  cases a with
  | ofNat m =>
    show Int.ofNat (Nat.div m (2 ^ n)) = _
    rw [show ((2 : Int) ^ n) = ((2 ^ n : Nat) : Int) by simp]
    rw [Int.ofNat_eq_natCast, Int.fdiv_eq_ediv_of_nonneg _ (Int.natCast_nonneg _)]
    rfl
  | negSucc m => rfl

/-! ### Lists. -/
theorem nth_eq {α : Type} (l : List α) (k : Nat) : nth l k = l[k]? := by
  induction l generalizing k with
  | nil => simp [nth_nil]
  | cons a l ih =>
    rw [nth_cons]
    cases k with
    | zero => rfl
    | succ k => simp only [Nat.add_sub_cancel, List.getElem?_cons_succ]; exact ih k
theorem beqN_eq (l m : List Nat) : beqN l m = (l == m) := by
  induction l generalizing m with
  | nil => cases m <;> rfl
  | cons a l ih =>
    cases m with
    | nil => rfl
    | cons b m =>
      show @Bool.rec (fun _ => Bool) false (beqN l m) (Nat.beq a b) = _
      rw [brec, ih]
      cases h : Nat.beq a b
      · have := ne_of_beq h; simp [this]
      · have := Nat.eq_of_beq_eq_true h; simp [this]
theorem cut_spec {α : Type} {l : List α} {off n : Nat} {r : List α} (h : cut l off n = some r) : off + n ≤ l.length ∧ r = (l.drop off).take n := by
  induction l generalizing off n r with
  | nil =>
    have h' : @Bool.rec (fun _ => Option (List α)) none (@Bool.rec (fun _ => Option (List α)) none (some []) (Nat.beq n 0)) (Nat.beq off 0) = some r := h
    cases h1 : Nat.beq off 0
    · rw [h1] at h'; cases h'
    · rw [h1] at h'
      cases h2 : Nat.beq n 0
      · rw [h2] at h'; cases h'
      · rw [h2] at h'; cases h'
        obtain rfl := Nat.eq_of_beq_eq_true h1
        obtain rfl := Nat.eq_of_beq_eq_true h2
        simp
  | cons a l ih =>
    have h' : @Bool.rec (fun _ => Option (List α)) (cut l (off - 1) n) (@Bool.rec (fun _ => Option (List α)) (consO a (cut l 0 (n - 1))) (some []) (Nat.beq n 0)) (Nat.beq off 0) = some r := h
    cases h1 : Nat.beq off 0
    · rw [h1] at h'
      have := ne_of_beq h1
      obtain ⟨k, rfl⟩ : ∃ k, off = k + 1 := ⟨off - 1, by omega⟩
      obtain ⟨a1, a2⟩ := ih h'
      simp at a1 a2 ⊢
      exact ⟨by omega, a2⟩
    · rw [h1] at h'
      obtain rfl := Nat.eq_of_beq_eq_true h1
      cases h2 : Nat.beq n 0
      · rw [h2] at h'
        have := ne_of_beq h2
        obtain ⟨k, rfl⟩ : ∃ k, n = k + 1 := ⟨n - 1, by omega⟩
        simp only [Nat.add_sub_cancel] at h'
        cases h3 : cut l 0 k with
        | none => rw [h3] at h'; cases h'
        | some r' =>
          rw [h3] at h'
          have e : r = a :: r' := by simpa [consO] using h'.symm
          obtain ⟨a1, a2⟩ := ih h3
          subst e
          simp at a1 a2 ⊢
          exact ⟨by omega, a2⟩
      · rw [h2] at h'; cases h'
        obtain rfl := Nat.eq_of_beq_eq_true h2
        simp
theorem splice_spec {α : Type} {l : List α} {off : Nat} {vs r : List α} (h : splice l off vs = some r) : off + vs.length ≤ l.length ∧ r = l.take off ++ vs ++ l.drop (off + vs.length) := by
  induction l generalizing off vs r with
  | nil =>
    have h' : @Bool.rec (fun _ => Option (List α)) none (@List.rec α (fun _ => Option (List α)) (some []) (fun _ _ _ => none) vs) (Nat.beq off 0) = some r := h
    cases h1 : Nat.beq off 0
    · rw [h1] at h'; cases h'
    · rw [h1] at h'
      obtain rfl := Nat.eq_of_beq_eq_true h1
      cases vs with
      | nil => cases h'; simp
      | cons v vs => cases h'
  | cons a l ih =>
    have h' : @Bool.rec (fun _ => Option (List α)) (consO a (splice l (off - 1) vs)) (@List.rec α (fun _ => α → List α → (Nat → List α → Option (List α)) → Option (List α)) (fun a l _ => some (a :: l)) (fun v vs _ _ _ ih => consO v (ih 0 vs)) vs a l (splice l)) (Nat.beq off 0) = some r := h
    cases h1 : Nat.beq off 0
    · rw [h1] at h'
      have := ne_of_beq h1
      obtain ⟨k, rfl⟩ : ∃ k, off = k + 1 := ⟨off - 1, by omega⟩
      simp only [Nat.add_sub_cancel] at h'
      cases h3 : splice l k vs with
      | none => rw [h3] at h'; cases h'
      | some r' =>
        rw [h3] at h'
        have e : r = a :: r' := by simpa [consO] using h'.symm
        obtain ⟨a1, a2⟩ := ih h3
        subst e
        refine ⟨by simp; omega, ?_⟩
        rw [a2, show k + 1 + vs.length = (k + vs.length) + 1 by omega]
        simp
    · rw [h1] at h'
      obtain rfl := Nat.eq_of_beq_eq_true h1
      cases vs with
      | nil => cases h'; simp
      | cons v vs =>
        have h'' : consO v (splice l 0 vs) = some r := h'
        cases h3 : splice l 0 vs with
        | none => rw [h3] at h''; cases h''
        | some r' =>
          rw [h3] at h''
          have e : r = v :: r' := by simpa [consO] using h''.symm
          obtain ⟨a1, a2⟩ := ih h3
          subst e
          simp at a1 a2 ⊢
          exact ⟨by omega, a2⟩
end Go.Ev
