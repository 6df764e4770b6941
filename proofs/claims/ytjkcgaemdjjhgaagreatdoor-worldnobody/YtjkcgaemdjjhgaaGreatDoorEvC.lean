/-
  Each operation that reads at most does what the evaluator says, where the tables are the program's.
-/
import Derived.Test.YtjkcgaemdjjhgaaGreatDoorEvB
import Derived.Laws.Entries
import Derived.Laws.Cells
import Derived.MapKept
import Derived.Laws.Slices
import Derived.Laws.Strings
import Derived.Great.FillDense
namespace Go.Ev
open Go

/-! ### Are the tables the program's? -/
def isAggD : TypeDesc → Bool
  | .struct _ => true
  | .array _ _ => true
  | _ => false
def sizeIs (P : Program) (t n : Nat) : Prop := ∃ i, P.info? t = some i ∧ i.size = n
def aggIs (P : Program) (t : Nat) (b : Bool) : Prop := ∃ d, P.underlying t = some d ∧ isAggD d = b
def zeroIs (P : Program) (t : Nat) (zv : AVal) : Prop := ∃ i z, P.info? t = some i ∧ i.zero = some z ∧ (∀ α, VRel α zv z) ∧ zv ≠ .bad
def plainD : TypeDesc → Bool
  | .bool => true
  | .int _ => true
  | .string => true
  | _ => false
inductive FieldsOk (P : Program) : List FD → List Field → Prop
  | nil : FieldsOk P [] []
  | cons {fd : FD} {f : Field} {l : List FD} {m : List Field} (ho : f.offset = fd.off) (hs : sizeIs P f.type fd.size) (ha : aggIs P f.type fd.agg) (t : FieldsOk P l m) : FieldsOk P (fd :: l) (f :: m)
def pkIs : PK → TypeDesc → Prop
  | .b, .bool => True
  | .i, .int _ => True
  | .s, .string => True
  | _, _ => False
inductive PKs (P : Program) : List PK → List Field → Nat → Prop
  | nil (n : Nat) : PKs P [] [] n
  | cons {p : PK} {f : Field} {l : List PK} {m : List Field} {n : Nat} (hn : f.name ≠ "_") (ho : f.offset = n) (hd : ∃ d, P.underlying f.type = some d ∧ pkIs p d) (t : PKs P l m (n + 1)) : PKs P (p :: l) (f :: m) n
def PlainFields (P : Program) (t : Nat) (ps : List PK) (fs : List Field) : Prop :=
  P.eqGuardType P.depth t = false ∧ P.stoodInHeld t = false ∧ PKs P ps fs 0
def TDok (P : Program) (t : Nat) : TD → TypeDesc → Prop
  | .bool, .bool => True
  | .int k, .int j => k = j
  | .str, .string => True
  | .ptr e, .pointer e' => e = e'
  | .slice e z b, .slice e' => e = e' ∧ sizeIs P e z ∧ (b = true → P.underlying e = some (.int .u8))
  | .arr n e z a, .array n' e' => n = n' ∧ e = e' ∧ sizeIs P e z ∧ aggIs P e a
  | .map p zv, .map k e => (∀ q, p = some q → ∃ d, P.underlying k = some d ∧ pkIs q d) ∧ zeroIs P e zv
  | .struct fs p, .struct gs => FieldsOk P fs gs.toList ∧ (∀ ps, p = some ps → PlainFields P t ps gs.toList)
  | .func, .func _ _ _ => True
  | .iface, .interface _ => True
  | .uptr, .unsafePointer => True
  | .other, .interface _ => False
  | .other, _ => True
  | _, _ => False
structure TIok (P : Program) (t : Nat) (i : TI) : Prop where
  und : ∃ d, P.underlying t = some d ∧ TDok P t i.d d ∧ isAggD d = i.agg
  size : sizeIs P t i.size
  zero : zeroIs P t i.zv
  cmp : ∀ d, P.underlying t = some d → plainD d = true → ∃ i, P.info? t = some i ∧ i.comparable = true
  zl : i.zv.cells.length = i.size
  small : ∃ j, P.info? t = some j ∧ j.bytes ≤ 1048576
structure EnvOk (P : Program) (X : Env) : Prop where
  ty : ∀ t i, X.ty.get t = some i → TIok P t i
  fn : ∀ g f, X.fn.get g = some f → P.funcs[g]? = some f ∧ f.name ≠ "runtime.NumGoroutine"
  mt : ∀ t name g, mtFind X.mt t name = some g → ∀ v w, (method (P.types.size + Made.depth) t v name).run P w = .ok (g, v) w
  ta : ∀ a t b, taFind X.ta a t = some b → ∃ want info, P.underlying a = some (.interface want) ∧ P.info? t = some info ∧ (Instr.missingMethod want info.methods).isNone = b
  mixed : P.follows .mixedOrders = true

section
variable {P : Program} {w : World}
theorem run_und {t : Nat} {d : TypeDesc} (h : P.underlying t = some d) : (underlying t).run P w = .ok d w := run_underlying h w
theorem run_size {t n : Nat} (h : sizeIs P t n) : (Go.sizeOf t).run P w = .ok n w := by
  obtain ⟨i, h1, h2⟩ := h
  simp [Go.sizeOf, typeInfo, h1, h2]
theorem run_isAggB {t : Nat} {b : Bool} (h : aggIs P t b) : (isAgg t).run P w = .ok b w := by
  obtain ⟨d, h1, h2⟩ := h
  unfold isAgg
  rw [Sem.run_bind, run_und h1]
  subst h2
  cases d <;> rfl
theorem run_zero {t : Nat} {i : TypeInfo} {z : Value} (h : P.info? t = some i) (hz : i.zero = some z) : (zeroValue t).run P w = .ok z w := by
  simp [zeroValue, typeInfo, h, hz]
theorem addr_add (b o n : Nat) : (⟨b, o, none⟩ : Addr).add n = ⟨b, o + n, none⟩ := by
  unfold Addr.add; split
  · rename_i h; subst h; rfl
  · rfl
theorem run_partB {t : Nat} {b : Bool} {n off : Nat} {cs : Array Value} (ha : aggIs P t b) (hs : sizeIs P t n) :
    (part t cs off).run P w = if b then .ok (.agg (cs.extract off (off + n))) w else match cs[off]? with | some v => .ok v w | none => .halt (.stuck "part: no such cell") w := by
  unfold part
  rw [Sem.run_bind, run_isAggB ha]
  cases b
  · simp; cases cs[off]? <;> simp
  · simp [run_size hs]
end

/-! ### Reading the heap. -/
section
variable {P : Program} {X : Env} {α : Al} {h : Tr AObj} {w : World}
theorem cells_rel {r : Nat} {cs : List AVal} {L : Loc} (hr : Rel X α h.get w) (ha : α r = some L) (hc : getCells h r = some cs) {i : Nat} {v : AVal} (hi : cs[i]? = some v) :
    ∃ v', w.cell? ⟨L.b, L.base + i, none⟩ = some v' ∧ VRel α v v' := by
  unfold getCells at hc
  cases ho : h.get r with
  | none => rw [ho] at hc; cases hc
  | some o =>
    rw [ho] at hc
    cases o with
    | cells cs' e lo sp fz anc =>
      cases hc
      obtain ⟨C, e', fr, h1, _, _, h4, _⟩ := hr.obj r L _ ha ho
      obtain ⟨v', h5, h6⟩ := h4 i v hi
      exact ⟨v', by simp [World.cell?, h1, h5], h6⟩
    | _ => cases hc
theorem loadN_run {r off n : Nat} {l : List AVal} {L : Loc} (hr : Rel X α h.get w) (ha : α r = some L) (hl : loadN h r off n = some l) :
    ∃ l', (loadCells ⟨L.b, L.base + off, none⟩ n).run P w = .ok l' w ∧ VRels α l l'.toList := by
  unfold loadN at hl
  cases hc : getCells h r with
  | none => rw [hc] at hl; cases hl
  | some cs =>
    rw [hc] at hl
    obtain ⟨h1, h2⟩ := cut_spec (show cut cs off n = some l from hl)
    have hlen : l.length = n := by rw [h2]; simp; omega
    have hget : ∀ j, j < n → ∃ v', w.cell? ⟨L.b, L.base + (off + j), none⟩ = some v' ∧ VRel α (l.getD j .bad) v' := by
      intro j hj
      have e : cs[off + j]? = some (l.getD j .bad) := by
        have : l[j]? = cs[off + j]? := by rw [h2, List.getElem?_take]; simp [hj]
        rw [← this, List.getD_eq_getElem?_getD, List.getElem?_eq_getElem (by omega)]; rfl
      exact cells_rel hr ha hc e
    refine ⟨((List.range n).map fun j => (w.cell? ⟨L.b, L.base + (off + j), none⟩).getD undef).toArray, ?_, ?_⟩
    · refine run_loadCells w _ n _ fun j hj => ?_
      rw [addr_add]
      obtain ⟨v', h3, _⟩ := hget j hj
      rw [show L.base + off + j = L.base + (off + j) by omega, h3]; rfl
    · refine VRels.of_get (by simp [hlen]) fun i a hi => ?_
      have hin : i < n := by rw [← hlen]; exact (List.getElem?_eq_some_iff.1 hi).1
      obtain ⟨v', h3, h4⟩ := hget i hin
      rw [List.getD_eq_getElem?_getD, hi] at h4
      exact ⟨v', by simp [hin, h3], h4⟩
theorem loadVar_run (hX : EnvOk P X) {t r off : Nat} {v : AVal} {L : Loc} (hr : Rel X α h.get w) (ha : α r = some L) (hl : loadVar X h t r off = some v) :
    ∃ v', (Go.loadVar t ⟨L.b, L.base + off, none⟩).run P w = .ok v' w ∧ VRel α v v' := by
  unfold loadVar at hl
  cases ht : X.ty.get t with
  | none => rw [ht] at hl; cases hl
  | some i =>
    rw [ht] at hl
    obtain ⟨⟨d, hu, _, hag⟩, hs, _, _⟩ := hX.ty t i ht
    have hl' : @Bool.rec (fun _ => Option AVal) (nthO (getCells h r) off) (aggO (loadN h r off i.size)) i.agg = some v := hl
    unfold Go.loadVar
    rw [Sem.run_bind, run_isAggB ⟨d, hu, hag⟩]
    cases hb : i.agg
    · rw [hb] at hl'
      cases hc : getCells h r with
      | none => rw [hc] at hl'; cases hl'
      | some cs =>
        rw [hc] at hl'
        have hn : nth cs off = some v := hl'
        rw [nth_eq] at hn
        obtain ⟨v', h1, h2⟩ := cells_rel hr ha hc hn
        exact ⟨v', by simp [h1], h2⟩
    · rw [hb] at hl'
      cases hn : loadN h r off i.size with
      | none => rw [hn] at hl'; cases hl'
      | some l =>
        rw [hn] at hl'; cases hl'
        obtain ⟨l', h1, h2⟩ := loadN_run (P := P) hr ha hn
        exact ⟨.agg l', by simp [run_size hs, h1], .agg h2⟩
end

/-! ### Equality. -/
theorem eqB_eq (a b : Bool) : eqB a b = (a == b) := by cases a <;> cases b <;> rfl
theorem bytes_eq {s t : ByteArray} {l m : List Nat} (hs : s.data.toList.map (·.toNat) = l) (ht : t.data.toList.map (·.toNat) = m) : (s == t) = (l == m) := by
  subst hs; subst ht
  rw [show (s == t) = (s.data == t.data) by cases s; cases t; rfl, Bool.eq_iff_iff, beq_iff_eq, beq_iff_eq]
  constructor
  · intro e; rw [e]
  · intro e
    have inj : ∀ (a b : List UInt8), a.map (·.toNat) = b.map (·.toNat) → a = b := by
      intro a
      induction a with
      | nil => intro b h; cases b with | nil => rfl | cons => simp at h
      | cons x a ih =>
        intro b h
        cases b with
        | nil => simp at h
        | cons y b =>
          simp only [List.map_cons, List.cons.injEq] at h
          rw [UInt8.toNat_inj.1 h.1, ih b h.2]
    have := inj _ _ e
    exact Array.toList_inj.1 this
section
variable {P : Program} {X : Env} {α : Al} {h : Tr AObj} {w : World}
theorem eqP_run {p : PK} {x y : AVal} {x' y' : Value} {b : Bool} {t : Nat} {d : TypeDesc} (hx : VRel α x x') (hy : VRel α y y') (he : eqP p x y = some b)
    (hu : P.underlying t = some d) (hd : pkIs p d) (n : Nat) : (Op.equalIn (n + 1) t x' y').run P w = .ok b w := by
  unfold Op.equalIn
  rw [Sem.run_bind, run_und hu]
  cases p <;> cases d <;> first | exact hd.elim | skip
  · cases x <;> cases y <;> simp [eqP] at he
    cases hx; cases hy; subst he; simp [eqB_eq]
  · cases x <;> cases y <;> simp only [eqP] at he <;> first | (cases he; done) | skip
    rename_i k j a l c
    cases hx; cases hy
    rw [brec, kEq_eq] at he
    by_cases hk : j = l
    · subst hk; simp at he; subst he; simp [eqI_eq]
    · simp [hk] at he
  · cases x <;> cases y <;> simp only [eqP] at he <;> first | (cases he; done) | skip
    cases hx with
    | str h1 => cases hy with
      | str h2 => cases he; simp [beqN_eq, bytes_eq h1 h2]
theorem sameAddr_same (b o o' : Nat) : (sameAddr ⟨b, o, none⟩ ⟨b, o', none⟩).run P w = .ok (o == o') w := by
  unfold sameAddr
  simp
  rw [Bool.eq_iff_iff]; simp
theorem unlike_run {r q : Nat} {L M : Loc} {o o' : Nat} (hr : Rel X α h.get w) (ha : α r = some L) (hb : α q = some M) (hne : r ≠ q) (hu : unlike h r q = true) :
    (sameAddr ⟨L.b, o, none⟩ ⟨M.b, o', none⟩).run P w = .ok false w := by
  unfold unlike at hu
  split at hu
  · rename_i c1 e1 l1 s1 c2 e2 l2 s2 g1 g2
    have hLM : L.b ≠ M.b := fun e => by
      rcases hr.sep r q L M _ _ hne ha hb g1 g2 (by simp) (by simp) e with h | h <;> simp [ancOf] at h
    obtain ⟨C1, t1, f1, k1, _, _, _, _, z1, _⟩ := hr.obj r L _ ha g1
    obtain ⟨C2, t2, f2, k2, _, _, _, _, z2, _⟩ := hr.obj q M _ hb g2
    have e1 := z1 rfl
    have e2 := z2 rfl
    subst e1; subst e2
    unfold sameAddr
    simp [hLM, World.frozen?, k1, k2, noView, viewAt, World.shape?, mayBeOne, stringish]
  · cases hu
end
end Go.Ev
namespace Go.Ev
open Go
theorem ti_und {P : Program} {X : Env} (hX : EnvOk P X) {t : Nat} {i : TI} (h : X.ty.get t = some i) : ∃ d, P.underlying t = some d ∧ TDok P t i.d d ∧ isAggD d = i.agg := (hX.ty t i h).und
section
variable {P : Program} {X : Env} {α : Al} {h : Tr AObj} {w : World}
theorem eqAll_run (n : Nat) : ∀ {ps : List PK} {fs : List Field} {k : Nat} {xs ys : List AVal} {cx cy : Array Value} {b : Bool}, PKs P ps fs k →
    VRels α xs (cx.toList.drop k) → VRels α ys (cy.toList.drop k) → eqAll ps xs ys = some b →
    (forIn fs ((none, ()) : Option Bool × Unit) fun (f : Field) (_ : Option Bool × Unit) => (
      if f.name ≠ "_" then do
        let p ← part f.type cx f.offset
        let q ← part f.type cy f.offset
        let r ← Op.equalIn (n + 1) f.type p q
        if (!r) = true then pure (ForInStep.done (some false, ())) else pure (ForInStep.yield (none, ()))
      else pure (ForInStep.yield (none, ())) : Sem (ForInStep (Option Bool × Unit)))).run P w = .ok (if b then (none, ()) else (some false, ())) w := by
  intro ps
  induction ps with
  | nil =>
    intro fs k xs ys cx cy b hp hx hy he
    cases hp
    cases xs <;> cases ys <;> simp [eqAll] at he
    subst he; simp
  | cons p ps ih =>
    intro fs k xs ys cx cy b hp hx hy he
    cases hp with
    | cons hn ho hd ht =>
      rename_i f fs
      cases xs <;> cases ys <;> simp only [eqAll] at he <;> first | (cases he; done) | skip
      rename_i x xs y ys
      obtain ⟨d, hu, hd⟩ := hd
      have gx : ∃ x', cx[k]? = some x' ∧ VRel α x x' ∧ VRels α xs (cx.toList.drop (k + 1)) := by
        cases hc : cx.toList.drop k with
        | nil => rw [hc] at hx; cases hx
        | cons v l =>
          rw [hc] at hx
          cases hx with
          | cons h1 h2 =>
            have hk : cx.toList[k]? = some v := by
              have := List.getElem?_drop (xs := cx.toList) (i := k) (j := 0)
              rw [hc] at this; simpa using this.symm
            refine ⟨v, by simpa using hk, h1, ?_⟩
            have : cx.toList.drop (k + 1) = l := by rw [← List.drop_drop, hc]; rfl
            rw [this]; exact h2
      have gy : ∃ y', cy[k]? = some y' ∧ VRel α y y' ∧ VRels α ys (cy.toList.drop (k + 1)) := by
        cases hc : cy.toList.drop k with
        | nil => rw [hc] at hy; cases hy
        | cons v l =>
          rw [hc] at hy
          cases hy with
          | cons h1 h2 =>
            have hk : cy.toList[k]? = some v := by
              have := List.getElem?_drop (xs := cy.toList) (i := k) (j := 0)
              rw [hc] at this; simpa using this.symm
            refine ⟨v, by simpa using hk, h1, ?_⟩
            have : cy.toList.drop (k + 1) = l := by rw [← List.drop_drop, hc]; rfl
            rw [this]; exact h2
      obtain ⟨x', hx1, hx2, hx3⟩ := gx
      obtain ⟨y', hy1, hy2, hy3⟩ := gy
      have hag : aggIs P f.type false := ⟨d, hu, by cases p <;> cases d <;> first | rfl | exact hd.elim⟩
      have part_ok : ∀ (cs : Array Value) v, cs[k]? = some v → (part f.type cs f.offset).run P w = .ok v w := by
        intro cs v hv
        unfold part
        rw [Sem.run_bind, run_isAggB hag, ho]
        simp [hv]
      cases he1 : eqP p x y with
      | none => rw [he1] at he; cases he
      | some b1 =>
        rw [he1] at he
        have hrun := eqP_run (P := P) (w := w) hx2 hy2 he1 hu hd n
        rw [List.forIn_cons]
        simp only [hn, ne_eq, not_false_eq_true, if_true, Sem.run_bind, part_ok cx x' hx1, part_ok cy y' hy1, Result.andThen_ok, hrun]
        cases b1
        · cases he; simp
        · simp only [Bool.not_true, Bool.false_eq_true, if_false, Sem.run_pure, Result.andThen_ok]
          exact ih ht hx3 hy3 he
set_option maxHeartbeats 1000000 in
theorem eqE_run (hX : EnvOk P X) (hr : Rel X α h.get w) {t : Nat} {x y : AVal} {x' y' : Value} {b : Bool} (hx : VRel α x x') (hy : VRel α y y') (he : eqE X h t x y = some b) :
    (Op.equal t x' y').run P w = .ok b w := by
  unfold eqE at he
  cases ht : X.ty.get t with
  | none => rw [ht] at he; cases he
  | some i =>
    rw [ht] at he
    obtain ⟨d, hu, hok, hag⟩ := ti_und hX ht
    obtain ⟨td, sz, zv, ag⟩ := i
    show (Op.equalIn (9998 + 1 + 1) t x' y').run P w = _
    cases td with
    | bool => cases d <;> first | exact hok.elim | exact eqP_run hx hy he hu trivial _
    | int k => cases d <;> first | exact hok.elim | exact eqP_run hx hy he hu trivial _
    | str => cases d <;> first | exact hok.elim | exact eqP_run hx hy he hu trivial _
    | ptr e =>
      cases d <;> first | exact hok.elim | skip
      rename_i e'
      obtain rfl : e = e' := hok
      cases x <;> cases y <;> simp only at he <;> first | (cases he; done) | skip
      · cases hx; cases hy; cases he; unfold Op.equalIn; rw [Sem.run_bind, run_und hu]; simp
      · cases hx; cases hy; cases he; unfold Op.equalIn; rw [Sem.run_bind, run_und hu]; simp
      · cases hx; cases hy; cases he; unfold Op.equalIn; rw [Sem.run_bind, run_und hu]; simp
      · rename_i r o q o'
        cases hx with
        | ptr ha =>
          cases hy with
          | ptr hb =>
            cases hte : X.ty.get e with
            | none => rw [hte] at he; cases he
            | some ie =>
              rw [hte] at he
              simp only [brec] at he
              have hsz := (hX.ty e ie hte).size
              cases hz : Nat.beq ie.size 0
              · rw [hz] at he
                have hne := ne_of_beq hz
                unfold Op.equalIn; rw [Sem.run_bind, run_und hu]
                simp only [Result.andThen_ok, Sem.run_bind, run_size hsz, ne_eq, hne, not_false_eq_true, if_true]
                cases hac : Nat.beq r q
                · rw [hac] at he
                  cases hul : unlike h r q
                  · rw [hul] at he; cases he
                  · rw [hul] at he; cases he
                    exact unlike_run hr ha hb (ne_of_beq hac) hul
                · rw [hac] at he; cases he
                  obtain rfl := Nat.eq_of_beq_eq_true hac
                  rw [ha] at hb; cases hb
                  rw [sameAddr_same]
                  congr 1
                  rw [Bool.eq_iff_iff, beq_iff_eq, Nat.beq_eq]
                  omega
              · rw [hz] at he; cases he
    | iface =>
      cases d <;> first | exact hok.elim | skip
      cases x <;> cases y <;> simp only at he <;> first | (cases he; done) | skip
      · rename_i tx vx ty vy
        cases hx with
        | @iface _ _ xv hx =>
          cases hy with
          | @iface _ _ yv hy =>
            unfold Op.equalIn; rw [Sem.run_bind, run_und hu]
            simp only [brec] at he
            cases hbt : Nat.beq tx ty
            · rw [hbt] at he; cases he
              have := ne_of_beq hbt
              simp [this]
            · rw [hbt] at he
              obtain rfl := Nat.eq_of_beq_eq_true hbt
              cases htx : X.ty.get tx with
              | none => rw [htx] at he; cases he
              | some j =>
                rw [htx] at he
                obtain ⟨dj, huj, hokj, _⟩ := ti_und hX htx
                have hcmp := (hX.ty tx j htx).cmp
                obtain ⟨tdj, _, _, _⟩ := j
                have fin : ∀ p, eqP p vx vy = some b → pkIs p dj → plainD dj = true → ((do
                      let info ← typeInfo tx
                      if !info.comparable then
                        if (← program).holdsPacked (← program).depth tx then unsupported (.noEntry "binop/eql.a type that holds a type that a stand-in pack declares, and that cannot be compared by the pack's declaration")
                        runtimePanic (.error ("comparing uncomparable type " ++ (← typeStr tx)))
                      else Op.equalIn (9998 + 1) tx xv yv) : Sem Bool).run P w = .ok b w := fun p h1 h2 h3 => by
                  obtain ⟨info, hi, hc⟩ := hcmp dj huj h3
                  simp only [Sem.run_bind, typeInfo, run_program, Result.andThen_ok, hi, Sem.run_pure, hc, Bool.not_true, Bool.false_eq_true, if_false]
                  exact eqP_run hx hy h1 huj h2 _
                simp only [Result.andThen_ok, ne_eq, not_true_eq_false, if_false]
                cases tdj <;> simp only at he <;> first | (cases he; done) | skip
                · cases dj <;> first | exact hokj.elim | exact fin _ he trivial rfl
                · cases dj <;> first | exact hokj.elim | exact fin _ he trivial rfl
                · cases dj <;> first | exact hokj.elim | exact fin _ he trivial rfl
      · cases hx; cases hy; cases he; unfold Op.equalIn; rw [Sem.run_bind, run_und hu]; simp
      · cases hx; cases hy; cases he; unfold Op.equalIn; rw [Sem.run_bind, run_und hu]; simp
      · cases hx; cases hy; cases he; unfold Op.equalIn; rw [Sem.run_bind, run_und hu]; simp
    | struct fs pk =>
      cases d <;> first | exact hok.elim | skip
      cases pk with
      | none => cases x <;> cases y <;> simp only at he <;> cases he
      | some ps =>
        cases x <;> cases y <;> simp only at he <;> first | (cases he; done) | skip
        rename_i gs xs ys
        cases hx with
        | agg hx =>
          cases hy with
          | agg hy =>
            obtain ⟨_, hps⟩ := hok
            obtain ⟨_, hst, hpk⟩ := hps ps rfl
            unfold Op.equalIn; rw [Sem.run_bind, run_und hu]
            have := eqAll_run (P := P) (w := w) 9998 hpk (by simpa using hx) (by simpa using hy) he
            simp only [Result.andThen_ok, Sem.run_bind, run_program, hst, Bool.false_eq_true, if_false]
            rw [← Array.forIn_toList]
            erw [this]
            cases b <;> rfl
    | slice e z b =>
      cases d <;> first | exact hok.elim | skip
      cases x <;> first | (cases he; done) | skip
      all_goals (cases y <;> first | (cases he; done) | skip)
      all_goals (cases hx; cases hy; cases he; unfold Op.equalIn; rw [Sem.run_bind, run_und hu]; simp)
    | map k z =>
      cases d <;> first | exact hok.elim | skip
      cases x <;> first | (cases he; done) | skip
      all_goals (cases y <;> first | (cases he; done) | skip)
      all_goals (cases hx; cases hy; cases he; unfold Op.equalIn; rw [Sem.run_bind, run_und hu]; simp)
    | func =>
      cases d <;> first | exact hok.elim | skip
      cases x <;> first | (cases he; done) | skip
      all_goals (cases y <;> first | (cases he; done) | skip)
      all_goals (cases hx; cases hy; cases he; unfold Op.equalIn; rw [Sem.run_bind, run_und hu]; simp)
    | arr _ _ _ _ => cases he
    | uptr => cases he
    | other => cases he
end
end Go.Ev
namespace Go.Ev
open Go
/-- a value's run that leaves the world alone -/
def Gives (P : Program) (α : Al) (w : World) (s : Sem Value) (v : AVal) : Prop := ∃ v', s.run P w = .ok v' w ∧ VRel α v v'
section
variable {P : Program} {X : Env} {α : Al} {h : Tr AObj} {w : World}
theorem Gives.pure {v : AVal} {v' : Value} (hv : VRel α v v') : Gives P α w (Pure.pure v') v := ⟨v', rfl, hv⟩
theorem bitsS_run {op : BinOp} {k : IntKind} {a b n : Int} (h : bitsS op k a b = some n) : (Op.intBits op k a b).run P w = .ok (.int k n) w := by
  cases op <;> simp only [bitsS] at h <;> cases h <;> rfl
theorem intE_run {op : BinOp} {k : IntKind} {a b : Int} {v : AVal} (t : Nat) (he : intE op k a b = some v) (hsh : isSh op = false) :
    Gives P α w (binOp op t (.int k a) (.int k b)) v := by
  cases op <;> simp only [intE, isSh] at he hsh <;> first | (cases hsh; done) | (cases he; done) | skip
  case add => cases he; exact ⟨_, by first | (simp [binOp, Op.intArith]; done) | (simp [binOp, Op.intArith]; rfl), by rw [wrapF_eq]; exact .int _ _⟩
  case sub => cases he; exact ⟨_, by first | (simp [binOp, Op.intArith]; done) | (simp [binOp, Op.intArith]; rfl), by rw [wrapF_eq]; exact .int _ _⟩
  case mul => cases he; exact ⟨_, by first | (simp [binOp, Op.intArith]; done) | (simp [binOp, Op.intArith]; rfl), by rw [wrapF_eq]; exact .int _ _⟩
  case quo =>
    rw [brec, eqI_eq] at he
    by_cases hb : b = 0
    · rw [show (b == 0) = true by simpa using hb] at he; cases he
    · rw [show (b == 0) = false by simpa using hb] at he; cases he
      exact ⟨_, by first | (simp [binOp, Op.intDiv, hb]; done) | (simp [binOp, Op.intDiv, hb]; rfl), by rw [wrapF_eq]; exact .int _ _⟩
  case rem =>
    rw [brec, eqI_eq] at he
    by_cases hb : b = 0
    · rw [show (b == 0) = true by simpa using hb] at he; cases he
    · rw [show (b == 0) = false by simpa using hb] at he; cases he
      exact ⟨_, by first | (simp [binOp, Op.intDiv, hb]; done) | (simp [binOp, Op.intDiv, hb]; rfl), .int _ _⟩
  case and => rw [bitsF_eq] at he; cases hb : bitsS .and k a b with
    | none => rw [hb] at he; cases he
    | some n => rw [hb] at he; cases he; exact ⟨_, by first | (simp [binOp, bitsS_run hb]; done) | (simp [binOp, bitsS_run hb]; rfl), .int _ _⟩
  case or => rw [bitsF_eq] at he; cases hb : bitsS .or k a b with
    | none => rw [hb] at he; cases he
    | some n => rw [hb] at he; cases he; exact ⟨_, by first | (simp [binOp, bitsS_run hb]; done) | (simp [binOp, bitsS_run hb]; rfl), .int _ _⟩
  case xor => rw [bitsF_eq] at he; cases hb : bitsS .xor k a b with
    | none => rw [hb] at he; cases he
    | some n => rw [hb] at he; cases he; exact ⟨_, by first | (simp [binOp, bitsS_run hb]; done) | (simp [binOp, bitsS_run hb]; rfl), .int _ _⟩
  case andNot => rw [bitsF_eq] at he; cases hb : bitsS .andNot k a b with
    | none => rw [hb] at he; cases he
    | some n => rw [hb] at he; cases he; exact ⟨_, by first | (simp [binOp, bitsS_run hb]; done) | (simp [binOp, bitsS_run hb]; rfl), .int _ _⟩
  case eql => cases he; exact ⟨_, by first | (simp [binOp, Op.intCmp]; done) | (simp [binOp, Op.intCmp]; rfl), by rw [eqI_eq]; exact .bool _⟩
  case neq => cases he; exact ⟨_, by first | (simp [binOp, Op.intCmp]; done) | (simp [binOp, Op.intCmp]; rfl), by rw [eqI_eq]; exact .bool _⟩
  case lss => cases he; exact ⟨_, by first | (simp [binOp, Op.intCmp]; done) | (simp [binOp, Op.intCmp]; rfl), by rw [ltI_eq]; exact .bool _⟩
  case gtr => cases he; exact ⟨_, by first | (simp [binOp, Op.intCmp]; done) | (simp [binOp, Op.intCmp]; rfl), by rw [ltI_eq]; exact .bool _⟩
  case leq => cases he; exact ⟨_, by first | (simp [binOp, Op.intCmp]; done) | (simp [binOp, Op.intCmp]; rfl), by rw [ltI_eq, show (!decide (b < a)) = decide (a ≤ b) by rw [Bool.eq_iff_iff]; simp]; exact .bool _⟩
  case geq => cases he; exact ⟨_, by first | (simp [binOp, Op.intCmp]; done) | (simp [binOp, Op.intCmp]; rfl), by rw [ltI_eq, show (!decide (a < b)) = decide (a ≥ b) by rw [Bool.eq_iff_iff]; simp]; exact .bool _⟩
theorem shE_run {op : BinOp} {k j : IntKind} {a b : Int} {v : AVal} (t : Nat) (he : shE op k a b = some v) : Gives P α w (binOp op t (.int k a) (.int j b)) v := by
  cases op <;> simp only [shE] at he <;> first | (cases he; done) | skip
  case shl =>
    rw [brec, ltI_eq] at he
    by_cases hb : b < 0
    · simp [hb] at he
    · simp only [hb, decide_false, cond_false, Option.some.injEq] at he; subst he
      refine ⟨_, by first | (simp [binOp, Op.shift, hb]; done) | (simp [binOp, Op.shift, hb]; rfl), ?_⟩
      rw [show shlF k a (min b.toNat (nbits k)) = k.wrap (a * 2 ^ min b.toNat k.bits) by
        unfold shlF; rw [wrapF_eq, nbits_eq]; congr 1]
      exact .int _ _
  case shr =>
    rw [brec, ltI_eq] at he
    by_cases hb : b < 0
    · simp [hb] at he
    · simp only [hb, decide_false, cond_false, Option.some.injEq] at he; subst he
      refine ⟨_, by first | (simp [binOp, Op.shift, hb]; done) | (simp [binOp, Op.shift, hb]; rfl), ?_⟩
      rw [shrF_eq, nbits_eq]
      exact .int _ _
theorem toList_rel {l : List Nat} {s : ByteArray} (h : s.data.toList.map (·.toNat) = l) : s.size = l.length := by
  subst h; simp
  try rfl
theorem ba_toList (s : ByteArray) : s.toList = s.data.toList := by
  exact ByteArray.toList_eq s
theorem lessS_eq (a b : List UInt8) : lessS (a.map (·.toNat)) (b.map (·.toNat)) = Op.bytesLess a b := by
  induction a generalizing b with
  | nil => cases b <;> rfl
  | cons x a ih =>
    cases b with
    | nil => rfl
    | cons y b =>
      simp only [List.map_cons, lessS, Op.bytesLess, brec, ih]
      by_cases hlt : x < y
      · have : Nat.ble (x.toNat + 1) y.toNat = true := Nat.ble_eq_true_of_le (by have := UInt8.lt_iff_toNat_lt.1 hlt; omega)
        simp [this, hlt]
      · have h1 : ¬ x.toNat < y.toNat := fun hh => hlt (UInt8.lt_iff_toNat_lt.2 hh)
        have : Nat.ble (x.toNat + 1) y.toNat = false := by
          cases hb : Nat.ble (x.toNat + 1) y.toNat
          · rfl
          · have := Nat.le_of_ble_eq_true hb; omega
        rw [this]
        simp only [cond_false, hlt, decide_false, Bool.false_or]
        by_cases he : x = y
        · subst he; simp
        · have h2 : Nat.beq x.toNat y.toNat = false := beq_false fun hh => he (UInt8.toNat_inj.1 hh)
          simp [h2, he]
theorem strE_run {op : BinOp} {a b : List Nat} {s u : ByteArray} {v : AVal} (t : Nat) (ha : s.data.toList.map (·.toNat) = a) (hb : u.data.toList.map (·.toNat) = b) (he : strE op a b = some v) :
    Gives P α w (binOp op t (.string s) (.string u)) v := by
  have heq : (s.toList == u.toList) = (a == b) := by
    rw [ba_toList, ba_toList]
    have := bytes_eq ha hb
    rw [← this, show (s == u) = (s.data == u.data) by cases s; cases u; rfl, Bool.eq_iff_iff, beq_iff_eq, beq_iff_eq, Array.toList_inj]
  have hlt : Op.bytesLess s.toList u.toList = lessS a b := by rw [ba_toList, ba_toList, ← ha, ← hb, lessS_eq]
  cases op <;> simp only [strE] at he <;> first | (cases he; done) | skip
  case add =>
    rw [brec] at he
    cases hb2 : Nat.ble (len a + len b) 9223372036854775807
    · rw [hb2] at he; cases he
    · rw [hb2] at he; cases he
      have hle := Nat.le_of_ble_eq_true hb2
      rw [len_eq, len_eq, ← toList_rel ha, ← toList_rel hb] at hle
      have : ¬ (((s.size + u.size : Nat) : Int) > IntKind.i64.max) := by
        have e : IntKind.i64.max = 9223372036854775807 := by decide
        rw [e]; omega
      refine ⟨.string (s ++ u), by simp only [binOp, Op.stringOp, this, if_false, Sem.run_pure], .str ?_⟩
      rw [← ha, ← hb, ← List.map_append]
      first | rfl | (congr 1; simp)
  case eql => cases he; exact ⟨_, by simp only [binOp, Op.stringOp, heq]; rfl, by rw [beqN_eq]; exact .bool _⟩
  case neq => cases he; exact ⟨_, by simp only [binOp, Op.stringOp, heq]; rfl, by rw [beqN_eq]; exact .bool _⟩
  case lss => cases he; exact ⟨_, by simp only [binOp, Op.stringOp, hlt]; rfl, .bool _⟩
  case geq => cases he; exact ⟨_, by simp only [binOp, Op.stringOp, hlt]; rfl, .bool _⟩
  case leq => cases he; exact ⟨_, by simp only [binOp, Op.stringOp, hlt, heq]; rfl, by rw [beqN_eq]; exact .bool _⟩
  case gtr => cases he; exact ⟨_, by simp only [binOp, Op.stringOp, hlt, heq]; rfl, by rw [beqN_eq]; exact .bool _⟩
theorem isStrA_some {y : AVal} {m : List Nat} (h : isStrA y = some m) : y = .str m := by cases y <;> first | (cases h; done) | (cases h; rfl)
theorem binInt_some {y : AVal} {k : IntKind} {a : Int} {op : BinOp} {v : AVal} (h : binInt y k a op = some v) :
    ∃ j b, y = .int j b ∧ (if isSh op = true then shE op k a b = some v else k = j ∧ intE op k a b = some v) := by
  cases y <;> first | (cases h; done) | skip
  rename_i j b
  refine ⟨j, b, rfl, ?_⟩
  have h' : @Bool.rec (fun _ => Option AVal) (@Bool.rec (fun _ => Option AVal) none (intE op k a b) (kEq k j)) (shE op k a b) (isSh op) = some v := h
  rw [brec, brec, kEq_eq] at h'
  cases hs : isSh op
  · rw [hs] at h'
    by_cases hk : k = j
    · simp [hk] at h' ⊢; exact h'
    · simp [hk] at h'
  · rw [hs] at h'; simpa using h'
def litO : Operand → Bool
  | .const _ => true
  | _ => false
theorem eqGuard_plain {op : BinOp} {t : Nat} {ox oy : Operand} {a b : Value} (h1 : ¬ (a = .nilIface ∧ b = .nilIface)) (h2 : ∀ c d, ¬ (a = .agg c ∧ b = .agg d)) :
    (eqGuard op t ox oy a b).run P w = .ok () w := by
  unfold eqGuard
  cases op <;> first | rfl | skip
  all_goals
    simp only [Bool.not_true, Bool.false_eq_true, if_false]
    split
    · exact absurd ⟨rfl, rfl⟩ h1
    · exact absurd ⟨rfl, rfl⟩ (h2 _ _)
    · rfl
theorem eqE_bad (t : Nat) (x : AVal) : eqE X h t x .bad = none := by
  unfold eqE
  cases X.ty.get t with
  | none => rfl
  | some i =>
    obtain ⟨td, _, _, _⟩ := i
    cases td with
    | struct fs pk => cases pk <;> cases x <;> rfl
    | bool => cases x <;> rfl
    | int k => cases x <;> rfl
    | str => cases x <;> rfl
    | _ => cases x <;> rfl
theorem eqE_bad' (t : Nat) (x : AVal) : eqE X h t .bad x = none := by
  unfold eqE
  cases X.ty.get t with
  | none => rfl
  | some i =>
    obtain ⟨td, _, _, _⟩ := i
    cases td with
    | struct fs pk => cases pk <;> rfl
    | _ => rfl
theorem cmp_none {op : BinOp} {v : AVal} (h : cmpE op none = some v) : False := by cases op <;> cases h
theorem eqGuard_nil {op : BinOp} {t : Nat} {ox oy : Operand} (hl : (isLit ox || isLit oy) = true) : (eqGuard op t ox oy .nilIface .nilIface).run P w = .ok () w := by
  cases ox <;> cases oy <;> first | (cases hl; done) | (cases op <;> rfl)
theorem eqE_agg (hX : EnvOk P X) {t : Nat} {l m : List AVal} {b : Bool} (he : eqE X h t (.agg l) (.agg m) = some b) : P.eqGuardType P.depth t = false := by
  unfold eqE at he
  cases ht : X.ty.get t with
  | none => rw [ht] at he; cases he
  | some i =>
    rw [ht] at he
    obtain ⟨d, hu, hok, hag⟩ := ti_und hX ht
    obtain ⟨td, sz, zv, ag⟩ := i
    cases td with
    | struct fs pk =>
      cases pk with
      | none => cases he
      | some ps => cases d <;> first | exact hok.elim | exact (hok.2 ps rfl).1
    | bool => cases he
    | int k => cases he
    | str => cases he
    | _ => cases he
theorem binK_run (hX : EnvOk P X) (hr : Rel X α h.get w) {x y : AVal} {x' y' : Value} {op : BinOp} {t : Nat} {ox oy : Operand} {v : AVal} (hx : VRel α x x') (hy : VRel α y y')
    (he : binK x y op X h t ox oy = some v) : Gives P α w (do eqGuard op t ox oy x' y'; binOp op t x' y') v := by
  have gen : ∀ (c : cmpE op (eqE X h t x y) = some v) (hg : (eqGuard op t ox oy x' y').run P w = .ok () w)
      (hq : ∀ t, binOp .eql t x' y' = (do pure (.bool (← Op.equal t x' y'))) ∧ binOp .neq t x' y' = (do pure (.bool (!(← Op.equal t x' y'))))),
      Gives P α w (do eqGuard op t ox oy x' y'; binOp op t x' y') v := by
    intro c hg hq
    cases hb : eqE X h t x y with
    | none => rw [hb] at c; cases op <;> cases c
    | some b =>
      rw [hb] at c
      have hrun := eqE_run hX hr hx hy hb
      cases op <;> first | (cases c; done) | skip
      · cases c; exact ⟨.bool b, by rw [Sem.run_bind, hg, Result.andThen_ok, (hq t).1]; simp [hrun], .bool b⟩
      · cases c; exact ⟨.bool (!b), by rw [Sem.run_bind, hg, Result.andThen_ok, (hq t).2]; simp [hrun], .bool _⟩
  have pg : ∀ {s : Sem Value}, (eqGuard op t ox oy x' y').run P w = .ok () w → Gives P α w s v → Gives P α w (do eqGuard op t ox oy x' y'; s) v := by
    intro s hg ⟨v', h1, h2⟩
    exact ⟨v', by rw [Sem.run_bind, hg, Result.andThen_ok, h1], h2⟩
  cases x
  case int k a =>
    cases hx
    obtain ⟨j, b, rfl, hif⟩ := binInt_some he
    cases hy
    refine pg (eqGuard_plain (by simp) (by simp)) ?_
    cases hs : isSh op
    · simp [hs] at hif; obtain ⟨rfl, h2⟩ := hif; exact intE_run t h2 hs
    · simp [hs] at hif; exact shE_run t hif
  case str a =>
    cases hx with
    | str ha =>
      have he' : binStr a op (isStrA y) = some v := he
      cases hs : isStrA y with
      | none => rw [hs] at he'; cases he'
      | some m =>
        rw [hs] at he'
        obtain rfl := isStrA_some hs
        cases hy with
        | str hb => exact pg (eqGuard_plain (by simp) (by simp)) (strE_run t ha hb he')
  case inil =>
    have he' : binG .inil y op X h t ox oy = some v := he
    by_cases hyn : y = .inil
    · subst hyn
      have he'' : @Bool.rec (fun _ => Option AVal) none (cmpE op (eqE X h t .inil .inil)) (isLit ox || isLit oy) = some v := he'
      rw [brec] at he''
      cases hl : (isLit ox || isLit oy)
      · rw [hl] at he''; cases he''
      · rw [hl] at he''
        cases hx; cases hy
        refine gen he'' ?_ (fun t => ⟨rfl, rfl⟩)
        exact eqGuard_nil hl
    · have c : cmpE op (eqE X h t .inil y) = some v := by
        cases y <;> first | exact absurd rfl hyn | exact he'
      cases hx
      refine gen c (eqGuard_plain (fun ⟨_, hb⟩ => ?_) (by simp)) (fun t => ⟨rfl, rfl⟩)
      subst hb
      cases hy with
      | inil => exact hyn rfl
      | bad => rw [eqE_bad] at c; exact (cmp_none c).elim
  case agg l =>
    have c : cmpE op (eqE X h t (.agg l) y) = some v := he
    cases hx with
    | agg hx =>
      refine gen c ?_ (fun t => ⟨rfl, rfl⟩)
      by_cases hag : ∃ d, y' = .agg d
      · obtain ⟨d, rfl⟩ := hag
        cases hy with
        | agg hy =>
          rename_i m
          cases hb : eqE X h t (.agg l) (.agg m) with
          | none => rw [hb] at c; cases op <;> cases c
          | some b =>
            have := eqE_agg hX hb
            unfold eqGuard
            cases op <;> first | rfl | (simp only [Bool.not_true, Bool.false_eq_true, if_false, Sem.run_bind, run_program, Result.andThen_ok, this, Bool.not_false, if_true]; rfl)
        | bad => rw [eqE_bad] at c; exact (cmp_none c).elim
      · exact eqGuard_plain (by simp) (fun c d ⟨_, h2⟩ => hag ⟨d, h2⟩)
  case bad => have c : cmpE op (eqE X h t .bad y) = some v := he; rw [eqE_bad'] at c; exact (cmp_none c).elim
  all_goals
    (have c : cmpE op (eqE X h t _ y) = some v := he
     cases hx; exact gen c (eqGuard_plain (by simp) (by simp)) (fun t => ⟨rfl, rfl⟩))
end
end Go.Ev
namespace Go.Ev
open Go
section
variable {P : Program} {X : Env} {α : Al} {h : Tr AObj} {w : World}
theorem unE_run {op : UnOp} {x v : AVal} {x' : Value} (hx : VRel α x x') (he : unE op x = some v) : Gives P α w (Op.unary op x') v := by
  cases op <;> cases x <;> simp only [unE] at he <;> first | (cases he; done) | skip
  · cases hx; cases he; exact ⟨_, by first | (simp [Op.unary, Op.intArith]; done) | (simp [Op.unary, Op.intArith]; rfl), by rw [wrapF_eq, show Int.sub 0 _ = (0 - _ : Int) from rfl]; simp; exact .int _ _⟩
  · cases hx
    rename_i k n
    rw [bitsF_eq] at he
    cases hb : bitsS .xor k (if k.signed = true then -1 else k.max) n with
    | none => rw [hb] at he; cases he
    | some m => rw [hb] at he; cases he; exact ⟨_, by simp only [Op.unary]; exact bitsS_run hb, .int _ _⟩
  · cases hx; cases he; exact ⟨_, rfl, .bool _⟩
theorem bytesOf_spec : ∀ {l : List AVal} {b : List Nat} {m : List Value}, bytesOf l = some b → VRels α l m → m = b.map (fun n => .int .u8 (.ofNat n)) ∧ ∀ n ∈ b, n < 256 := by
  intro l
  induction l with
  | nil => intro b m hb hl; cases hb; cases hl; exact ⟨rfl, by simp⟩
  | cons x l ih =>
    intro b m hb hl
    cases hl with
    | cons hv ht =>
      cases x <;> first | (cases hb; done) | skip
      rename_i k n
      cases k <;> first | (cases hb; done) | skip
      cases n with
      | negSucc n => cases hb
      | ofNat n =>
        simp only [bytesOf, brec] at hb
        cases hn : Nat.ble n 255
        · rw [hn] at hb; cases hb
        · rw [hn] at hb
          cases hr : bytesOf l with
          | none => rw [hr] at hb; cases hb
          | some r =>
            rw [hr] at hb; cases hb
            obtain ⟨h1, h2⟩ := ih hr ht
            cases hv
            have := Nat.le_of_ble_eq_true hn
            exact ⟨by simp [h1], by intro y hy; cases hy with | head => omega | tail _ hy => exact h2 y hy⟩
theorem bytesToString_run {l' : Array Value} {b : List Nat} {a : Addr} {n c : Nat} (hl : (loadCells a n).run P w = .ok l' w) (he : l'.toList = b.map (fun n => .int .u8 (.ofNat n))) (hb : ∀ n ∈ b, n < 256) :
    ∃ s : ByteArray, (Conv.bytesToString (.slice (some a) n c)).run P w = .ok (.string s) w ∧ s.data.toList.map (·.toNat) = b := by
  have key : ∀ (b : List Nat) (s : ByteArray), (∀ n ∈ b, n < 256) →
      (forIn (b.map (fun n => Value.int .u8 (.ofNat n))) s fun c (s : ByteArray) => (do
        let .int .u8 n := c | stuck "bytesToString: byte expected"
        pure (ForInStep.yield (s.push (UInt8.ofNat n.toNat))) : Sem (ForInStep ByteArray))).run P w = .ok ⟨s.data ++ (b.map UInt8.ofNat).toArray⟩ w := by
    intro b
    induction b with
    | nil => intro s _; simp
    | cons x b ih =>
      intro s hb
      simp only [List.map_cons, List.forIn_cons, Sem.run_bind, Sem.run_pure, Result.andThen_ok]
      rw [ih _ (fun n hn => hb n (.tail _ hn))]
      congr 1
      simp
  refine ⟨⟨(b.map UInt8.ofNat).toArray⟩, ?_, ?_⟩
  · unfold Conv.bytesToString
    simp only [Sem.run_bind, hl, Result.andThen_ok]
    have := key b .empty hb
    rw [← he] at this
    rw [← Array.forIn_toList]
    erw [this]
    simp
  · simp only [List.map_map]
    conv => rhs; rw [← List.map_id b]
    exact List.map_congr_left fun n hn => by simp [Nat.mod_eq_of_lt (hb n hn)]
theorem convE_run (hX : EnvOk P X) (hr : Rel X α h.get w) {s t : Nat} {x v : AVal} {x' : Value} (hx : VRel α x x') (he : convE X h s t x = some v) : Gives P α w (convert s t x') v := by
  unfold convE at he
  cases hs : X.ty.get s with
  | none => rw [hs] at he; cases he
  | some i =>
    cases ht : X.ty.get t with
    | none => rw [hs, ht] at he; cases he
    | some j =>
      rw [hs, ht] at he
      obtain ⟨d1, hu1, hok1, hg1⟩ := ti_und hX hs
      obtain ⟨d2, hu2, hok2, hg2⟩ := ti_und hX ht
      obtain ⟨td1, _, _, _⟩ := i
      obtain ⟨td2, _, _, _⟩ := j
      cases td1 <;> first | (cases he; done) | skip
      case int k =>
        cases td2 <;> first | (cases he; done) | skip
        cases x <;> first | (cases he; done) | skip
        cases he
        cases d1 <;> first | exact hok1.elim | skip
        cases d2 <;> first | exact hok2.elim | skip
        cases hx
        obtain rfl := hok2
        exact ⟨_, by simp only [convert, Sem.run_bind, run_und hu1, run_und hu2, Result.andThen_ok]; rfl, by rw [wrapF_eq]; exact .int _ _⟩
      case str =>
        cases td2 <;> first | (cases he; done) | skip
        cases x <;> first | (cases he; done) | skip
        cases he
        cases d1 <;> first | exact hok1.elim | skip
        cases d2 <;> first | exact hok2.elim | skip
        cases hx with
        | str hx => exact ⟨_, by simp only [convert, Sem.run_bind, run_und hu1, run_und hu2, Result.andThen_ok]; rfl, .str hx⟩
      case slice e z bb =>
        cases bb <;> first | (cases he; done) | skip
        cases td2 <;> first | (cases he; done) | skip
        cases d1 <;> first | exact hok1.elim | skip
        cases d2 <;> first | exact hok2.elim | skip
        have hok1' : e = _ ∧ sizeIs P e z ∧ (true = true → P.underlying e = some (.int .u8)) := hok1
        obtain ⟨rfl, _, hb⟩ := hok1'
        have hu3 := hb rfl
        cases x <;> first | (cases he; done) | skip
        · cases he; cases hx
          exact ⟨_, by simp only [convert, Sem.run_bind, run_und hu1, run_und hu2, run_und hu3, Result.andThen_ok, Conv.bytesToString]; rfl, .str rfl⟩
        · rename_i r off n cap ex
          cases hx with
          | @sl _ _ _ _ cap' _ L a ha hx hc hn haa hrr =>
            simp only at he
            cases hl : loadN h r off n with
            | none => simp only [hl] at he; cases he
            | some l =>
              simp only [hl] at he
              cases hb : bytesOf l with
              | none => simp only [hb] at he; cases he
              | some b =>
                simp only [hb] at he; cases he
                obtain ⟨l', h1, h2⟩ := loadN_run (P := P) hr ha hl
                obtain ⟨h3, h4⟩ := bytesOf_spec hb h2
                by_cases hz : cap' = 0
                · have hn0 : n = 0 := by omega
                  subst hn0
                  have hl0 : l = [] := by
                    unfold loadN at hl
                    cases hc : getCells h r with
                    | none => rw [hc] at hl; cases hl
                    | some cs => rw [hc] at hl; obtain ⟨_, e⟩ := cut_spec (show cut cs off 0 = some l from hl); simpa using e
                  subst hl0; cases hb
                  refine ⟨.string .empty, ?_, .str rfl⟩
                  simp only [convert, Sem.run_bind, run_und hu1, run_und hu2, run_und hu3, Result.andThen_ok, Conv.bytesToString, loadCells, loadCellsFrom, Sem.run_pure]
                  rfl
                · obtain rfl := haa hz
                  obtain ⟨s, h5, h6⟩ := bytesToString_run (c := cap') h1 h3 h4
                  exact ⟨.string s, by simp only [convert, Sem.run_bind, run_und hu1, run_und hu2, run_und hu3, Result.andThen_ok]; exact h5, .str h6⟩
end
end Go.Ev
namespace Go.Ev
open Go
section
variable {P : Program} {X : Env} {α : Al} {h : Tr AObj} {w : World}
theorem natOf_spec {x : AVal} {n : Nat} {x' : Value} (h : natOf x = some n) (hx : VRel α x x') : ∃ k, x' = .int k (n : Int) := by
  cases x <;> first | (cases h; done) | skip
  rename_i k m
  cases m <;> first | (cases h; done) | skip
  cases h; cases hx
  exact ⟨k, rfl⟩
def ORl (α : Al) : Option AVal → Option Value → Prop
  | none, none => True
  | some a, some v => VRel α a v
  | _, _ => False
theorem bound_run {x' : Option Value} {x : Option AVal} {d l y : Nat} {code : BoundsCode} (hx : ORl α x x') (h : natOr d x = some l) (hle : x ≠ none → l ≤ y) :
    (match x' with | some v => Instr.sliceBound v y code | none => (pure d : Sem Nat)).run P w = .ok l w := by
  cases x with
  | none => cases x' with
    | none => cases h; rfl
    | some v => exact hx.elim
  | some a =>
    cases x' with
    | none => exact hx.elim
    | some v =>
      obtain ⟨k, rfl⟩ := natOf_spec h hx
      have := hle (by simp)
      simp only [Instr.sliceBound, asIntOf, Sem.run_bind, Sem.run_pure, Result.andThen_ok]
      rw [if_pos (by omega)]
      simp
theorem bounds_run {lo hi mx : Option AVal} {lo' hi' mx' : Option Value} {isS : Bool} {n c l hh m : Nat} (h1 : ORl α lo lo') (h2 : ORl α hi hi') (h3 : ORl α mx mx')
    (e1 : natOr 0 lo = some l) (e2 : natOr n hi = some hh) (e3 : natOr c mx = some m) (hm : m ≤ c) (hh2 : hh ≤ m) (hl : l ≤ hh) (hnone : hi = none → mx = none) :
    (Instr.sliceBounds isS n c lo' hi' mx').run P w = .ok (l, hh, m) w := by
  unfold Instr.sliceBounds
  have r1 := bound_run (P := P) (w := w) (y := c) (code := if isS = true then .slice3Acap else .slice3Alen) h3 e3 (fun _ => hm)
  cases mx with
  | none =>
    cases mx' with
    | some v => exact h3.elim
    | none =>
      cases e3
      cases hi with
      | none =>
        cases hi' with
        | some v => exact h2.elim
        | none =>
          cases e2
          have r3 := bound_run (P := P) (w := w) (y := n) (code := .sliceB) h1 e1 (fun _ => hl)
          cases lo' with
          | none => simp at r3 ⊢; exact r3
          | some v => simp at r3 ⊢; simp [r3]
      | some a =>
        cases hi' with
        | none => exact h2.elim
        | some v =>
          have r2 := bound_run (P := P) (w := w) (y := c) (code := if isS = true then .sliceAcap else .sliceAlen) h2 e2 (fun _ => hh2)
          have r3 := bound_run (P := P) (w := w) (y := hh) (code := .sliceB) h1 e1 (fun _ => hl)
          cases lo' with
          | none => simp at r2 r3 ⊢; simp [r2, r3]
          | some v => simp at r2 r3 ⊢; simp [r2, r3]
  | some a =>
    cases mx' with
    | none => exact h3.elim
    | some v3 =>
      cases hi with
      | none => exact absurd (hnone rfl) (by simp)
      | some b =>
        cases hi' with
        | none => exact h2.elim
        | some v =>
          have r2 := bound_run (P := P) (w := w) (y := m) (code := .slice3B) h2 e2 (fun _ => hh2)
          have r3 := bound_run (P := P) (w := w) (y := hh) (code := .slice3C) h1 e1 (fun _ => hl)
          cases lo' with
          | none => simp at r1 r2 r3 ⊢; simp [r1, r2, r3]
          | some v => simp at r1 r2 r3 ⊢; simp [r1, r2, r3]
theorem partE_run {b : Bool} {off n t : Nat} {l : List AVal} {cs : Array Value} {v : AVal} (ha : aggIs P t b) (hs : sizeIs P t n) (hl : VRels α l cs.toList) (he : partE b off n l = some v) :
    Gives P α w (part t cs off) v := by
  unfold partE at he
  rw [brec] at he
  unfold Gives
  rw [run_partB ha hs]
  cases b
  · have hn : nth l off = some v := he
    rw [nth_eq] at hn
    obtain ⟨v', h1, h2⟩ := hl.get hn
    exact ⟨v', by simp at h1 ⊢; simp [h1], h2⟩
  · simp only [cond_true] at he
    cases hc : cut l off n with
    | none => rw [hc] at he; cases he
    | some r =>
      rw [hc] at he; cases he
      obtain ⟨h1, h2⟩ := cut_spec hc
      refine ⟨_, rfl, .agg ?_⟩
      have hlen := hl.length
      refine VRels.of_get ?_ fun i a hi => ?_
      · subst h2; simp at hlen ⊢; omega
      · subst h2
        rw [List.getElem?_take] at hi
        split at hi
        · rw [List.getElem?_drop] at hi
          obtain ⟨v', k1, k2⟩ := hl.get hi
          refine ⟨v', ?_, k2⟩
          rename_i hin
          simp at k1 ⊢
          rw [List.getElem?_take, if_pos hin, List.getElem?_drop]
          simpa using k1
        · cases hi
theorem fields_get {fs : List FD} {gs : List Field} (hf : FieldsOk P fs gs) {i : Nat} {fd : FD} (h : nth fs i = some fd) :
    ∃ g, gs[i]? = some g ∧ g.offset = fd.off ∧ sizeIs P g.type fd.size ∧ aggIs P g.type fd.agg := by
  rw [nth_eq] at h
  induction hf generalizing i with
  | nil => simp at h
  | cons ho hs ha _ ih =>
    cases i with
    | zero => simp at h; subst h; exact ⟨_, by simp, ho, hs, ha⟩
    | succ i => simp at h; obtain ⟨g, h1, h2⟩ := ih h; exact ⟨g, by simpa using h1, h2⟩
theorem fieldE_run (hX : EnvOk P X) {t f : Nat} {x v : AVal} {x' : Value} (hx : VRel α x x') (he : fieldE X t x f = some v) : Gives P α w (Instr.field t x' f) v := by
  unfold fieldE at he
  cases ht : X.ty.get t with
  | none => simp only [ht] at he; cases he
  | some i =>
    obtain ⟨d, hu, hok, hg⟩ := ti_und hX ht
    obtain ⟨td, sz, zv, ag⟩ := i
    simp only [ht] at he
    cases x <;> first | (cases he; done) | skip
    cases td <;> first | (cases he; done) | skip
    rename_i fs pk
    cases d <;> first | exact hok.elim | skip
    rename_i gs
    cases hx with
    | agg hx =>
      cases hn : nth fs f with
      | none => simp only [hn] at he; cases he
      | some fd =>
        simp only [hn] at he
        obtain ⟨g, h1, h2, h3, h4⟩ := fields_get hok.1 hn
        obtain ⟨v', r1, r2⟩ := partE_run (P := P) (w := w) h4 h3 hx he
        refine ⟨v', ?_, r2⟩
        unfold Instr.field
        simp only [Sem.run_bind, run_und hu, Result.andThen_ok]
        have h1' : gs[f]? = some g := by simpa using h1
        simp only [h1', Sem.run_bind, asAgg, Sem.run_pure, Result.andThen_ok, h2]
        exact r1
theorem fieldAddrE_run (hX : EnvOk P X) {t f : Nat} {x v : AVal} {x' : Value} (hx : VRel α x x') (he : fieldAddrE X t x f = some v) : Gives P α w (Instr.fieldAt t x' f) v := by
  unfold fieldAddrE at he
  cases ht : X.ty.get t with
  | none => simp only [ht] at he; cases he
  | some i =>
    obtain ⟨d, hu, hok, hg⟩ := ti_und hX ht
    obtain ⟨td, sz, zv, ag⟩ := i
    simp only [ht, faT] at he
    cases td <;> first | (cases x <;> cases he; done) | skip
    rename_i fs pk
    cases x <;> first | (cases he; done) | skip
    cases d <;> first | exact hok.elim | skip
    rename_i gs
    cases hx with
    | @ptr r off L ha =>
      simp only [faD] at he
      cases hn : nth fs f with
      | none => simp only [hn] at he; cases he
      | some fd =>
        simp only [hn, fdAddr, brec] at he
        obtain ⟨g, h1, h2, h3, h4⟩ := fields_get hok.1 hn
        cases hz : Nat.beq fd.size 0
        · rw [hz] at he; cases he
          refine ⟨_, ?_, .ptr ha⟩
          unfold Instr.fieldAt
          simp only [Sem.run_bind, run_und hu, Result.andThen_ok]
          have h1' : gs[f]? = some g := by simpa using h1
          simp only [h1', Sem.run_bind, Instr.sureAddr, Sem.run_pure, Result.andThen_ok, fieldPlace, run_size h3, ne_of_beq hz, if_false, h2, addr_add, Nat.add_assoc]
        · rw [hz] at he; cases he
theorem indexAddrE_run (hX : EnvOk P X) {t : Nat} {x i v : AVal} {x' i' : Value} (hx : VRel α x x') (hi : VRel α i i') (he : indexAddrE X t x i = some v) : Gives P α w (Instr.indexAt t x' i') v := by
  unfold indexAddrE at he
  cases ht : X.ty.get t with
  | none => simp only [ht] at he; cases he
  | some ti =>
    obtain ⟨d, hu, hok, hg⟩ := ti_und hX ht
    obtain ⟨td, sz, zv, ag⟩ := ti
    simp only [ht] at he
    cases hn : natOf i with
    | none => simp only [hn] at he; cases he
    | some n =>
      obtain ⟨k, rfl⟩ := natOf_spec hn hi
      simp only [hn, ixT] at he
      cases td <;> first | (cases x <;> cases he; done) | skip
      · rename_i e z bb
        cases x <;> first | (cases he; done) | skip
        rename_i r off m cap ex
        cases d <;> first | exact hok.elim | skip
        obtain ⟨rfl, hz, _⟩ := hok
        simp only [ixD, brec] at he
        cases hb : Nat.ble (n + 1) m
        · rw [hb] at he; cases he
        · rw [hb] at he; cases he
          have hlt := Nat.le_of_ble_eq_true hb
          cases hx with
          | @sl _ _ _ _ cap' _ L a ha hxx hc hnn haa hrr =>
            obtain rfl := haa (by omega)
            refine ⟨_, ?_, .ptr ha⟩
            unfold Instr.indexAt
            simp only [Sem.run_bind, asIntOf, Sem.run_pure, Result.andThen_ok, run_und hu, Bool.and_false, Bool.false_eq_true]
            rw [if_pos (by omega)]
            simp [run_size hz, addr_add, Nat.add_assoc]
      · rename_i m e z ea
        cases x <;> first | (cases he; done) | skip
        rename_i r off
        cases d <;> first | exact hok.elim | skip
        obtain ⟨rfl, rfl, hz, _⟩ := hok
        simp only [ixD, brec] at he
        cases hb : Nat.ble (n + 1) m
        · rw [hb] at he; cases he
        · rw [hb] at he; cases he
          have hlt := Nat.le_of_ble_eq_true hb
          cases hx with
          | @ptr _ _ L ha =>
            refine ⟨_, ?_, .ptr ha⟩
            unfold Instr.indexAt
            simp only [Sem.run_bind, asIntOf, Sem.run_pure, Result.andThen_ok, run_und hu, Instr.sureAddr]
            rw [if_pos (by omega)]
            simp [run_size hz, addr_add, Nat.add_assoc]
end
end Go.Ev
namespace Go.Ev
open Go
section
variable {P : Program} {X : Env} {α : Al} {h : Tr AObj} {w : World}
theorem and3 {a b c : Bool} (h : (a && b && c) = true) : a = true ∧ b = true ∧ c = true := by cases a <;> cases b <;> cases c <;> simp at h ⊢
theorem indexE_run (hX : EnvOk P X) {t : Nat} {x i v : AVal} {x' i' : Value} (hx : VRel α x x') (hi : VRel α i i') (he : indexE X t x i = some v) : Gives P α w (Instr.index t x' i') v := by
  unfold indexE at he
  cases ht : X.ty.get t with
  | none => cases hn : natOf i <;> simp only [ht, hn] at he <;> cases he
  | some ti =>
    obtain ⟨d, hu, hok, hg⟩ := ti_und hX ht
    obtain ⟨td, sz, zv, ag⟩ := ti
    simp only [ht] at he
    cases hn : natOf i with
    | none => simp only [hn] at he; cases he
    | some n =>
      obtain ⟨k, rfl⟩ := natOf_spec hn hi
      simp only [hn] at he
      cases td <;> first | (cases x <;> cases he; done) | skip
      · cases x <;> first | (cases he; done) | skip
        rename_i a
        cases d <;> first | exact hok.elim | skip
        cases hx with
        | @str _ s hs =>
          simp only at he
          cases hb : nth a n with
          | none => simp only [hb] at he; cases he
          | some b =>
            simp only [hb] at he; cases he
            rw [nth_eq, ← hs, List.getElem?_map] at hb
            cases hc : s.data.toList[n]? with
            | none => rw [hc] at hb; cases hb
            | some c =>
              rw [hc] at hb; cases hb
              refine ⟨_, ?_, .int _ _⟩
              unfold Instr.index
              have hc' : s[n]? = some c := by
                rw [List.getElem?_eq_some_iff] at hc
                obtain ⟨h1, h2⟩ := hc
                have h3 : n < s.size := by simpa using h1
                rw [getElem?_pos s n h3]
                rw [← h2]; rfl
              simp only [Sem.run_bind, asIntOf, Sem.run_pure, Result.andThen_ok, run_und hu]
              rw [if_pos (by omega)]
              simp [hc']
      · rename_i m e z ea
        cases x <;> first | (cases he; done) | skip
        rename_i l
        cases d <;> first | exact hok.elim | skip
        obtain ⟨rfl, rfl, hz, ha⟩ := hok
        simp only [brec] at he
        cases hb : Nat.ble (n + 1) m
        · rw [hb] at he; cases he
        · rw [hb] at he
          have hlt := Nat.le_of_ble_eq_true hb
          cases hx with
          | agg hx =>
            obtain ⟨v', r1, r2⟩ := partE_run (P := P) (w := w) ha hz hx he
            refine ⟨v', ?_, r2⟩
            unfold Instr.index
            simp only [Sem.run_bind, asIntOf, Sem.run_pure, Result.andThen_ok, run_und hu]
            rw [if_pos (by omega)]
            simp [run_size hz, r1]
theorem extract_data {s : ByteArray} {a r : List Nat} {l hh : Nat} (hs : s.data.toList.map (·.toNat) = a) (hl : l ≤ hh) (hc : cut a l (hh - l) = some r) : (s.extract l hh).data.toList.map (·.toNat) = r := by
  obtain ⟨_, h2⟩ := cut_spec hc
  subst h2
  rw [← hs]
  simp [List.map_take, List.map_drop]
theorem sliceF_run (hX : EnvOk P X) (hr : Rel X α h.get w) {t : Nat} {x v : AVal} {x' : Value} {lo hi mx : Option AVal} {lo' hi' mx' : Option Value} (hx : VRel α x x') (h1 : ORl α lo lo') (h2 : ORl α hi hi') (h3 : ORl α mx mx')
    (he : sliceF X h t x lo hi mx = some v) (hm : hi = none → mx = none) : Gives P α w (Instr.sliceAt t x' lo' hi' mx') v := by
  unfold sliceF at he
  cases e1 : natOr 0 lo with
  | none => simp only [e1] at he; cases he
  | some l =>
    cases ht : X.ty.get t with
    | none => simp only [ht, e1] at he; cases he
    | some ti =>
      obtain ⟨d, hu, hok, hg⟩ := ti_und hX ht
      obtain ⟨td, sz, zv, ag⟩ := ti
      simp only [ht, e1] at he
      cases td <;> first | (cases x <;> cases he; done) | skip
      · cases x <;> first | (cases he; done) | skip
        rename_i a
        cases d <;> first | exact hok.elim | skip
        cases hx with
        | @str _ s hs =>
          simp only at he
          cases e2 : natOr (len a) hi with
          | none => simp only [e2] at he; cases he
          | some hh =>
            simp only [e2] at he
            cases mx with
            | some m => cases he
            | none =>
              cases mx' with
              | some m => exact h3.elim
              | none =>
                simp only [brec] at he
                cases hb : (Nat.ble l hh && Nat.ble hh (len a))
                · rw [hb] at he; cases he
                · rw [hb] at he
                  simp only [cond_true] at he
                  rw [Bool.and_eq_true] at hb
                  have b1 := Nat.le_of_ble_eq_true hb.1
                  have b2 := Nat.le_of_ble_eq_true hb.2
                  rw [len_eq, ← toList_rel hs] at b2
                  cases hc : cut a l (hh - l) with
                  | none => simp only [hc] at he; cases he
                  | some r =>
                    simp only [hc] at he; cases he
                    rw [len_eq, ← toList_rel hs] at e2
                    have rb := bounds_run (P := P) (w := w) (isS := false) (c := s.size) h1 h2 (show ORl α none none from trivial) e1 e2 rfl (Nat.le_refl _) b2 b1 (fun _ => rfl)
                    refine ⟨.string (s.extract l hh), ?_, .str (extract_data hs b1 hc)⟩
                    simp [Instr.sliceAt, Instr.slice, run_und hu, rb]
      · rename_i e z bb
        cases x <;> first | (cases he; done) | skip
        · cases d <;> first | exact hok.elim | skip
          obtain ⟨rfl, hz, _⟩ := hok
          cases hx
          simp only at he
          cases e2 : natOr 0 hi with
          | none => simp only [e2] at he; cases he
          | some hh =>
            cases e3 : natOr 0 mx with
            | none => simp only [e2, e3] at he; cases he
            | some m =>
              simp only [e2, e3, brec] at he
              cases hb : (Nat.beq l 0 && Nat.beq hh 0 && Nat.beq m 0)
              · rw [hb] at he; cases he
              · rw [hb] at he; cases he
                obtain ⟨b1, b2, b3⟩ := and3 hb
                obtain rfl := Nat.eq_of_beq_eq_true b1
                obtain rfl := Nat.eq_of_beq_eq_true b2
                obtain rfl := Nat.eq_of_beq_eq_true b3
                have rb := bounds_run (P := P) (w := w) (isS := true) h1 h2 h3 e1 e2 e3 (Nat.le_refl _) (Nat.le_refl _) (Nat.le_refl _) hm
                exact ⟨_, by simp [Instr.sliceAt, Instr.slice, run_und hu, rb, run_size hz], .snil⟩
        · rename_i r off n cap ex
          cases d <;> first | exact hok.elim | skip
          obtain ⟨rfl, hz, _⟩ := hok
          cases hx with
          | @sl _ _ _ _ cap' _ L a ha hxx hc hnn haa hrr =>
            simp only at he
            cases e2 : natOr n hi with
            | none => simp only [e2] at he; cases he
            | some hh =>
              simp only [e2] at he
              cases mx with
              | some mv =>
                cases mx' with
                | none => exact h3.elim
                | some mv' =>
                  simp only at he
                  cases e3 : natOf mv with
                  | none => simp only [e3] at he; cases he
                  | some m =>
                    simp only [e3, brec] at he
                    cases hb : (Nat.ble l hh && Nat.ble hh m && Nat.ble m cap)
                    · rw [hb] at he; cases he
                    · rw [hb] at he; cases he
                      obtain ⟨b1, b2, b3⟩ := and3 hb
                      have b1 := Nat.le_of_ble_eq_true b1
                      have b2 := Nat.le_of_ble_eq_true b2
                      have b3 := Nat.le_of_ble_eq_true b3
                      have rb := bounds_run (P := P) (w := w) (isS := true) (c := cap') h1 h2 h3 e1 e2 (show natOr cap' (some mv) = some m from e3) (by omega) b2 b1 hm
                      refine ⟨.slice (some (if m = l then a else a.add (l * z))) (hh - l) (m - l), ?_, .sl ha (fun _ => rfl) (Nat.le_refl _) (by omega) ?_ (fun hf => by cases hf)⟩
                      · simp [Instr.sliceAt, Instr.slice, run_und hu, rb, run_size hz]
                        split <;> rfl
                      · intro hne
                        have hml : Nat.beq m l = false := beq_false (by omega)
                        rw [if_neg (by omega), hml, haa (by omega), addr_add, Nat.add_assoc]; rfl
              | none =>
                cases mx' with
                | some mv' => exact h3.elim
                | none =>
                  simp only [brec] at he
                  cases hb : (Nat.ble l hh && Nat.ble hh cap && (ex || (Nat.beq l 0 || szOf X z (h.get r))))
                  · rw [hb] at he; cases he
                  · rw [hb] at he; cases he
                    obtain ⟨b1, b2, b3⟩ := and3 hb
                    have b1 := Nat.le_of_ble_eq_true b1
                    have b2 := Nat.le_of_ble_eq_true b2
                    have rb := bounds_run (P := P) (w := w) (isS := true) (c := cap') h1 h2 (show ORl α none none from trivial) e1 e2 rfl (Nat.le_refl _) (by omega) b1 (fun _ => rfl)
                    refine ⟨.slice (some (if cap' = l then a else a.add (l * z))) (hh - l) (cap' - l), ?_, .sl ha (fun hx => by rw [hxx hx]) (by omega) (by omega) ?_ ?_⟩
                    · simp [Instr.sliceAt, Instr.slice, run_und hu, rb, run_size hz]
                      split <;> rfl
                    · intro hne
                      rw [if_neg (by omega), haa (by omega), addr_add]
                      have : (ex && Nat.beq cap l) = false := by
                        cases ex
                        · rfl
                        · have := hxx rfl; subst this; exact beq_false (by omega)
                      rw [this]; simp [Nat.add_assoc]
                    · intro hx hne
                      subst hx
                      have hh1 := hrr rfl (by omega)
                      simp only [Bool.false_and, Bool.false_or] at b3 ⊢
                      show L.base + (off + l * z) + (cap' - l) * L.sz ≤ L.lim
                      rw [Bool.or_eq_true] at b3
                      rcases b3 with b3 | b3
                      · obtain rfl := Nat.eq_of_beq_eq_true b3
                        simpa using hh1
                      · have hzL : z = L.sz := by
                          cases ho : h.get r with
                          | none => rw [ho] at b3; cases b3
                          | some o =>
                            rw [ho] at b3
                            cases o <;> first | (cases b3; done) | skip
                            rename_i cs e lo sp fz anc
                            cases lo
                            · cases b3
                            · obtain ⟨_, _, _, _, _, _, _, _, _, hsz⟩ := hr.obj r L _ ha ho
                              obtain ⟨ti, k1, k2⟩ := hsz rfl
                              simp only [szOf, k1] at b3
                              rw [← k2]; exact (Nat.eq_of_beq_eq_true b3).symm
                        subst hzL
                        have : (cap' - l) * L.sz + l * L.sz = cap' * L.sz := by rw [← Nat.add_mul]; congr 1; omega
                        omega
      · rename_i n e z ea
        cases x <;> first | (cases he; done) | skip
        rename_i r off
        cases d <;> first | exact hok.elim | skip
        obtain ⟨rfl, rfl, hz, _⟩ := hok
        cases hx with
        | @ptr _ _ L ha =>
          simp only at he
          cases e2 : natOr n hi with
          | none => simp only [e2] at he; cases he
          | some hh =>
            cases e3 : natOr n mx with
            | none => simp only [e2, e3] at he; cases he
            | some m =>
              simp only [e2, e3, brec] at he
              cases hb : (Nat.ble l hh && Nat.ble hh m && Nat.ble m n)
              · rw [hb] at he; cases he
              · rw [hb] at he; cases he
                obtain ⟨b1, b2, b3⟩ := and3 hb
                have b1 := Nat.le_of_ble_eq_true b1
                have b2 := Nat.le_of_ble_eq_true b2
                have b3 := Nat.le_of_ble_eq_true b3
                have rb := bounds_run (P := P) (w := w) (isS := false) h1 h2 h3 e1 e2 e3 b3 b2 b1 hm
                refine ⟨.slice (some (if m = l then ⟨L.b, L.base + off, none⟩ else (⟨L.b, L.base + off, none⟩ : Addr).add (l * z))) (hh - l) (m - l), ?_, .sl ha (fun _ => rfl) (Nat.le_refl _) (by omega) ?_ (fun hf => by cases hf)⟩
                · simp [Instr.sliceAt, run_und hu, rb, run_size hz, Instr.sureAddr]
                · intro hne
                  have hml : Nat.beq m l = false := beq_false (by omega)
                  rw [if_neg (by omega), hml, addr_add, Nat.add_assoc]; rfl
theorem sliceE_run (hX : EnvOk P X) (hr : Rel X α h.get w) {t : Nat} {x v : AVal} {x' : Value} {lo hi mx : Option AVal} {lo' hi' mx' : Option Value} (hx : VRel α x x') (h1 : ORl α lo lo') (h2 : ORl α hi hi') (h3 : ORl α mx mx')
    (he : sliceE X h t x lo hi mx = some v) : Gives P α w (Instr.sliceAt t x' lo' hi' mx') v := by
  cases hi with
  | none =>
    cases mx with
    | none => exact sliceF_run hX hr hx h1 h2 h3 he (fun _ => rfl)
    | some m => cases he
  | some m => exact sliceF_run hX hr hx h1 h2 h3 he (fun e => by cases e)
end
end Go.Ev
namespace Go.Ev
open Go
section
variable {P : Program} {X : Env} {α : Al} {h : Tr AObj} {w : World} {ev : Operand → AVal} {ρ : Operand → Value}
theorem oneA_ne {v : AVal} (h : oneA v = true) : v ≠ .bad := by rintro rfl; cases h
theorem allOne_cells {v : AVal} (h : allOne v.cells = true) : v ≠ .bad := by rintro rfl; cases h
theorem VRels.splice {α : Al} {cs vs r : List AVal} {C V : List Value} {off : Nat} (hc : VRels α cs C) (hv : VRels α vs V) (hs : splice cs off vs = some r) :
    off + V.length ≤ C.length ∧ VRels α r (C.take off ++ V ++ C.drop (off + V.length)) := by
  obtain ⟨h1, h2⟩ := splice_spec hs
  have l1 := hc.length
  have l2 := hv.length
  refine ⟨by omega, ?_⟩
  subst h2
  rw [← l2]
  refine VRels.append (VRels.append ?_ hv) ?_
  · refine VRels.of_get (by simp; omega) fun i a hi => ?_
    rw [List.getElem?_take] at hi ⊢
    split at hi
    · rename_i hlt; rw [if_pos hlt]; exact hc.get hi
    · cases hi
  · refine VRels.of_get (by simp; omega) fun i a hi => ?_
    rw [List.getElem?_drop] at hi ⊢
    exact hc.get hi
theorem foldl_splice (C V : Array Value) (off : Nat) (hle : off + V.size ≤ C.size) :
    (V.zipIdx.foldl (fun cs (c, j) => cs.setIfInBounds (off + j) c) C).toList = C.toList.take off ++ V.toList ++ C.toList.drop (off + V.size) := by
  have e : V.zipIdx.foldl (fun cs (c, j) => cs.setIfInBounds (off + j) c) C = (V.toList.zipIdx 0).foldl (fun cs (x : Value × Nat) => cs.setIfInBounds (off + x.2) x.1) C := by
    rw [← Array.foldl_toList, Array.toList_zipIdx]
  rw [e]
  obtain ⟨g1, g2⟩ := Go.Great.foldl_set off V.toList 0 C
  refine List.ext_getElem? fun k => ?_
  rw [Array.getElem?_toList, g2 k]
  simp only [Nat.add_zero, Array.length_toList]
  by_cases h1 : k < off
  · rw [if_neg (by omega), List.append_assoc, List.getElem?_append_left (by simp; omega), List.getElem?_take, if_pos h1, Array.getElem?_toList]
  · by_cases h2 : k < off + V.size
    · rw [if_pos (by omega), List.append_assoc, List.getElem?_append_right (by simp; omega), List.getElem?_append_left (by simp; omega)]
      congr 1; simp; omega
    · rw [if_neg (by omega), List.getElem?_append_right (by simp; omega), List.getElem?_drop, Array.getElem?_toList]
      congr 1; simp; omega
theorem fill_run {place sz : Nat → Option (Nat × Nat)} (hp : ∀ i p, sz i = some p → place i = some p) (hev : ∀ x, VRel α (ev x) (ρ x)) : ∀ {ops : List (Nat × Operand)} {cs r : List AVal} {C : Array Value},
    VRels α cs C.toList → fillP sz cs (ops.map fun p => (p.1, ev p.2)) = some r → ∃ R, Instr.fill place C (ops.map fun p => (p.1, ρ p.2)) = some R ∧ VRels α r R.toList
  | [], cs, r, C, hc, he => by cases he; exact ⟨C, rfl, hc⟩
  | (i, x) :: ops, cs, r, C, hc, he => by
    simp only [List.map_cons, fillP] at he
    cases hs : sz i with
    | none => rw [hs] at he; cases he
    | some p =>
      obtain ⟨off, size⟩ := p
      simp only [hs, brec] at he
      cases hb : (Nat.beq (len (ev x).cells) size && allOne (ev x).cells)
      · rw [hb] at he; cases he
      · rw [hb] at he
        rw [Bool.and_eq_true] at hb
        have b1 := Nat.eq_of_beq_eq_true hb.1
        have hxr := (hev x).cells (allOne_cells hb.2)
        rw [len_eq, hxr.length] at b1
        simp only [cond_true] at he
        cases hsp : splice cs off (ev x).cells with
        | none => rw [hsp] at he; cases he
        | some cs' =>
          rw [hsp] at he
          obtain ⟨k1, k2⟩ := hc.splice hxr hsp
          simp only [Array.length_toList] at k1 k2 b1
          obtain ⟨R, h1, h2⟩ := fill_run hp hev (C := ((ρ x).cells.zipIdx.foldl (fun cs (c, j) => cs.setIfInBounds (off + j) c) C)) (ops := ops) (by rw [foldl_splice _ _ _ k1]; exact k2) he
          refine ⟨R, ?_, h2⟩
          simp only [List.map_cons]
          unfold Instr.fill
          simp only [hp _ _ hs, b1]
          rw [if_neg (by simp; omega)]
          exact h1
theorem places_run {fs : List FD} {gs : List Field} (hf : FieldsOk P fs gs) : ∃ l : List (Nat × Nat), (gs.mapM (fun f => (do pure (f.offset, ← Go.sizeOf f.type) : Sem (Nat × Nat)))).run P w = .ok l w ∧ ∀ i fd, nth fs i = some fd → l[i]? = some (fd.off, fd.size) := by
  induction hf with
  | nil => exact ⟨[], by simp, fun i fd h => by cases h⟩
  | @cons fd f fs gs ho hs ha _ ih =>
    obtain ⟨l, h1, h2⟩ := ih
    refine ⟨(fd.off, fd.size) :: l, by simp only [List.mapM_cons, Sem.run_bind, run_size hs, h1, ho, Sem.run_pure, Result.andThen_ok], fun i fd' h => ?_⟩
    rw [nth_eq] at h
    cases i with
    | zero => simp at h; subst h; rfl
    | succ i => simp at h; simpa using h2 i fd' (by rw [nth_eq]; exact h)
theorem zero_cells {t : Nat} {zv : AVal} (hz : zeroIs P t zv) : ∃ z, (zeroValue t).run P w = .ok z w ∧ (∀ α, VRel α zv z) ∧ ∀ α, VRels α zv.cells z.cells.toList := by
  obtain ⟨i, z, h1, h2, h3, h4⟩ := hz
  exact ⟨z, run_zero h1 h2, h3, fun α => (h3 α).cells h4⟩
theorem buildE_run (hX : EnvOk P X) (hev : ∀ x, VRel α (ev x) (ρ x)) {t : Nat} {parts : Array (Nat × Operand)} {v : AVal} (he : buildE X t (parts.toList.map fun p => (p.1, ev p.2)) = some v) :
    Gives P α w (Instr.build t (parts.map fun (i, x) => (i, ρ x))) v := by
  unfold buildE at he
  cases ht : X.ty.get t with
  | none => rw [ht] at he; cases he
  | some ti =>
    obtain ⟨⟨d, hu, hok, hg⟩, hs0, hz, hc0, hzl, hsm⟩ := hX.ty t ti ht
    obtain ⟨td, sz, zv, ag⟩ := ti
    obtain ⟨z, hz1, hz2, hz3⟩ := zero_cells (w := w) hz
    simp only [ht] at he
    cases td <;> first | (cases he; done) | skip
    · rename_i n e es ea
      cases d <;> first | exact hok.elim | skip
      obtain ⟨rfl, rfl, hsz, _⟩ := hok
      simp only at he
      cases hf : fillP (fun i => some (i * es, es)) zv.cells (parts.toList.map fun p => (p.1, ev p.2)) with
      | none => rw [hf] at he; cases he
      | some l =>
        rw [hf] at he; cases he
        obtain ⟨R, r1, r2⟩ := fill_run (place := fun i => some (i * es, es)) (fun i p h => h) hev (hz3 α) hf
        refine ⟨.agg R, ?_, .agg r2⟩
        simp [Instr.build, hz1, run_und hu, run_size hsz, r1]
    · rename_i fs pk
      cases d <;> first | exact hok.elim | skip
      rename_i gs
      obtain ⟨hfo, _⟩ := hok
      simp only at he
      obtain ⟨pl, p1, p2⟩ := places_run (w := w) hfo
      cases hf : fillP (fdPlace fs) zv.cells (parts.toList.map fun p => (p.1, ev p.2)) with
      | none => rw [hf] at he; cases he
      | some l =>
        rw [hf] at he; cases he
        obtain ⟨R, r1, r2⟩ := fill_run (place := fun i => pl.toArray[i]?) (fun i p h => by
          unfold fdPlace at h
          cases hn : nth fs i with
          | none => rw [hn] at h; cases h
          | some fd => rw [hn] at h; cases h; simpa using p2 i fd hn) hev (hz3 α) hf
        refine ⟨.agg R, ?_, .agg r2⟩
        have hm : (gs.mapM (fun f => (do pure (f.offset, ← Go.sizeOf f.type) : Sem (Nat × Nat)))).run P w = .ok pl.toArray w := by
          rw [← Array.toArray_toList (xs := gs), List.mapM_toArray, Sem.run_map, p1]; rfl
        simp [Instr.build, -bind_pure_comp, hz1, run_und hu, hm]; simp at r1; simp [r1]
end
end Go.Ev
namespace Go.Ev
open Go
section
variable {P : Program} {X : Env} {α : Al} {h : Tr AObj} {w : World} {ev : Operand → AVal} {ρ : Operand → Value}
theorem sameNow_rel {p : PK} {d : TypeDesc} {x y : AVal} {x' y' : Value} {b : Bool} (hd : pkIs p d) (hx : VRel α x x') (hy : VRel α y y') (he : eqP p x y = some b) : Instr.sameNow d x' y' = some b := by
  cases p <;> cases d <;> first | exact hd.elim | skip
  · cases x <;> cases y <;> simp [eqP] at he
    cases hx; cases hy; subst he; simp [Instr.sameNow, eqB_eq]
  · cases x <;> cases y <;> simp only [eqP] at he <;> first | (cases he; done) | skip
    rename_i k j a l c
    cases hx; cases hy
    rw [brec, kEq_eq] at he
    by_cases hk : j = l
    · subst hk; simp at he; subst he; simp [Instr.sameNow, eqI_eq]
    · simp [hk] at he
  · cases x <;> cases y <;> simp only [eqP] at he <;> first | (cases he; done) | skip
    cases hx with
    | str h1 => cases hy with
      | str h2 => cases he; simp [Instr.sameNow, beqN_eq, bytes_eq h1 h2]
def FRel (α : Al) (es : List (AVal × AVal × Nat)) (es' : List MapEntry) (i : Nat) : Option (Nat × AVal) → Option (Nat × Value) → Prop
  | none, none => True
  | some (j, v), some (j', v') => j = j' ∧ VRel α v v' ∧ i ≤ j ∧ j - i < es'.length
  | _, _ => False
theorem findK_run {p : PK} {d : TypeDesc} {k : AVal} {k' : Value} (hd : pkIs p d) (hk : VRel α k k') : ∀ {es : List (AVal × AVal × Nat)} {es' : List MapEntry} {i : Nat} {r : Option (Nat × AVal)},
    ERels α es es' → findK p k es i = some r → ∃ r', Instr.findNow d k' es' i = some r' ∧ FRel α es es' i r r'
  | [], _, i, r, .nil, he => by cases he; exact ⟨none, rfl, trivial⟩
  | (k1, v1, b1) :: es, e :: es', i, r, .cons h1 h2 h3 t, he => by
    simp only [findK] at he
    cases hb : eqP p k k1 with
    | none => rw [hb] at he; cases he
    | some b =>
      rw [hb] at he
      have hs := sameNow_rel hd hk h1 hb
      cases b
      · obtain ⟨r', g1, g2⟩ := findK_run hd hk t he
        refine ⟨r', by simp only [Instr.findNow, hs, g1], ?_⟩
        cases r with
        | none => cases r' with
          | none => trivial
          | some _ => exact g2.elim
        | some q => cases r' with
          | none => exact g2.elim
          | some q' => obtain ⟨a, c⟩ := q; obtain ⟨a', c'⟩ := q'; obtain ⟨g3, g4, g5, g6⟩ := g2; exact ⟨g3, g4, by omega, by simp; omega⟩
      · cases he
        exact ⟨some (i, e.val), by simp only [Instr.findNow, hs], rfl, h2, Nat.le_refl _, by simp⟩
theorem checkKey_run {p : PK} {t : Nat} {d : TypeDesc} (hu : P.underlying t = some d) (hd : pkIs p d) (e : Bool) (n : Nat) (k : Value) : (Instr.checkKey e (n + 1) t k).run P w = .ok () w := by
  unfold Instr.checkKey
  simp only [Sem.run_bind, run_und hu, Result.andThen_ok]
  cases p <;> cases d <;> first | exact hd.elim | rfl
theorem findKey_run {t : Nat} {d : TypeDesc} (hu : P.underlying t = some d) {k : Value} {l : List MapEntry} {a : Option (Nat × Value)} (hf : Instr.findNow d k l 0 = some a) : (Instr.findKey t k l).run P w = .ok a w := by
  simp [Instr.findKey, run_und hu, Result.andThen, hf]
theorem getObj_run {b : Nat} {o : Obj} (hb : w.heap[b]? = some o) (hc : ∀ x y z, o ≠ .cells x y z) : (getObj b).run P w = .ok o w := by
  cases o <;> first | exact absurd rfl (hc _ _ _) | simp [getObj, Sem.run, hb]
theorem okV_rel {ok : Bool} {v : AVal} {v' : Value} {b : Bool} (hv : VRel α v v') : VRel α (okV ok v b) (if ok then .tuple #[v', .bool b] else v') := by
  cases ok
  · exact hv
  · exact .tup (.cons hv (.cons (.bool b) .nil))
theorem mapEs_run (hr : Rel X α h.get w) {x : AVal} {x' : Value} {es : List (AVal × AVal × Nat)} (hx : VRel α x x') (he : mapEs h x = some es) :
    ∃ es' : Array MapEntry, ERels α es es'.toList ∧ ((x' = .map none ∧ es' = #[]) ∨ ∃ b c, x' = .map (some b) ∧ w.heap[b]? = some (.map es' c)) := by
  cases x <;> first | (cases he; done) | skip
  · cases he; cases hx; exact ⟨#[], .nil, .inl ⟨rfl, rfl⟩⟩
  · rename_i r
    cases hx with
    | @map _ L ha =>
      simp only [mapEs] at he
      cases ho : h.get r with
      | none => rw [ho] at he; cases he
      | some o =>
        rw [ho] at he
        cases o <;> first | (cases he; done) | skip
        cases he
        obtain ⟨es', g1, g2⟩ := hr.obj r L _ ha ho
        exact ⟨es', g2, .inr ⟨L.b, _, rfl, g1⟩⟩
theorem lookupE_run (hX : EnvOk P X) (hr : Rel X α h.get w) {t : Nat} {x k v : AVal} {x' k' : Value} {ok : Bool} (hx : VRel α x x') (hk : VRel α k k') (he : lookupE X h t x k ok = some v) :
    Gives P α w (Instr.lookup t x' k' ok) v := by
  unfold lookupE at he
  cases ht : X.ty.get t with
  | none => rw [ht] at he; cases he
  | some ti =>
    obtain ⟨⟨d, hu, hok, hg⟩, hs0, hz0, hc0, hzl, hsm⟩ := hX.ty t ti ht
    obtain ⟨td, sz, zv0, ag⟩ := ti
    simp only [ht] at he
    cases td <;> first | (cases he; done) | skip
    rename_i p zv
    cases p with
    | none => cases he
    | some p =>
      cases d <;> first | exact hok.elim | skip
      rename_i kt et
      obtain ⟨hp, hzv⟩ := hok
      obtain ⟨kd, hku, hkd⟩ := hp p rfl
      obtain ⟨z, hz1, hz2, _⟩ := zero_cells (w := w) hzv
      simp only at he
      cases hes : mapEs h x with
      | none => rw [hes] at he; cases he
      | some es =>
        rw [hes] at he
        obtain ⟨es', g2, g1⟩ := mapEs_run hr hx hes
        simp only [lkD] at he
        cases hf : findK p k es 0 with
        | none => rw [hf] at he; cases he
        | some r =>
          rw [hf] at he
          obtain ⟨r', g3, g4⟩ := findK_run hkd hk g2 hf
          have g5 := findKey_run (w := w) hku g3
          have g6 := checkKey_run (P := P) (w := w) hku hkd es'.isEmpty 9999 k'
          cases r with
          | none =>
            cases r' with
            | some _ => exact g4.elim
            | none =>
              cases he
              refine ⟨_, ?_, okV_rel (hz2 α)⟩
              unfold Instr.lookup
              rcases g1 with ⟨rfl, rfl⟩ | ⟨b, c, rfl, g1⟩
              · simp only [Sem.run_bind, run_und hu, Result.andThen_ok, g6, g5, hz1, Sem.run_pure]
              · simp only [Sem.run_bind, run_und hu, Result.andThen_ok, getObj_run g1 (by simp), g6, g5, hz1, Sem.run_pure]
          | some q =>
            cases r' with
            | none => exact g4.elim
            | some q' =>
              obtain ⟨a, c⟩ := q; obtain ⟨a', c'⟩ := q'
              cases he
              refine ⟨_, ?_, okV_rel g4.2.1⟩
              unfold Instr.lookup
              rcases g1 with ⟨rfl, rfl⟩ | ⟨b, c, rfl, g1⟩
              · simp only [Sem.run_bind, run_und hu, Result.andThen_ok, g6, g5, Sem.run_pure]
              · simp only [Sem.run_bind, run_und hu, Result.andThen_ok, getObj_run g1 (by simp), g6, g5, Sem.run_pure]
theorem ERels.find {es : List (AVal × AVal × Nat)} {es' : List MapEntry} {st : Nat} {k v : AVal} {b : Nat} (hr : ERels α es es') (hf : es.find? (fun e => Nat.beq e.2.2 st) = some (k, v, b)) :
    ∃ e, es'.find? (fun e => e.born == st) = some e ∧ VRel α k e.key ∧ VRel α v e.val := by
  induction hr with
  | nil => cases hf
  | @cons k1 v1 b1 e l m hk hv hb t ih =>
    rw [List.find?_cons] at hf ⊢
    subst hb
    cases hc : Nat.beq e.born st
    · simp only [hc] at hf
      have : (e.born == st) = false := by simpa using ne_of_beq hc
      rw [this]; exact ih hf
    · simp only [hc] at hf; cases hf
      have : (e.born == st) = true := by simpa using Nat.eq_of_beq_eq_true hc
      rw [this]; exact ⟨e, rfl, hk, hv⟩
theorem entryE_run (hr : Rel X α h.get w) {x v : AVal} {x' : Value} (hx : VRel α x x') (he : entryE h x = some v) : Gives P α w (Instr.entry x') v := by
  cases x <;> first | (cases he; done) | skip
  rename_i r off
  cases off with
  | succ n => cases he
  | zero =>
    simp only [entryE] at he
    cases hx with
    | @ptr _ _ L ha =>
      cases ho : h.get r with
      | none => rw [ho] at he; cases he
      | some o =>
        rw [ho] at he
        cases o <;> first | (cases he; done) | skip
        rename_i m since seen last
        cases m with
        | none => cases he
        | some m =>
          obtain ⟨m', seen', g1, g2, g3, M, hM, rfl⟩ := hr.obj r L _ ha ho
          simp only [enI] at he
          cases hm : h.get m with
          | none => rw [hm] at he; cases he
          | some o2 =>
            rw [hm] at he
            cases o2 <;> first | (cases he; done) | skip
            rename_i es clock
            obtain ⟨es', k1, k2⟩ := hr.obj m M _ hM hm
            simp only [enM, brec] at he
            cases hb : Nat.beq clock last
            · rw [hb] at he; cases he
            · rw [hb] at he
              obtain rfl := Nat.eq_of_beq_eq_true hb
              cases seen with
              | nil => cases he
              | cons st rest =>
                simp only [cond_true, enB] at he
                cases hf : es.find? (fun e => Nat.beq e.2.2 st) with
                | none => rw [hf] at he; cases he
                | some q =>
                  obtain ⟨k, u, b⟩ := q
                  rw [hf] at he; cases he
                  obtain ⟨e, f1, f2, f3⟩ := k2.find hf
                  have hback : seen'.back? = some st := by
                    have : seen'.toList.reverse.head? = some st := by rw [g3]; rfl
                    rw [List.head?_reverse] at this
                    rw [← Array.getLast?_toList]; exact this
                  have f1' : es'.find? (fun e => e.born == st) = some e := by rw [← Array.find?_toList]; exact f1
                  refine ⟨.tuple #[e.key, e.val], ?_, .tup (.cons f2 (.cons f3 .nil))⟩
                  rw [g2]
                  simp [Instr.entry, getObj_run g1 (by simp), hback, getObj_run k1 (by simp), f1']
theorem failsE_run {a : Nat} {zv v : AVal} {ok : Bool} {s d : Option TypeId} {m : String} (hz : zeroIs P a zv) (he : failsE zv ok = some v) :
    Gives P α w (if ok then (do pure (.tuple #[← zeroValue a, .bool false])) else runtimePanic (.typeAssertion s d a m)) v := by
  cases ok
  · cases he
  · cases he
    obtain ⟨z, hz1, hz2, _⟩ := zero_cells (w := w) hz
    exact ⟨.tuple #[z, .bool false], by simp [hz1], .tup (.cons (hz2 α) (.cons (.bool _) .nil))⟩
theorem typeAssertE_run (hX : EnvOk P X) {x v : AVal} {x' : Value} {xt a : Nat} {ok : Bool} (hx : VRel α x x') (he : typeAssertE X x a ok = some v) :
    Gives P α w (Instr.typeAssert x' xt a ok) v := by
  unfold typeAssertE at he
  cases ht : X.ty.get a with
  | none => rw [ht] at he; cases he
  | some ti =>
    obtain ⟨⟨d, hu, hok, hg⟩, hs0, hz, hc0, hzl, hsm⟩ := hX.ty a ti ht
    obtain ⟨td, sz, zv, ag⟩ := ti
    simp only [ht] at he
    have hd : td = .iface ∨ (td ≠ .iface ∧ ∀ l, d ≠ .interface l) := by
      cases td <;> first | exact .inl rfl | (refine .inr ⟨by simp, fun l e => ?_⟩; subst e; exact hok.elim)
    rcases hd with rfl | ⟨hni, hnd⟩
    · cases d <;> first | exact hok.elim | skip
      rename_i want
      cases x <;> first | (cases he; done) | skip
      · rename_i t u
        cases hx with
        | @iface _ _ u' hu' =>
          simp only [taD] at he
          cases hta : taFind X.ta a t with
          | none => rw [hta] at he; cases he
          | some b =>
            rw [hta] at he
            obtain ⟨want', info, g1, g2, g3⟩ := hX.ta a t b hta
            rw [hu] at g1; cases g1
            have hti : (typeInfo t).run P w = .ok info w := by simp [typeInfo, g2]
            unfold Instr.typeAssert
            cases b
            · cases hm : Instr.missingMethod want info.methods with
              | none => rw [hm] at g3; cases g3
              | some m =>
                obtain ⟨v', r1, r2⟩ := failsE_run (P := P) (α := α) (w := w) (s := none) (d := some t) (m := m) hz he
                exact ⟨v', by simp only [Sem.run_bind, run_und hu, Result.andThen_ok, hti, hm]; exact r1, r2⟩
            · cases hm : Instr.missingMethod want info.methods with
              | some m => rw [hm] at g3; cases g3
              | none =>
                cases he
                exact ⟨_, by simp only [Sem.run_bind, run_und hu, Result.andThen_ok, hti, hm, Sem.run_pure], okV_rel (.iface hu')⟩
      · cases hx
        obtain ⟨v', r1, r2⟩ := failsE_run (P := P) (α := α) (w := w) (s := none) (d := none) (m := "") hz he
        exact ⟨v', by unfold Instr.typeAssert; simp only [Sem.run_bind, run_und hu, Result.andThen_ok]; exact r1, r2⟩
    · cases x <;> first | (cases td <;> cases he; done) | skip
      · rename_i t u
        cases hx with
        | @iface _ _ u' hu' =>
          have he' : @Bool.rec (fun _ => Option AVal) (failsE zv ok) (some (okV ok u true)) (Nat.beq t a) = some v := by
            cases td <;> first | exact absurd rfl hni | exact he
          rw [brec] at he'
          unfold Instr.typeAssert
          cases hb : Nat.beq t a
          · rw [hb] at he'
            obtain ⟨v', r1, r2⟩ := failsE_run (P := P) (α := α) (w := w) (s := some xt) (d := some t) (m := "") hz he'
            have hne := ne_of_beq hb
            refine ⟨v', ?_, r2⟩
            simp only [Sem.run_bind, run_und hu, Result.andThen_ok]
            cases d <;> first | exact absurd rfl (hnd _) | (simp only [if_neg hne]; exact r1)
          · rw [hb] at he'; cases he'
            obtain rfl := Nat.eq_of_beq_eq_true hb
            refine ⟨_, ?_, okV_rel hu'⟩
            simp only [Sem.run_bind, run_und hu, Result.andThen_ok]
            cases d <;> first | exact absurd rfl (hnd _) | (simp only [if_true, Sem.run_pure])
      · cases hx
        have he' : failsE zv ok = some v := by
            cases td <;> first | exact absurd rfl hni | exact he
        obtain ⟨v', r1, r2⟩ := failsE_run (P := P) (α := α) (w := w) (s := some xt) (d := none) (m := "") hz he'
        refine ⟨v', ?_, r2⟩
        unfold Instr.typeAssert
        simp only [Sem.run_bind, run_und hu, Result.andThen_ok]
        cases d <;> first | exact absurd rfl (hnd _) | exact r1
end
end Go.Ev
namespace Go.Ev
open Go
section
variable {P : Program} {X : Env} {α : Al} {h : Tr AObj} {w : World} {ev : Operand → AVal} {ρ : Operand → Value}
theorem ERels.len {es : List (AVal × AVal × Nat)} {es' : Array MapEntry} (h : ERels α es es'.toList) : es'.size = len es := by
  rw [len_eq, h.length]; simp
theorem gint {s : Sem Value} {n : Int} (h : s.run P w = .ok (.int .i64 n) w) : Gives P α w s (.int .i64 n) := ⟨_, h, .int _ _⟩
theorem lenE_run (hX : EnvOk P X) (hr : Rel X α h.get w) {t rt : Nat} {ts : Array TypeId} {as : Array Value} {x v : AVal} {x' : Value} (hx : VRel α x x') (ht0 : ts[0]? = some t) (ha0 : as[0]? = some x') (he : lenE X h t x = some v) :
    Gives P α w (Builtin.len_ ts rt as) v := by
  unfold lenE at he
  cases ht : X.ty.get t with
  | none => rw [ht] at he; cases he
  | some ti =>
    obtain ⟨⟨d, hu, hok, hg⟩, hs0, hz, hc0, hzl, hsm⟩ := hX.ty t ti ht
    obtain ⟨td, sz, zv, ag⟩ := ti
    rw [ht] at he
    simp only [lenT] at he
    cases td <;> first | (cases x <;> cases he; done) | skip
    · cases x <;> first | (cases he; done) | skip
      cases d <;> first | exact hok.elim | skip
      cases hx with
      | @str l s hs =>
        cases he
        rw [len_eq, ← toList_rel hs]
        exact gint (by simp [Builtin.len_, ht0, ha0, run_und hu, goInt])
    · rename_i e
      cases d <;> first | exact hok.elim | skip
      obtain rfl := hok
      have he' : arrLen (X.ty.get e) = some v := by cases x <;> exact he
      cases hte : X.ty.get e with
      | none => rw [hte] at he'; cases he'
      | some ai =>
        obtain ⟨⟨d2, hu2, hok2, hg2⟩, _, _, _, _, _⟩ := hX.ty e ai hte
        rw [hte] at he'
        obtain ⟨td2, sz2, zv2, ag2⟩ := ai
        cases td2 <;> first | (cases he'; done) | skip
        cases d2 <;> first | exact hok2.elim | skip
        obtain ⟨rfl, _⟩ := hok2
        cases he'
        exact gint (by simp [Builtin.len_, ht0, ha0, run_und hu, run_und hu2, goInt])
    · cases d <;> first | exact hok.elim | skip
      cases x <;> first | (cases he; done) | skip
      · cases hx; cases he
        exact gint (by simp [Builtin.len_, ht0, ha0, run_und hu, goInt])
      · cases hx; cases he
        exact gint (by simp [Builtin.len_, ht0, ha0, run_und hu, goInt])
    · rename_i n e es ea
      cases d <;> first | exact hok.elim | skip
      obtain ⟨rfl, _⟩ := hok
      have : v = .int .i64 (.ofNat n) := by cases x <;> (cases he; rfl)
      subst this
      exact gint (by simp [Builtin.len_, ht0, ha0, run_und hu, goInt])
    · cases d <;> first | exact hok.elim | skip
      cases x <;> first | (cases he; done) | skip
      · cases hx; cases he
        exact gint (by simp [Builtin.len_, ht0, ha0, run_und hu, goInt])
      · rename_i r
        cases hx with
        | @map _ L ha =>
          have he' : mapLen (h.get r) = some v := he
          cases ho : h.get r with
          | none => rw [ho] at he'; cases he'
          | some o =>
            rw [ho] at he'
            cases o <;> first | (cases he'; done) | skip
            cases he'
            obtain ⟨es', g1, g2⟩ := hr.obj r L _ ha ho
            rw [← g2.len]
            exact gint (by simp [Builtin.len_, ht0, ha0, run_und hu, goInt, getObj_run g1])
theorem capT_run (hX : EnvOk P X) {t rt : Nat} {ts : Array TypeId} {as : Array Value} {x v : AVal} {x' : Value} (hx : VRel α x x') (ht0 : ts[0]? = some t) (ha0 : as[0]? = some x') (he : capT (X.ty.get t) x = some v) :
    Gives P α w (Builtin.cap_ ts rt as) v := by
  cases ht : X.ty.get t with
  | none => rw [ht] at he; cases he
  | some ti =>
    obtain ⟨⟨d, hu, hok, hg⟩, hs0, hz, hc0, hzl, hsm⟩ := hX.ty t ti ht
    obtain ⟨td, sz, zv, ag⟩ := ti
    rw [ht] at he
    simp only [capT] at he
    cases td <;> first | (cases x <;> cases he; done) | skip
    cases d <;> first | exact hok.elim | skip
    cases x <;> first | (cases he; done) | skip
    · cases hx; cases he
      exact gint (by simp [Builtin.cap_, ht0, ha0, run_und hu, goInt])
    · rename_i r off n c ex
      cases ex
      · cases he
      · cases he
        cases hx with
        | sl h hx hc hn ha hr =>
          have := hx rfl; subst this
          exact gint (by simp [Builtin.cap_, ht0, ha0, run_und hu, goInt])
theorem foldI_run {f : Int → Int → Int} {g : Value → Value → Sem Value} {k : IntKind} (hg : ∀ a b, (g (.int k a) (.int k b)) = pure (.int k (f a b))) : ∀ {l : List AVal} {l' : List Value} {a : Int} {v : AVal}, VRels α l l' → foldI f k a l = some v →
    Gives P α w (l'.foldlM g (.int k a)) v
  | [], _, a, v, .nil, he => by cases he; exact .pure (.int k a)
  | x :: l, x' :: l', a, v, .cons hx ht, he => by
    cases x <;> first | (cases he; done) | skip
    rename_i j b
    cases hx
    simp only [foldI, brec, kEq_eq] at he
    by_cases hk : j = k
    · subst hk
      simp at he
      obtain ⟨v', h1, h2⟩ := foldI_run hg ht he
      exact ⟨v', by simp only [List.foldlM_cons, hg, pure_bind]; exact h1, h2⟩
    · simp [hk] at he
theorem minI_eq (a b : Int) : minI a b = if b < a then b else a := by
  unfold minI; rw [brec, ltI_eq]; by_cases h : b < a <;> simp [h]
theorem maxI_eq (a b : Int) : maxI a b = if b > a then b else a := by
  unfold maxI; rw [brec, ltI_eq]; by_cases h : a < b <;> simp [h]
theorem ops_rel (hev : ∀ x, VRel α (ev x) (ρ x)) (a : Array Operand) : VRels α (a.toList.map ev) (a.map ρ).toList := by
  rw [Array.toList_map]; exact VRels.map ev ρ hev _
theorem callRd_run (hX : EnvOk P X) (hr : Rel X α h.get w) (hev : ∀ x, VRel α (ev x) (ρ x)) {c : Call} {rt : Nat} {v : AVal} (he : callRd c.callee X h c.argTypes.toList (c.args.toList.map ev) = some v) :
    ∃ v', (do let d ← resolve ρ c rt; invoke d.target d.args : Sem Next).run P w = .ok (.value v') w ∧ VRel α v v' := by
  obtain ⟨callee, args, tys⟩ := c
  cases callee with
  | invoke => cases he
  | value => cases he
  | builtin b =>
    have he' : bltE X h b tys.toList (args.toList.map ev) = some v := he
    have hrel := ops_rel hev args
    have fin : ∀ {s : Sem Value}, (∀ cs, builtin b tys rt cs (args.map ρ) = (do pure (.value (← s)))) → Gives P α w s v →
        ∃ v', (do let d ← resolve ρ ⟨.builtin b, args, tys⟩ rt; invoke d.target d.args : Sem Next).run P w = .ok (.value v') w ∧ VRel α v v' := by
      intro s hs ⟨v', h1, h2⟩
      refine ⟨v', ?_, h2⟩
      simp only [resolve, pure_bind, invoke, hs, Sem.run_bind, h1, Result.andThen_ok, Sem.run_pure]
    have one : ∀ {x : AVal}, args.toList.map ev = [x] → ∃ x', (args.map ρ)[0]? = some x' ∧ VRel α x x' := by
      intro x hx
      rw [hx] at hrel
      obtain ⟨v', h1, h2⟩ := hrel.get (i := 0) (a := x) rfl
      exact ⟨v', by rw [← Array.getElem?_toList]; exact h1, h2⟩
    have ty0 : ∀ {t : Nat} {l : List Nat}, tys.toList = t :: l → tys[0]? = some t := by
      intro t l h; rw [← Array.getElem?_toList, h]; rfl
    cases b <;> first | (cases he'; done) | skip
    · generalize ht : tys.toList = ts at he'; generalize ha : args.toList.map ev = as at he'
      cases ts with
      | nil => cases he'
      | cons t ts =>
        cases as with
        | nil => cases he'
        | cons x as =>
          cases as with
          | cons y as => cases he'
          | nil =>
            obtain ⟨x', h1, h2⟩ := one ha
            exact fin (fun cs => rfl) (capT_run hX h2 (ty0 ht) h1 he')
    · generalize ht : tys.toList = ts at he'; generalize ha : args.toList.map ev = as at he'
      cases ts with
      | nil => cases he'
      | cons t ts =>
        cases as with
        | nil => cases he'
        | cons x as =>
          cases as with
          | cons y as => cases he'
          | nil =>
            obtain ⟨x', h1, h2⟩ := one ha
            exact fin (fun cs => rfl) (lenE_run hX hr h2 (ty0 ht) h1 he')
    · generalize ha : args.toList.map ev = as at he' hrel
      cases as with
      | nil => cases he'
      | cons x as =>
        cases x <;> first | (cases he'; done) | skip
        rename_i k a
        generalize hl : (args.map ρ).toList = l at hrel
        cases hrel with
        | cons hx ht =>
          cases hx
          refine fin (s := Builtin.max_ tys rt (args.map ρ)) (fun cs => rfl) ?_
          unfold Builtin.max_
          rw [hl]
          exact foldI_run (fun a b => by simp only [Builtin.max2, maxI_eq]) ht he'
    · generalize ha : args.toList.map ev = as at he' hrel
      cases as with
      | nil => cases he'
      | cons x as =>
        cases x <;> first | (cases he'; done) | skip
        rename_i k a
        generalize hl : (args.map ρ).toList = l at hrel
        cases hrel with
        | cons hx ht =>
          cases hx
          refine fin (s := Builtin.min_ tys rt (args.map ρ)) (fun cs => rfl) ?_
          unfold Builtin.min_
          rw [hl]
          exact foldI_run (fun a b => by simp only [Builtin.min2, minI_eq]) ht he'
theorem mapO_rel (hev : ∀ x, VRel α (ev x) (ρ x)) (o : Option Operand) : ORl α (mapO ev o) (o.map ρ) := by
  cases o with
  | none => trivial
  | some x => exact hev x
/-- what reads at most gives what the evaluator says, and leaves the world as it is -/
theorem rd_run (hX : EnvOk P X) (hr : Rel X α h.get w) (hev : ∀ x, VRel α (ev x) (ρ x)) {o : Oper} {v : AVal} (he : rdE o.op X ev h = some v) :
    ∃ v', (execOp ρ o).run P w = .ok (.value v') w ∧ VRel α v v' := by
  have fin : ∀ {s : Sem Value}, execOp ρ o = (do pure (.value (← s))) → Gives P α w s v → ∃ v', (execOp ρ o).run P w = .ok (.value v') w ∧ VRel α v v' := by
    intro s hs ⟨v', h1, h2⟩
    exact ⟨v', by rw [hs]; simp only [Sem.run_bind, h1, Result.andThen_ok, Sem.run_pure], h2⟩
  obtain ⟨dst, op, ty, pos, guard, after⟩ := o
  cases op <;> first | (cases he; done) | skip
  case move x => cases he; exact ⟨_, rfl, hev x⟩
  case assign x => cases he; exact ⟨_, rfl, hev x⟩
  case pick c a b =>
    have he' : pickE (ev c) (ev a) (ev b) = some v := he
    have hc := hev c
    cases hcv : ev c <;> rw [hcv] at he' hc <;> first | (cases he'; done) | skip
    rename_i q
    cases hcr : ρ c <;> rw [hcr] at hc <;> first | (cases hc; done) | skip
    cases hc
    cases q
    · cases he'; exact ⟨_, by simp [execOp, hcr, asBool], hev b⟩
    · cases he'; exact ⟨_, by simp [execOp, hcr, asBool], hev a⟩
  case build t parts => exact fin (s := Instr.build t (parts.map fun (i, x) => (i, ρ x))) rfl (buildE_run hX hev he)
  case load t a =>
    have he' : loadA (ev a) X h t = some v := he
    have ha := hev a
    cases hav : ev a <;> rw [hav] at he' ha <;> first | (cases he'; done) | skip
    rename_i r off
    generalize har : ρ a = a' at ha
    cases ha with
    | @ptr _ _ L hL =>
      obtain ⟨v', h1, h2⟩ := loadVar_run hX hr hL he'
      refine fin (s := Instr.loadAt t (ρ a)) rfl ⟨v', ?_, h2⟩
      rw [har]
      simp [Instr.loadAt, Instr.sureAddr, h1]
  case nilCheck x =>
    have he' : nilE (ev x) = some v := he
    have hx := hev x
    cases hxv : ev x <;> rw [hxv] at he' hx <;> first | (cases he'; done) | skip
    · generalize hxr : ρ x = x' at hx
      cases hx with
      | ptr hL => cases he'; exact ⟨_, by simp only [execOp, hxr]; rfl, .ptr hL⟩
    · rename_i fn a b
      cases fn <;> first | (cases he'; done) | skip
      generalize hxr : ρ x = x' at hx
      cases hx with
      | func hy hf hc => cases he'; exact ⟨_, by simp only [execOp, hxr]; rfl, .func hy hf hc⟩
    · generalize hxr : ρ x = x' at hx
      cases hx with
      | iface hL => cases he'; exact ⟨_, by simp only [execOp, hxr]; rfl, .iface hL⟩
  case binOp op t x y c => exact fin (s := do eqGuard op t x y (ρ x) (ρ y); binOp op t (ρ x) (ρ y)) rfl (binK_run hX hr (hev x) (hev y) he)
  case unOp op t x => exact fin (s := Op.unary op (ρ x)) rfl (unE_run (hev x) he)
  case convert a b x => exact fin (s := convert a b (ρ x)) rfl (convE_run hX hr (hev x) he)
  case makeInterface t x =>
    refine fin (s := Instr.makeInterface t (ρ x)) rfl ?_
    have he' : mkIfD (X.ty.get t) t (ev x) = some v := he
    cases ht : X.ty.get t with
    | none => rw [ht] at he'; cases he'
    | some ti =>
      obtain ⟨⟨d, hu, hok, hg⟩, hs0, hz, hc0, hzl, hsm⟩ := hX.ty t ti ht
      obtain ⟨td, sz, zv, ag⟩ := ti
      rw [ht] at he'
      have hv : v = .iface t (ev x) ∧ ∀ l, d ≠ .interface l := by
        cases td <;> first | (cases he'; done) | (cases he'; exact ⟨rfl, fun l e => by subst e; exact hok.elim⟩)
      obtain ⟨rfl, hn⟩ := hv
      refine ⟨.iface t (ρ x), ?_, .iface (hev x)⟩
      unfold Instr.makeInterface
      simp only [Sem.run_bind, run_und hu, Result.andThen_ok]
      cases d <;> first | exact absurd rfl (hn _) | rfl
  case makeFunc fn a b =>
    have he' : mkFnE fn (a.toList.map ev) (b.toList.map ev) = some v := he
    cases fn <;> first | (cases he'; done) | (cases he'; exact ⟨_, rfl, .func (by simp) (ops_rel hev a) (ops_rel hev b)⟩)
  case slice t x lo hi mx => exact fin (s := Instr.sliceAt t (ρ x) (lo.map ρ) (hi.map ρ) (mx.map ρ)) rfl (sliceE_run hX hr (hev x) (mapO_rel hev lo) (mapO_rel hev hi) (mapO_rel hev mx) he)
  case fieldAddr t x f => exact fin (s := Instr.fieldAt t (ρ x) f) rfl (fieldAddrE_run hX (hev x) he)
  case field t x f => exact fin (s := Instr.field t (ρ x) f) rfl (fieldE_run hX (hev x) he)
  case indexAddr t x i => exact fin (s := Instr.indexAt t (ρ x) (ρ i)) rfl (indexAddrE_run hX (hev x) (hev i) he)
  case index t x i => exact fin (s := Instr.index t (ρ x) (ρ i)) rfl (indexE_run hX (hev x) (hev i) he)
  case lookup t x i ok => exact fin (s := Instr.lookup t (ρ x) (ρ i) ok) rfl (lookupE_run hX hr (hev x) (hev i) he)
  case entry it => exact fin (s := Instr.entry (ρ it)) rfl (entryE_run hr (hev it) he)
  case typeAssert x t a ok => exact fin (s := Instr.typeAssert (ρ x) t a ok) rfl (typeAssertE_run hX (hev x) he)
  case extract t i =>
    refine fin (s := Instr.extract (ρ t) i) rfl ?_
    have he' : extrE (ev t) i = some v := he
    have hx := hev t
    cases hxv : ev t <;> rw [hxv] at he' hx <;> first | (cases he'; done) | skip
    rename_i l
    generalize hxr : ρ t = x' at hx
    cases hx with
    | @tup _ c hl =>
      have he'' : nth l i = some v := he'
      rw [nth_eq] at he''
      obtain ⟨v', h1, h2⟩ := hl.get he''
      refine ⟨v', ?_, h2⟩
      have : c[i]? = some v' := by rw [← Array.getElem?_toList]; exact h1
      simp [Instr.extract, this]
  case call c => exact callRd_run hX hr hev he
end
end Go.Ev
