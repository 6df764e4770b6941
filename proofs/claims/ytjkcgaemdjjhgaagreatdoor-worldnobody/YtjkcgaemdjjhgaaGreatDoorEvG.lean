/-
  Closed checks that tables are a program's; functions without a body; a long run in parts; what a run leaves as it was.
-/
import Derived.Test.YtjkcgaemdjjhgaaGreatDoorEvF
import Derived.KernelRfl
namespace Go.Ev
open Go Go.Lib
/-! ### Are the tables the program's? By computing. -/
noncomputable def sizeB (P : Program) (t n : Nat) : Bool := match P.info? t with | some i => Nat.beq i.size n | none => false
noncomputable def aggB (P : Program) (t : Nat) (b : Bool) : Bool := match P.underlying t with | some d => eqB (isAggD d) b | none => false
noncomputable def notBad : AVal → Bool
  | .bad => false
  | _ => true
noncomputable def zeroB (P : Program) (t : Nat) (zv : AVal) : Bool := match P.info? t with | some i => (match i.zero with | some z => beqF 20 (ofV z) zv && notBad zv | none => false) | none => false
noncomputable def fieldsB (P : Program) : List FD → List Field → Bool
  | [], [] => true
  | fd :: l, f :: m => Nat.beq f.offset fd.off && sizeB P f.type fd.size && aggB P f.type fd.agg && fieldsB P l m
  | _, _ => false
noncomputable def pkB : PK → TypeDesc → Bool
  | .b, .bool => true
  | .i, .int _ => true
  | .s, .string => true
  | _, _ => false
noncomputable def undB (P : Program) (t : Nat) (f : TypeDesc → Bool) : Bool := match P.underlying t with | some d => f d | none => false
noncomputable def pksB (P : Program) : List PK → List Field → Nat → Bool
  | [], [], _ => true
  | p :: l, f :: m, n => !(f.name == "_") && Nat.beq f.offset n && undB P f.type (pkB p) && pksB P l m (n + 1)
  | _, _, _ => false
noncomputable def isU8 : TypeDesc → Bool
  | .int .u8 => true
  | _ => false
noncomputable def tdB (P : Program) (t : Nat) : TD → TypeDesc → Bool
  | .bool, .bool => true
  | .int k, .int j => kEq k j
  | .str, .string => true
  | .ptr e, .pointer e' => Nat.beq e e'
  | .slice e z b, .slice e' => Nat.beq e e' && sizeB P e z && (!b || undB P e isU8)
  | .arr n e z a, .array n' e' => Nat.beq n n' && Nat.beq e e' && sizeB P e z && aggB P e a
  | .map p zv, .map k e => (match p with | some q => undB P k (pkB q) | none => true) && zeroB P e zv
  | .struct fs p, .struct gs => fieldsB P fs gs.toList && (match p with | some ps => !P.eqGuardType P.depth t && !P.stoodInHeld t && pksB P ps gs.toList 0 | none => true)
  | .func, .func _ _ _ => true
  | .iface, .interface _ => true
  | .uptr, .unsafePointer => true
  | .other, .interface _ => false
  | .other, _ => true
  | _, _ => false
noncomputable def tiB (P : Program) (t : Nat) (i : TI) : Bool := match P.info? t with
  | some j => undB P t (fun d => tdB P t i.d d && eqB (isAggD d) i.agg && (!plainD d || j.comparable)) && sizeB P t i.size && zeroB P t i.zv && Nat.beq (len i.zv.cells) i.size && Nat.ble j.bytes 1048576
  | none => false
section
variable {P : Program} {X : Env}
theorem sizeB_ok {t n : Nat} (h : sizeB P t n = true) : sizeIs P t n := by
  unfold sizeB at h
  cases hi : P.info? t with
  | none => rw [hi] at h; cases h
  | some i => rw [hi] at h; exact ⟨i, hi, Nat.eq_of_beq_eq_true h⟩
theorem undB_ok {t : Nat} {f : TypeDesc → Bool} (h : undB P t f = true) : ∃ d, P.underlying t = some d ∧ f d = true := by
  unfold undB at h
  cases hu : P.underlying t with
  | none => rw [hu] at h; cases h
  | some d => rw [hu] at h; exact ⟨d, rfl, h⟩
theorem eqB_ok {a b : Bool} (h : eqB a b = true) : a = b := by rw [eqB_eq] at h; simpa using h
theorem aggB_ok {t : Nat} {b : Bool} (h : aggB P t b = true) : aggIs P t b := by
  unfold aggB at h
  cases hu : P.underlying t with
  | none => rw [hu] at h; cases h
  | some d => rw [hu] at h; exact ⟨d, hu, eqB_ok h⟩
theorem zeroB_ok {t : Nat} {zv : AVal} (h : zeroB P t zv = true) : zeroIs P t zv := by
  unfold zeroB at h
  cases hi : P.info? t with
  | none => rw [hi] at h; cases h
  | some i =>
    simp only [hi] at h
    cases hz : i.zero with
    | none => simp only [hz] at h; cases h
    | some z =>
      simp only [hz, Bool.and_eq_true] at h
      have := beqF_spec _ _ _ h.1
      refine ⟨i, z, hi, hz, fun α => by rw [← this]; exact ofV_rel α z, ?_⟩
      rintro rfl; cases h.2
theorem fieldsB_ok : ∀ {l : List FD} {m : List Field}, fieldsB P l m = true → FieldsOk P l m
  | [], [], _ => .nil
  | [], _ :: _, h => by cases h
  | _ :: _, [], h => by cases h
  | fd :: l, f :: m, h => by
    simp only [fieldsB, Bool.and_eq_true] at h
    exact .cons (Nat.eq_of_beq_eq_true h.1.1.1) (sizeB_ok h.1.1.2) (aggB_ok h.1.2) (fieldsB_ok h.2)
theorem pkB_ok {p : PK} {d : TypeDesc} (h : pkB p d = true) : pkIs p d := by
  cases p <;> cases d <;> first | trivial | cases h
theorem pksB_ok : ∀ {l : List PK} {m : List Field} {n : Nat}, pksB P l m n = true → PKs P l m n
  | [], [], n, _ => .nil n
  | [], _ :: _, _, h => by cases h
  | _ :: _, [], _, h => by cases h
  | p :: l, f :: m, n, h => by
    simp only [pksB, Bool.and_eq_true] at h
    obtain ⟨d, h1, h2⟩ := undB_ok h.1.2
    exact .cons (by have := h.1.1.1; simpa using this) (Nat.eq_of_beq_eq_true h.1.1.2) ⟨d, h1, pkB_ok h2⟩ (pksB_ok h.2)
theorem tdB_ok {t : Nat} {td : TD} {d : TypeDesc} (h : tdB P t td d = true) : TDok P t td d := by
  cases td
  case bool => cases d <;> first | trivial | cases h
  case int k =>
    cases d <;> first | (cases h; done) | skip
    rename_i j
    have h' : kEq k j = true := h
    rw [kEq_eq] at h'
    exact (by simpa using h' : k = j)
  case str => cases d <;> first | trivial | cases h
  case ptr e =>
    cases d <;> first | (cases h; done) | skip
    exact Nat.eq_of_beq_eq_true h
  case slice e z b =>
    cases d <;> first | (cases h; done) | skip
    simp only [tdB, Bool.and_eq_true] at h
    refine ⟨Nat.eq_of_beq_eq_true h.1.1, sizeB_ok h.1.2, fun hb => ?_⟩
    subst hb
    obtain ⟨d', h1, h2⟩ := undB_ok (P := P) (t := e) (f := isU8) (by simpa using h.2)
    rw [h1]
    cases d' <;> first | (cases h2; done) | skip
    rename_i k
    cases k <;> first | rfl | cases h2
  case arr n e z a =>
    cases d <;> first | (cases h; done) | skip
    simp only [tdB, Bool.and_eq_true] at h
    exact ⟨Nat.eq_of_beq_eq_true h.1.1.1, Nat.eq_of_beq_eq_true h.1.1.2, sizeB_ok h.1.2, aggB_ok h.2⟩
  case map p zv =>
    cases d <;> first | (cases h; done) | skip
    simp only [tdB, Bool.and_eq_true] at h
    refine ⟨fun q hq => ?_, zeroB_ok h.2⟩
    subst hq
    obtain ⟨d', h1, h2⟩ := undB_ok h.1
    exact ⟨d', h1, pkB_ok h2⟩
  case struct fs p =>
    cases d <;> first | (cases h; done) | skip
    simp only [tdB, Bool.and_eq_true] at h
    refine ⟨fieldsB_ok h.1, fun ps hps => ?_⟩
    subst hps
    have h2 := h.2
    simp only [Bool.and_eq_true, Bool.not_eq_true'] at h2
    exact ⟨h2.1.1, h2.1.2, pksB_ok h2.2⟩
  case func => cases d <;> first | trivial | cases h
  case iface => cases d <;> first | trivial | cases h
  case uptr => cases d <;> first | trivial | cases h
  case other => cases d <;> first | trivial | cases h
theorem tiB_ok {t : Nat} {i : TI} (h : tiB P t i = true) : TIok P t i := by
  unfold tiB at h
  cases hj : P.info? t with
  | none => rw [hj] at h; cases h
  | some j =>
    simp only [hj, Bool.and_eq_true] at h
    obtain ⟨⟨⟨⟨h1, h2⟩, h3⟩, h4⟩, h5⟩ := h
    obtain ⟨d, k1, k2⟩ := undB_ok h1
    simp only [Bool.and_eq_true] at k2
    refine ⟨⟨d, k1, tdB_ok k2.1.1, eqB_ok k2.1.2⟩, sizeB_ok h2, zeroB_ok h3, fun d' hd hp => ?_, ?_, j, hj, Nat.le_of_ble_eq_true h5⟩
    · rw [k1] at hd; cases hd
      refine ⟨j, hj, ?_⟩
      have := k2.2
      rw [hp] at this; simpa using this
    · rw [← len_eq]; exact Nat.eq_of_beq_eq_true h4
noncomputable def optB {β : Type} (f : β → Bool) : Option β → Bool
  | some x => f x
  | none => true
/-- each entry of a tree -/
noncomputable def allT {β : Type} (f : Nat → β → Bool) (t : Tr β) : (Nat → Nat) → Bool :=
  @Tr.rec β (fun _ => (Nat → Nat) → Bool) (fun _ => true)
    (fun v _ _ l r g => optB (f (g 0)) v && l (fun k => g (2 * k + 1)) && r (fun k => g (2 * k + 2))) t
theorem allT_ok {β : Type} {f : Nat → β → Bool} : ∀ {t : Tr β} {g : Nat → Nat}, allT f t g = true → ∀ k x, t.get k = some x → f (g k) x = true
  | .nil, g, _, k, x, h => by cases h
  | .node v l r, g, h, k, x, hk => by
    have h' : (optB (f (g 0)) v && allT f l (fun k => g (2 * k + 1)) && allT f r (fun k => g (2 * k + 2))) = true := h
    simp only [Bool.and_eq_true] at h'
    obtain ⟨⟨h1, h2⟩, h3⟩ := h'
    rw [Tr.get_node] at hk
    cases h0 : Nat.beq k 0
    · rw [h0] at hk
      have hk0 := ne_of_beq h0
      simp only [cond_false] at hk
      cases hm : Nat.beq (k % 2) 1
      · rw [hm] at hk
        have hm0 := ne_of_beq hm
        have := allT_ok h3 _ _ hk
        rw [show 2 * (k / 2 - 1) + 2 = k by omega] at this; exact this
      · rw [hm] at hk
        have hm0 := Nat.eq_of_beq_eq_true hm
        have := allT_ok h2 _ _ hk
        rw [show 2 * (k / 2) + 1 = k by omega] at this; exact this
    · rw [h0] at hk
      have hk0 := Nat.eq_of_beq_eq_true h0
      subst hk0
      simp only [cond_true] at hk
      subst hk; exact h1
end
end Go.Ev
namespace Go.Ev
open Go Go.Lib
section
variable {P : Program} {X : Env}
theorem ext_run {g : Nat} {fn : Func} {impl : Array Value → Sem Value} {args : Array Value} {w w' : World} {v : Value} (h : P.funcs[g]? = some fn) (hn : (fn.name == "runtime.NumGoroutine") = false) (hb : fn.body = none) (h1 : Extern.findNext fn = none) (h2 : Extern.find fn = some impl)
    (hi : (impl args).run P w = .ok v w') : (callFunc g args).run P w = .ok (.value v) w' := by
  unfold callFunc
  simp only [Sem.run_bind, run_program, Result.andThen_ok, h, hn, hb, Option.isNone_none, Bool.false_eq_true, if_false, if_true, h1, h2]
  have hm : (mark (.extern g)).run P w = .ok () w := rfl
  simp only [hm, Result.andThen_ok, Sem.run_bind, hi, Sem.run_pure]
theorem clone_run {args : List AVal} {s s' : St} {v : AVal} (he : extE .clone args s = some (v, s')) : s.next ≤ s'.next ∧ ∀ α w (args' : Array Value), Rel X α s.heap.get w → Ok s → Fresh α s.next s'.next → VRels α args args'.toList →
    ∃ v' w' β, (Extern.MapsClone.clone args').run P w = .ok v' w' ∧ Step X α β s s' w w' ∧ VRel β v v' := by
  match args, he with
  | [.iface t (.map r)], he =>
    simp only [extE] at he
    cases hr : s.heap.get r with
    | none => rw [hr] at he; cases he
    | some o =>
      rw [hr] at he
      cases o <;> first | (cases he; done) | skip
      rename_i es c
      cases he
      refine ⟨Nat.le_succ _, fun α w args' hrel ho hf hargs => ?_⟩
      obtain ⟨args'⟩ := args'
      cases hargs with
      | cons h1 h2 =>
        cases h2
        cases h1 with
        | iface h3 =>
          cases h3 with
          | @map _ L hL =>
            obtain ⟨es', g1, g2⟩ := hrel.obj r L _ hL hr
            have hfr := hf s.next (Nat.le_refl _) (Nat.lt_succ_self _)
            refine ⟨.iface t (.map (some w.heap.size)), pushW w (.map es' c), updA α s.next ⟨w.heap.size, 0, 0, 0⟩, ?_, Step.new (L := ⟨w.heap.size, 0, 0, 0⟩) hrel ho hf rfl rfl rfl rfl ⟨es', pushW_new w _, g2.mono (AlLe.upd _ hfr)⟩ (fun q hq => by cases hq), .iface (.map (L := ⟨w.heap.size, 0, 0, 0⟩) (updA_same _ _ _))⟩
            have e : Extern.MapsClone.clone ⟨[.iface t (.map (some L.b))]⟩ = (do
                let .map entries clock ← getObj L.b | stuck "maps.clone: a map expected"
                pure (.iface t (.map (some (← newObj (.map entries clock)))))) := rfl
            rw [e]
            simp only [Sem.run_bind, getObj_run g1 (by simp), Result.andThen_ok, newObj_run, Sem.run_pure]
theorem typeOf_run {rt G : Nat} {nm : String} (hrt : P.cutTypes.find? (·.1 == "internal/reflectlite.rtype") = some (nm, rt)) (hG : P.globals.size = G) (hle : G ≤ 1023) {args : List AVal} {s s' : St} {v : AVal} (he : extE (.typeOf rt G) args s = some (v, s')) :
    s.next ≤ s'.next ∧ ∀ α w (args' : Array Value), Rel X α s.heap.get w → Glob α → Ok s → Fresh α s.next s'.next → VRels α args args'.toList →
    ∃ v' w' β, (Extern.ReflectliteType.typeOf args').run P w = .ok v' w' ∧ Step X α β s s' w w' ∧ VRel β v v' := by
  match args, he with
  | [.inil], he =>
    cases he
    refine ⟨Nat.le_refl _, fun α w args' hr hg ho hf hargs => ?_⟩
    obtain ⟨args'⟩ := args'
    cases hargs with
    | cons h1 h2 => cases h2; cases h1; exact ⟨_, w, α, rfl, Step.refl hr ho, .inil⟩
  | [.iface t u], he =>
    cases he
    refine ⟨Nat.le_refl _, fun α w args' hr hg ho hf hargs => ?_⟩
    obtain ⟨args'⟩ := args'
    cases hargs with
    | cons h1 h2 =>
      cases h2
      cases h1 with
      | @iface _ _ u' hu =>
        obtain ⟨L, l1, l2, l3⟩ := hg G hle
        refine ⟨.iface rt (.agg #[.pointer (some ⟨G, t, none⟩)]), w, α, ?_, Step.refl hr ho, .iface (.agg (.cons ?_ .nil))⟩
        · have e : Extern.ReflectliteType.typeOf ⟨[.iface t u']⟩ = Extern.ReflectliteType.toType t := rfl
          rw [e]
          simp only [Extern.ReflectliteType.toType, cutType, Extern.Rtype.handle, Sem.run_bind, run_program, Result.andThen_ok, hrt, Sem.run_pure, typeHandle, hG]
        · have := VRel.ptr (off := t) l1
          rw [l2, l3, Nat.zero_add] at this; exact this
theorem idxE_find (b : Nat) (s : ByteArray) (hb : b < 256) : ∀ (l : List Nat) (i : Nat), (s.data.toList.drop i).map (·.toNat) = l → idxE b l i = (match (List.range' i l.length).find? fun j => s[j]! == UInt8.ofNat b with | some j => (Int.ofNat j) | none => -1)
  | [], i, h => by simp [idxE]
  | a :: l, i, h => by
    have hlt : i < s.data.toList.length := by
      rcases Nat.lt_or_ge i s.data.toList.length with h1 | h1
      · exact h1
      · rw [List.drop_eq_nil_of_le h1] at h; cases h
    rw [List.drop_eq_getElem_cons hlt, List.map_cons] at h
    injection h with h1 h2
    have hget : s[i]! = s.data.toList[i] := by
      have h9 : i < s.size := by simpa using hlt
      rw [getElem!_pos s i h9]
      show s.data[i] = _
      simp
    simp only [idxE, brec, List.length_cons, List.range'_succ, List.find?_cons]
    rw [hget]
    by_cases hc : a = b
    · subst hc
      have h3 : (s.data.toList[i] == UInt8.ofNat a) = true := by
        rw [beq_iff_eq, ← h1]; simp
      rw [h3, Nat.beq_refl]; rfl
    · have h3 : (s.data.toList[i] == UInt8.ofNat b) = false := by
        rw [beq_eq_false_iff_ne]
        intro e; apply hc; rw [← h1, e]; simp; omega
      rw [h3, beq_false hc]
      exact idxE_find b s hb l (i + 1) h2
theorem idx_run {args : List AVal} {s s' : St} {v : AVal} (he : extE .idx args s = some (v, s')) :
    s.next ≤ s'.next ∧ ∀ α w (args' : Array Value), Rel X α s.heap.get w → Ok s → VRels α args args'.toList →
    ∃ v' w' β, (Extern.BytealgIndexByte.indexByte args').run P w = .ok v' w' ∧ Step X α β s s' w w' ∧ VRel β v v' := by
  match args, he with
  | [.str l, .int .u8 (.ofNat b)], he =>
    simp only [extE, brec] at he
    cases hb : Nat.ble b 255 <;> rw [hb] at he <;> cases he
    have hb' := Nat.le_of_ble_eq_true hb
    refine ⟨Nat.le_refl _, fun α w args' hr ho hargs => ?_⟩
    obtain ⟨args'⟩ := args'
    cases hargs with
    | cons h1 h2 =>
      cases h2 with
      | cons h2 h3 =>
        cases h3; cases h2
        cases h1 with
        | @str _ st hst =>
          have hfind := idxE_find b st (by omega) l 0 (by simpa using hst)
          have hlen : l.length = st.size := (toList_rel hst).symm
          have e : Extern.BytealgIndexByte.indexByte ⟨[.string st, .int .u8 (Int.ofNat b)]⟩ = (match (List.range st.size).find? fun i => st[i]! == (Int.ofNat b).toNat.toUInt8 with
              | some i => pure (goInt i)
              | none => pure (goInt (-1)) : Sem Value) := rfl
          refine ⟨.int .i64 (idxE b l 0), w, α, ?_, Step.refl hr ho, .int _ _⟩
          rw [e, hfind, hlen, List.range_eq_range']
          have hu : (Int.ofNat b).toNat.toUInt8 = UInt8.ofNat b := rfl
          rw [hu]
          cases (List.range' 0 st.size).find? fun j => st[j]! == UInt8.ofNat b <;> rfl
end
end Go.Ev
namespace Go.Ev
open Go Go.Lib
/-! ### Facts of each entry of a tree, and of the tables' lists. -/
inductive TO {β : Type} (Q : Nat → β → Prop) (k : Nat) : Option β → Prop
  | none : TO Q k none
  | some {x : β} (h : Q k x) : TO Q k (some x)
inductive TAll {β : Type} (Q : Nat → β → Prop) : Tr β → (Nat → Nat) → Prop
  | nil {g : Nat → Nat} : TAll Q .nil g
  | node {v : Option β} {l r : Tr β} {g : Nat → Nat} (h : TO Q (g 0) v) (hl : TAll Q l fun k => g (2 * k + 1)) (hr : TAll Q r fun k => g (2 * k + 2)) : TAll Q (.node v l r) g
theorem TAll.get {β : Type} {Q : Nat → β → Prop} : ∀ {t : Tr β} {g : Nat → Nat}, TAll Q t g → ∀ k x, t.get k = some x → Q (g k) x
  | _, _, .nil, k, x, h => by cases h
  | _, _, @TAll.node _ _ v l r g h hl hr, k, x, hk => by
    rw [Tr.get_node] at hk
    cases h0 : Nat.beq k 0
    · rw [h0] at hk
      have hk0 := ne_of_beq h0
      simp only [cond_false] at hk
      cases hm : Nat.beq (k % 2) 1
      · rw [hm] at hk
        have hm0 := ne_of_beq hm
        have := TAll.get hr _ _ hk
        rw [show 2 * (k / 2 - 1) + 2 = k by omega] at this; exact this
      · rw [hm] at hk
        have hm0 := Nat.eq_of_beq_eq_true hm
        have := TAll.get hl _ _ hk
        rw [show 2 * (k / 2) + 1 = k by omega] at this; exact this
    · rw [h0] at hk
      have hk0 := Nat.eq_of_beq_eq_true h0
      subst hk0
      simp only [cond_true] at hk
      subst hk
      cases h with | some h => exact h
section
variable {P : Program} {X : Env}
def FnAt (P : Program) (k : Nat) (f : Func) : Prop := P.funcs[k]? = some f ∧ f.name ≠ "runtime.NumGoroutine"
theorem fnAt {k : Nat} {f : Func} (h : P.funcs[k]? = some f) (hn : (f.name == "runtime.NumGoroutine") = false) : FnAt P k f := ⟨h, fun e => by rw [e] at hn; simp at hn⟩
theorem mtFind_mem {t g : Nat} {name : String} : ∀ {l : List (Nat × String × Nat)}, mtFind l t name = some g → (t, name, g) ∈ l
  | [], h => by cases h
  | (u, n, q) :: l, h => by
    simp only [mtFind, brec] at h
    cases hc : (Nat.beq u t && (n == name))
    · rw [hc] at h; exact List.mem_cons_of_mem _ (mtFind_mem h)
    · rw [hc] at h
      simp only [cond_true, Option.some.injEq] at h
      simp only [Bool.and_eq_true, beq_iff_eq] at hc
      obtain ⟨h1, h2⟩ := hc
      have := Nat.eq_of_beq_eq_true h1
      subst h; subst h2; subst this; exact List.mem_cons_self
theorem taFind_mem {a t : Nat} {b : Bool} : ∀ {l : List (Nat × Nat × Bool)}, taFind l a t = some b → (a, t, b) ∈ l
  | [], h => by cases h
  | (u, n, q) :: l, h => by
    simp only [taFind, brec] at h
    cases hc : (Nat.beq u a && Nat.beq n t)
    · rw [hc] at h; exact List.mem_cons_of_mem _ (taFind_mem h)
    · rw [hc] at h
      simp only [cond_true, Option.some.injEq] at h
      simp only [Bool.and_eq_true] at hc
      obtain ⟨h1, h2⟩ := hc
      have := Nat.eq_of_beq_eq_true h1
      have := Nat.eq_of_beq_eq_true h2
      subst h; subst_vars; exact List.mem_cons_self
noncomputable def plainRecv : TypeDesc → Bool → Bool
  | .pointer _, b => b
  | _, b => !b
noncomputable def mtB (P : Program) (t : Nat) (name : String) (g : Nat) : Bool := match P.info? t, P.underlying t with
  | some i, some d => (match i.methods.find? (·.name == name) with
    | some m => (match m.func with
      | some (f, pr) => m.path.isEmpty && Nat.beq f g && plainRecv d pr
      | none => false)
    | none => false)
  | _, _ => false
theorem mtB_ok {t g : Nat} {name : String} (h : mtB P t name g = true) (v : Value) (w : World) : (method (P.types.size + Made.depth) t v name).run P w = .ok (g, v) w := by
  unfold mtB at h
  cases hi : P.info? t with
  | none => rw [hi] at h; cases h
  | some i =>
    cases hu : P.underlying t with
    | none => rw [hi, hu] at h; cases h
    | some d =>
      simp only [hi, hu] at h
      cases hm : i.methods.find? (·.name == name) with
      | none => rw [hm] at h; cases h
      | some m =>
        simp only [hm] at h
        cases hf : m.func with
        | none => rw [hf] at h; cases h
        | some q =>
          obtain ⟨f, pr⟩ := q
          simp only [hf, Bool.and_eq_true] at h
          obtain ⟨⟨h1, h2⟩, h3⟩ := h
          have h2 := Nat.eq_of_beq_eq_true h2
          subst h2
          have hp : m.path.toList = [] := by simpa using h1
          have hd : P.types.size + Made.depth = (P.types.size + Made.depth - 1) + 1 := by
            have : 0 < Made.depth := by decide
            omega
          rw [hd]
          have hti : (typeInfo t).run P w = .ok i w := by simp [typeInfo, hi]
          unfold method
          simp only [Sem.run_bind, hti, Result.andThen_ok, hm, hp, follow, Sem.run_pure, hf]
          unfold receiverAt
          simp only [Sem.run_bind, run_und hu, Result.andThen_ok]
          cases d <;> cases pr <;> first | (cases h3; done) | rfl
noncomputable def hasAll (want : List (String × TypeId)) (got : Array Method) : Bool := want.all fun x => got.any fun m => m.name == x.1 && m.sig == x.2
theorem least_none {l : List String} : (Instr.least l).isNone = l.isEmpty := by cases l <;> rfl
theorem missing_none (want : Array (String × TypeId)) (got : Array Method) : (Instr.missingMethod want got).isNone = hasAll want.toList got := by
  unfold Instr.missingMethod hasAll
  generalize hm : (want.toList.filter fun x => !got.any fun m => m.name == x.1 && m.sig == x.2) = l
  have h1 : (want.toList.all fun x => got.any fun m => m.name == x.1 && m.sig == x.2) = l.isEmpty := by
    rw [← hm]
    generalize want.toList = wl
    induction wl with
    | nil => rfl
    | cons x wl ih =>
      rw [List.all_cons, ih, List.filter_cons]
      cases hx : (got.any fun m => m.name == x.1 && m.sig == x.2) <;> rfl
  rw [h1]
  have h2 : ∀ (m : List String) (p : String → Bool) (f : String → String), ((Instr.least (m.partition p).2 <|> Instr.least ((m.partition p).1.map f) : Option String)).isNone = m.isEmpty := fun m p f => by
    rw [List.partition_eq_filter_filter]
    have h3 : ∀ a b : Option String, (a <|> b).isNone = (a.isNone && b.isNone) := fun a b => by cases a <;> cases b <;> rfl
    rw [h3, least_none, least_none, Bool.eq_iff_iff]
    simp only [Bool.and_eq_true, List.isEmpty_iff, List.map_eq_nil_iff, List.filter_eq_nil_iff, Function.comp]
    constructor
    · rintro ⟨a, b⟩
      cases m with
      | nil => rfl
      | cons x m =>
        exfalso
        have a := a x List.mem_cons_self
        have b := b x List.mem_cons_self
        cases hp : p x <;> simp [hp] at a b
    · rintro rfl; simp
  show ((Instr.least ((l.map (·.1)).partition _).2 <|> Instr.least (((l.map (·.1)).partition _).1.map _) : Option String)).isNone = _
  rw [h2]
  cases l <;> rfl
noncomputable def taB (P : Program) (a t : Nat) (b : Bool) : Bool := match P.underlying a, P.info? t with
  | some (.interface want), some info => eqB (hasAll want.toList info.methods) b
  | _, _ => false
theorem taB_ok {a t : Nat} {b : Bool} (h : taB P a t b = true) : ∃ want info, P.underlying a = some (.interface want) ∧ P.info? t = some info ∧ (Instr.missingMethod want info.methods).isNone = b := by
  unfold taB at h
  cases hu : P.underlying a with
  | none => rw [hu] at h; cases h
  | some d =>
    cases hi : P.info? t with
    | none => rw [hu, hi] at h; cases d <;> cases h
    | some i =>
      rw [hu, hi] at h
      cases d <;> first | (cases h; done) | exact ⟨_, i, rfl, rfl, (missing_none _ _).trans (eqB_ok h)⟩
noncomputable def mtsB (P : Program) : List (Nat × String × Nat) → Bool
  | [] => true
  | (t, n, g) :: l => mtB P t n g && mtsB P l
theorem mtsB_mem {t g : Nat} {n : String} : ∀ {l : List (Nat × String × Nat)}, mtsB P l = true → (t, n, g) ∈ l → mtB P t n g = true
  | [], _, h => by cases h
  | (u, m, q) :: l, hb, h => by
    simp only [mtsB, Bool.and_eq_true] at hb
    cases h with
    | head => exact hb.1
    | tail _ h => exact mtsB_mem hb.2 h
noncomputable def tasB (P : Program) : List (Nat × Nat × Bool) → Bool
  | [] => true
  | (a, t, b) :: l => taB P a t b && tasB P l
theorem tasB_mem {a t : Nat} {b : Bool} : ∀ {l : List (Nat × Nat × Bool)}, tasB P l = true → (a, t, b) ∈ l → taB P a t b = true
  | [], _, h => by cases h
  | (u, m, q) :: l, hb, h => by
    simp only [tasB, Bool.and_eq_true] at hb
    cases h with
    | head => exact hb.1
    | tail _ h => exact tasB_mem hb.2 h
/-- THE TABLES ARE THE PROGRAM's, by closed checks. -/
theorem envOk (hty : allT (tiB P) X.ty (fun k => k) = true) (hfn : TAll (FnAt P) X.fn (fun k => k)) (hmt : mtsB P X.mt = true) (hta : tasB P X.ta = true) (hm : P.follows .mixedOrders = true) : EnvOk P X where
  ty := fun t i h => tiB_ok (allT_ok hty t i h)
  fn := fun g f h => hfn.get g f h
  mt := fun _ _ _ h v w => mtB_ok (mtsB_mem hmt (mtFind_mem h)) v w
  ta := fun _ _ _ h => taB_ok (tasB_mem hta (taFind_mem h))
  mixed := hm
/-! ### The functions without a body. -/
def ExtAt (P : Program) (X : Env) (g : Nat) (x : Ext) : Prop := ∀ args s v s', extE x args s = some (v, s') → s.next ≤ s'.next ∧
  ∀ α w (args' : Array Value), Rel X α s.heap.get w → Glob α → Ok s → Fresh α s.next s'.next → VRels α args args'.toList → ∃ v' w' β, (callFunc g args').run P w = .ok (.value v') w' ∧ Step X α β s s' w w' ∧ VRel β v v'
theorem extOk {xt : Tr Ext} (h : TAll (ExtAt P X) xt (fun k => k)) : ExtOk P X xt := fun g x hg => h.get g x hg
theorem tabE_mem {t : Nat} {v : AVal} : ∀ {l : List (Nat × AVal)}, tabE t l = some v → (t, v) ∈ l
  | [], h => by cases h
  | (u, x) :: l, h => by
    simp only [tabE, brec] at h
    cases hc : Nat.beq u t
    · rw [hc] at h; exact List.mem_cons_of_mem _ (tabE_mem h)
    · rw [hc] at h
      simp only [cond_true, Option.some.injEq] at h
      have := Nat.eq_of_beq_eq_true hc
      subst h; subst this; exact List.mem_cons_self
theorem extAt_clone {g : Nat} {fn : Func} (h : P.funcs[g]? = some fn) (hn : (fn.name == "runtime.NumGoroutine") = false) (hb : fn.body = none) (h1 : Extern.findNext fn = none) (h2 : Extern.find fn = some Extern.MapsClone.clone) : ExtAt P X g .clone := fun args s v s' he => by
  obtain ⟨m1, m2⟩ := clone_run (P := P) (X := X) he
  refine ⟨m1, fun α w args' hr hg ho hf hargs => ?_⟩
  obtain ⟨v', w', β, k1, k2, k3⟩ := m2 α w args' hr ho hf hargs
  exact ⟨v', w', β, ext_run h hn hb h1 h2 k1, k2, k3⟩
theorem extAt_idx {g : Nat} {fn : Func} (h : P.funcs[g]? = some fn) (hn : (fn.name == "runtime.NumGoroutine") = false) (hb : fn.body = none) (h1 : Extern.findNext fn = none) (h2 : Extern.find fn = some Extern.BytealgIndexByte.indexByte) : ExtAt P X g .idx := fun args s v s' he => by
  obtain ⟨m1, m2⟩ := idx_run (P := P) (X := X) he
  refine ⟨m1, fun α w args' hr hg ho hf hargs => ?_⟩
  obtain ⟨v', w', β, k1, k2, k3⟩ := m2 α w args' hr ho hargs
  exact ⟨v', w', β, ext_run h hn hb h1 h2 k1, k2, k3⟩
theorem extAt_typeOf {g : Nat} {fn : Func} (h : P.funcs[g]? = some fn) (hn : (fn.name == "runtime.NumGoroutine") = false) (hb : fn.body = none) (h1 : Extern.findNext fn = none) {rt G : Nat} {nm : String} (hrt : P.cutTypes.find? (·.1 == "internal/reflectlite.rtype") = some (nm, rt)) (hG : P.globals.size = G) (hle : G ≤ 1023) (h2 : Extern.find fn = some Extern.ReflectliteType.typeOf) : ExtAt P X g (.typeOf rt G) := fun args s v s' he => by
  obtain ⟨m1, m2⟩ := typeOf_run (P := P) (X := X) hrt hG hle he
  refine ⟨m1, fun α w args' hr hg ho hf hargs => ?_⟩
  obtain ⟨v', w', β, k1, k2, k3⟩ := m2 α w args' hr hg ho hf hargs
  exact ⟨v', w', β, ext_run h hn hb h1 h2 k1, k2, k3⟩
theorem extAt_tab {g : Nat} {fn : Func} (h : P.funcs[g]? = some fn) (hn : (fn.name == "runtime.NumGoroutine") = false) (hb : fn.body = none) (h1 : Extern.findNext fn = none) {G : Nat} {l : List (Nat × AVal)} {impl : Array Value → Sem Value} (hle : G ≤ 1023) (h2 : Extern.find fn = some impl)
    (hl : ∀ t v, (t, v) ∈ l → ∃ v', (∀ w, (impl #[.agg #[.pointer (some ⟨G, t, none⟩)]]).run P w = .ok v' w) ∧ ∀ α, VRel α v v') : ExtAt P X g (.tab G l) := fun args s v s' he => by
  match args, he with
  | [.agg [.ptr q t]], he =>
    have he2 : (bif Nat.beq q G then (match tabE t l with | some v => some (v, s) | none => none) else none) = some (v, s') := by rw [← brec]; exact he
    clear he
    cases hq : Nat.beq q G
    · rw [hq] at he2; cases he2
    · rw [hq] at he2
      have hqG := Nat.eq_of_beq_eq_true hq
      subst hqG
      cases ht : tabE t l with
      | none => rw [ht] at he2; cases he2
      | some u =>
        rw [ht] at he2; cases he2
        refine ⟨Nat.le_refl _, fun α w args' hr hg ho hf hargs => ?_⟩
        obtain ⟨v', k1, k2⟩ := hl t _ (tabE_mem ht)
        obtain ⟨args'⟩ := args'
        cases hargs with
        | cons a1 a2 =>
          cases a2
          cases a1 with
          | @agg _ c hc =>
            obtain ⟨c⟩ := c
            cases hc with
            | cons b1 b2 =>
              cases b2
              cases b1 with
              | @ptr _ _ L hL =>
                obtain ⟨L', l1, l2, l3⟩ := hg q hle
                rw [hL] at l1; cases l1
                refine ⟨v', w, α, ext_run h hn hb h1 h2 ?_, Step.refl hr ho, k2 α⟩
                rw [l2, l3, Nat.zero_add]; exact k1 w
end
end Go.Ev
namespace Go.Ev
open Go Go.Lib
/-! ### A long run in parts. -/
noncomputable def preC : Nat → Code → Code
  | 0, _ => .skip
  | n + 1, .seq x y => .seq x (preC n y)
  | _ + 1, c => c
noncomputable def sufC : Nat → Code → Code
  | 0, c => c
  | n + 1, .seq _ y => sufC n y
  | _ + 1, _ => .skip
theorem evC_seq (x y : Code) (X : Env) (r : Rec) (a : Act) (s : St) : evC (.seq x y) X r a s = thenO (evC y) X r (evC x X r a s) := rfl
theorem evC_skip (X : Env) (r : Rec) (a : Act) (s : St) : evC .skip X r a s = some (.normal, a, s) := rfl
theorem thenO_skip (X : Env) (r : Rec) (o : Out) : thenO (evC .skip) X r o = o := by
  cases o with
  | none => rfl
  | some p => obtain ⟨e, a, s⟩ := p; cases e <;> rfl
theorem thenO_assoc (f g : Env → Rec → Act → St → Out) (X : Env) (r : Rec) (o : Out) : thenO g X r (thenO f X r o) = thenO (fun X r a s => thenO g X r (f X r a s)) X r o := by
  cases o with
  | none => rfl
  | some p => obtain ⟨e, a, s⟩ := p; cases e <;> rfl
theorem evC_cut (X : Env) (r : Rec) : ∀ (n : Nat) (c : Code) (a : Act) (s : St), evC c X r a s = thenO (evC (sufC n c)) X r (evC (preC n c) X r a s)
  | 0, _, _, _ => rfl
  | n + 1, c, a, s => by
    cases c
    case seq x y =>
      show evC (.seq x y) X r a s = thenO (evC (sufC n y)) X r (evC (.seq x (preC n y)) X r a s)
      rw [evC_seq, evC_seq, thenO_assoc]
      have : evC y = fun X r a s => evC y X r a s := rfl
      cases evC x X r a s with
      | none => rfl
      | some p =>
        obtain ⟨e, a1, s1⟩ := p
        cases e <;> first | rfl | exact evC_cut X r n y a1 s1
    all_goals exact (thenO_skip X r _).symm
theorem evC_from {X : Env} {r : Rec} {n : Nat} {c : Code} {a a1 : Act} {s s1 : St} (h : evC (preC n c) X r a s = some (.normal, a1, s1)) : evC c X r a s = evC (sufC n c) X r a1 s1 := by
  rw [evC_cut X r n c a s, h]; rfl
theorem evN_call {X : Env} {xt : Tr Ext} {n g : Nat} {fn : Func} {c : Code} {args : List AVal} {s : St} (hx : xt.get g = none) (hb : bodyOf X g = some (fn, c)) (hl : Nat.ble (len args) fn.ntmps = true) :
    (evN X xt (n + 2)).call (.func (.func g) [] []) args s = leftF X (evN X xt (n + 1)) fn (evC c X (evN X xt n) (actOf args fn.ntmps) s) := by
  show callE X xt (evN X xt (n + 1)) (.func (.func g) [] []) args s = _
  simp only [callE, hx, List.nil_append, List.append_nil, runF, hb, fnF]
  show (@Bool.rec (fun _ => _) none (leftF X (evN X xt (n + 1)) fn ((evN X xt (n + 1)).code c (actOf args fn.ntmps) s)) (Nat.ble (len args) fn.ntmps)) = _
  rw [hl]; rfl
noncomputable def bodyOr (f : Func) : Code := match f.body with | some c => c | none => .skip
/-- the ranges over functions in a code -/
noncomputable def ranges : Code → List (Code × Code)
  | .seq x y => ranges x ++ ranges y
  | .cond _ x y => ranges x ++ ranges y
  | .block _ x => ranges x
  | .loop x => ranges x
  | .scope x => ranges x
  | .rangeFunc _ _ a b => (a, b) :: (ranges a ++ ranges b)
  | _ => []
noncomputable def nthR (l : List (Code × Code)) (i : Nat) : Code × Code := match nth l i with | some p => p | none => (.skip, .skip)
/-- rounds of a loop -/
noncomputable def iterE (X : Env) (xt : Tr Ext) (b : Code) : Nat → Nat → Act → St → Option (Act × St)
  | 0, _, a, s => some (a, s)
  | m + 1, k, a, s => match k with
    | 0 => none
    | k + 1 => (match evC b X (evN X xt (k + 1)) a s with
      | some (.normal, a', s') => iterE X xt b m k a' s'
      | _ => none)
theorem evC_loop (X : Env) (r : Rec) (b : Code) (a : Act) (s : St) : evC (.loop b) X r a s = loopO b r (evC b X r a s) := rfl
theorem iterE_ok {X : Env} {xt : Tr Ext} {b : Code} : ∀ {m k : Nat} {a a' : Act} {s s' : St}, iterE X xt b m (m + k) a s = some (a', s') → evC (.loop b) X (evN X xt (m + k)) a s = evC (.loop b) X (evN X xt k) a' s'
  | 0, k, a, a', s, s', h => by
    cases h; rw [Nat.zero_add]
  | m + 1, k, a, a', s, s', h => by
    rw [show m + 1 + k = (m + k) + 1 by omega] at h ⊢
    simp only [iterE] at h
    rw [evC_loop]
    cases hb : evC b X (evN X xt (m + k + 1)) a s with
    | none => rw [hb] at h; cases h
    | some p =>
      obtain ⟨e, a1, s1⟩ := p
      rw [hb] at h
      cases e <;> first | (cases h; done) | skip
      exact iterE_ok h
noncomputable def fstC : Code → Code
  | .seq x _ => x
  | c => c
noncomputable def sndC : Code → Code
  | .seq _ y => y
  | _ => .skip
noncomputable def loopB : Code → Code
  | .block _ (.loop b) => b
  | _ => .skip
/-- one call's answer for all -/
noncomputable def oneCall (r : Rec) (o : Option (AVal × St)) : Rec := { code := r.code, call := fun _ _ _ => o }
/-! ### What a run leaves of the world: all that was there, as it was. -/
structure Same (w w' : World) : Prop where
  os : w'.os = w.os
  out : w'.output = w.output
  size : w.heap.size ≤ w'.heap.size
  block : ∀ b : Nat, b < w.heap.size → w'.heap[b]? = w.heap[b]?
theorem Same.refl (w : World) : Same w w := ⟨rfl, rfl, Nat.le_refl _, fun _ _ => rfl⟩
theorem Same.trans {a b c : World} (h : Same a b) (k : Same b c) : Same a c := ⟨k.os.trans h.os, k.out.trans h.out, Nat.le_trans h.size k.size, fun x hx => (k.block x (Nat.lt_of_lt_of_le hx h.size)).trans (h.block x hx)⟩
/-- nothing that has a place may be written to -/
def Shut (α : Al) (s : St) : Prop := ∀ r L o, α r = some L → s.heap.get r = some o → ¬ Wr o
theorem Step.world {X : Env} {α β : Al} {s s' : St} {w w' : World} (h : Step X α β s s' w w') (hs : Shut α s) : Same w w' :=
  ⟨h.stp.os, h.stp.out, h.stp.size, fun b hb => h.stp.keep b hb fun r L o ha ho hw => absurd hw (hs r L o ha ho)⟩
end Go.Ev
