/-
  Single operations and calls inside a region do what the evaluator says.
-/
import Derived.Test.YtjkcgaemdjjhgaaGreatDoorEvD
import Derived.RangeFuncLeaves
import Derived.OrdersIn
namespace Go.Ev
open Go Go.Lib
/-! ### Control: the frame of the proof. -/
/-- the fence that lets all in, in a round or not -/
def W (ro : Option Nat) : Fence := { Fence.wide with round := ro }
theorem W_fn (ro : Option Nat) (f : FuncId) : (W ro).fn f := trivial
theorem W_room (ro : Option Nat) (n : Nat) : (W ro).room n := fun _ h => by cases h
theorem callsIn_W {ro : Option Nat} {n m : Nat} {P : Program} {f : FuncId} {args : Array Value} {w : World} {R : Ending → World → Prop} (h : CallsIn Fence.wide n P f args w R) : CallsIn (W ro) m P f args w R :=
  ⟨trivial, fun cs _ => h.2 cs (room_wide _)⟩
theorem roundIn_W {ro : Option Nat} {n m : Nat} {P : Program} {l : Nat} {f : FuncId} {tmps : Array Value} {assign body : Code} {w : World} {R : Ending → World → Prop} (h : RoundIn Fence.wide n P l f tmps assign body w R) : RoundIn (W ro) m P l f tmps assign body w R :=
  ⟨trivial, fun c cs _ => h.2 c cs (room_wide _)⟩
def exitOf : AExit → Exit
  | .normal => .normal | .exit i => .exit i | .goto l => .goto l | .ret => .ret

inductive DRel (α : Al) : AVal × List AVal → Deferred → Prop
  | fn {g : FuncId} {first cap args : List AVal} {first' cap' args' : Array Value} (hf : VRels α first first'.toList) (hc : VRels α cap cap'.toList) (ha : VRels α args args'.toList) :
      DRel α (.func (.func g) first cap, args) { target := .fn (.func g) cap', args := first' ++ args' }
  | mark {d : Nat} {L : Loc} (h : α d = some L) : DRel α (.yld d, []) { target := .collected L.b, args := #[] }
inductive DRels (α : Al) : List (AVal × List AVal) → List Deferred → Prop
  | nil : DRels α [] []
  | cons {a : AVal × List AVal} {d : Deferred} {l : List (AVal × List AVal)} {m : List Deferred} (h : DRel α a d) (t : DRels α l m) : DRels α (a :: l) (d :: m)
theorem DRel.mono {α β : Al} (hle : AlLe α β) {a : AVal × List AVal} {d : Deferred} (h : DRel α a d) : DRel β a d := by
  cases h with
  | fn hf hc ha => exact .fn (hf.mono hle) (hc.mono hle) (ha.mono hle)
  | mark h => exact .mark (hle _ _ h)
theorem DRels.mono {α β : Al} (hle : AlLe α β) {l : List (AVal × List AVal)} {m : List Deferred} (h : DRels α l m) : DRels β l m := by
  induction h with
  | nil => exact .nil
  | cons h _ ih => exact .cons (h.mono hle) ih
structure ActRel (α : Al) (a : Ev.Act) (act : Go.Act) : Prop where
  tm : TmRel α a.tm a.N act.tmps
  df : DRels α a.defers act.defers
theorem ActRel.mono {α β : Al} (hle : AlLe α β) {a : Ev.Act} {act : Go.Act} (h : ActRel α a act) : ActRel β a act := ⟨h.tm.mono hle, h.df.mono hle⟩
/-- the first names are the program's own blocks -/
def Glob (α : Al) : Prop := ∀ g, g ≤ 1023 → ∃ L, α g = some L ∧ L.b = g ∧ L.base = 0
theorem Glob.mono {α β : Al} (hle : AlLe α β) (h : Glob α) : Glob β := fun g hg => let ⟨L, a, b⟩ := h g hg; ⟨L, hle _ _ a, b⟩
theorem evalO_rel {α : Al} {tm : Tr AVal} {act : Go.Act} (hg : Glob α) (ht : ∀ t, VRel α (orUndef (tm.get t)) (act.tmps.getD t undef)) (x : Operand) : VRel α (evalO tm x) (act.eval x) := by
  cases x with
  | tmp t => exact ht t
  | const v => exact ofV_rel α v
  | global g =>
    have : evalO tm (.global g) = @Bool.rec (fun _ => AVal) .bad (.ptr g 0) (Nat.ble g 1023) := rfl
    rw [this, brec]
    cases hb : Nat.ble g 1023
    · exact .bad _
    · obtain ⟨L, a, b, c⟩ := hg g (Nat.le_of_ble_eq_true hb)
      have h1 := VRel.ptr (off := 0) a
      rw [b, c] at h1
      exact h1
  | func f => exact .func (by simp) .nil .nil
/-- a temporary is written -/
theorem put_rel {α : Al} {a a' : Ev.Act} {act : Go.Act} {d : Option Nat} {v : AVal} {v' : Value} (h : ActRel α a act) (hv : VRel α v v') (hp : putE a d v = some a') : ActRel α a' (act.put d v') := by
  cases d with
  | none => cases hp; exact h
  | some t =>
    simp only [putE, brec] at hp
    cases hb : Nat.ble (t + 1) a.N
    · rw [hb] at hp; cases hp
    · rw [hb] at hp; cases hp
      have hlt := Nat.le_of_ble_eq_true hb
      refine ⟨⟨by simp [Act.put, h.tm.1], fun q => ?_⟩, h.df⟩
      have hsz := h.tm.1
      show VRel α (orUndef ((a.tm.set t v).get q)) ((act.tmps.setIfInBounds t v').getD q undef)
      rw [Tr.get_set]
      by_cases hq : q = t
      · subst hq
        rw [if_pos rfl]
        have : (act.tmps.setIfInBounds q v').getD q undef = v' := by
          rw [Array.getD_eq_getD_getElem?, Array.getElem?_setIfInBounds_self_of_lt (by omega)]; rfl
        rw [this]; exact hv
      · rw [if_neg hq]
        have : (act.tmps.setIfInBounds t v').getD q undef = act.tmps.getD q undef := by
          rw [Array.getD_eq_getD_getElem?, Array.getD_eq_getD_getElem?, Array.getElem?_setIfInBounds_ne (Ne.symm hq)]
        rw [this]; exact h.tm.2 q
theorem putE_keeps {a a' : Ev.Act} {d : Option Nat} {v : AVal} (h : putE a d v = some a') : a'.N = a.N ∧ a'.rnd = a.rnd ∧ a'.defers = a.defers := by
  cases d with
  | none => cases h; exact ⟨rfl, rfl, rfl⟩
  | some t =>
    simp only [putE, brec] at h
    cases hb : Nat.ble (t + 1) a.N
    · rw [hb] at h; cases h
    · rw [hb] at h; cases h; exact ⟨rfl, rfl, rfl⟩

/-! ### What a call gives. -/
def RetK (K : Value → World → Prop) : Ending → World → Prop
  | .returned v, w => K v w
  | _, _ => False
def Gets (P : Program) (nx : Next) (w : World) (K : Value → World → Prop) : Prop :=
  match nx with
  | .value v => K v w
  | .skip => K undef w
  | .enter f args => CallsIn Fence.wide 0 P f args w (RetK K)
  | .round l f tmps assign body => RoundIn Fence.wide 0 P l f tmps assign body w (RetK K)
  | _ => False
theorem Gets.mono {P : Program} {nx : Next} {w : World} {K K' : Value → World → Prop} (h : Gets P nx w K) (hk : ∀ v w, K v w → K' v w) : Gets P nx w K' := by
  cases nx <;> first | exact h.elim | skip
  · exact hk _ _ h
  · exact hk _ _ h
  · exact CallsIn.mono h (fun e w' he => by cases e <;> first | exact he.elim | exact hk _ _ he)
  · exact RoundIn.mono h (fun e w' he => by cases e <;> first | exact he.elim | exact hk _ _ he)
/-- an operation's 'wpIn' from what it gives -/
theorem wpIn_of_gets {P : Program} {ro : Option Nat} {o : Oper} {act : Go.Act} {w w1 : World} {nx : Next} {K : Go.Act → World → Prop} {Q : Exit → Go.Act → World → Prop}
    (hrun : (o.semAt ro act.eval).run P w = .ok nx w1) (h : Gets P nx w1 (fun v w' => K (act.put o.dst v) w')) : o.wpIn (W ro) 0 P act w K Q := by
  refine ⟨fun f _ => trivial, ?_⟩
  show o.uponIn (W ro) 0 P act K Q ((o.semAt ro act.eval).run P w)
  rw [hrun]
  cases nx <;> first | exact h.elim | skip
  · exact h
  · exact h
  · exact ⟨fun hd => (by cases hd), (callsIn_W h).mono (fun e w' he => by cases e <;> first | exact he.elim | exact he)⟩
  · exact ⟨fun hd => (by cases hd), (roundIn_W h).mono (fun e w' he => by cases e <;> first | exact he.elim | exact he)⟩
end Go.Ev
namespace Go.Ev
open Go Go.Lib
/-! ### The names that are given out grow. -/
section
variable {X : Env} {s s' : St}
theorem storeN_next {r off : Nat} {vs : List AVal} (h : storeN s r off vs = some s') : s'.next = s.next := by
  unfold storeN at h
  cases hg : s.heap.get r with
  | none => rw [hg] at h; cases h
  | some o =>
    rw [hg] at h
    cases o <;> first | (cases h; done) | skip
    rename_i cs e lo sp fz anc
    cases sp
    · simp only [storeO, brec] at h
      cases hone : allOne vs
      · rw [hone] at h; cases h
      · rw [hone] at h
        cases hs : splice cs off vs with
        | none => rw [hs] at h; cases h
        | some cs' => rw [hs] at h; cases h; rfl
    · cases h
theorem appE_next {t u : Nat} {x y v : AVal} (h : appE X s t u x y = some (v, s')) : s.next ≤ s'.next := by
  unfold appE at h
  cases ht : X.ty.get t with
  | none => rw [ht] at h; cases h
  | some ti =>
    cases hu : X.ty.get u with
    | none => rw [ht, hu] at h; cases h
    | some ui =>
      rw [ht, hu] at h
      obtain ⟨td, _, _, _⟩ := ti
      simp only at h
      cases td <;> first | (cases h; done) | skip
      rename_i e esz bb
      simp only at h
      cases hte : X.ty.get e with
      | none => rw [hte] at h; cases h
      | some ei =>
        rw [hte] at h
        simp only at h
        cases hsrc : srcE s.heap esz ei.zv.cells ui.d y with
        | none => rw [hsrc] at h; cases h
        | some q =>
          obtain ⟨n, new⟩ := q
          rw [hsrc] at h
          simp only [appS, brec] at h
          cases hb : Nat.beq (len new) (n * esz)
          · rw [hb] at h; cases h
          · rw [hb] at h
            simp only [cond_true] at h
            cases x <;> first | (cases h; done) | skip
            · simp only [appV, brec] at h
              cases hn : Nat.beq n 0
              · rw [hn] at h
                simp only [cond_false] at h
                cases hn2 : Nat.ble n 1048576
                · rw [hn2] at h; cases h
                · rw [hn2] at h; cases h; exact Nat.le_succ _
              · rw [hn] at h; cases h; exact Nat.le_refl _
            · rename_i r off m cap ex
              simp only [appV, brec] at h
              cases hin : Nat.ble (m + n) cap
              · rw [hin] at h
                simp only [cond_false] at h
                cases hn2 : Nat.ble (m + n) 1048576
                · rw [hn2] at h; cases h
                · rw [hn2] at h
                  simp only [cond_true] at h
                  cases hld : loadN s.heap r off (m * esz) with
                  | none => rw [hld] at h; cases h
                  | some old =>
                    rw [hld] at h
                    simp only [appGrow, brec] at h
                    cases ex
                    · simp only [cond_false] at h
                      cases hgr : s.heap.get r with
                      | none => rw [hgr] at h; cases h
                      | some o =>
                        rw [hgr] at h
                        cases o <;> first | (cases h; done) | skip
                        rename_i cs2 e2 lo sp fz ancs
                        cases lo
                        · cases h
                        · cases sp
                          · simp only [appLoose, brec] at h
                            cases hck : (Nat.beq e2 e && (Nat.beq (off + m * esz) (len cs2) && allOne new))
                            · rw [hck] at h; cases h
                            · rw [hck] at h; cases h; exact Nat.le_succ _
                          · cases h
                    · cases h; exact Nat.le_succ _
              · rw [hin] at h
                simp only [cond_true] at h
                cases hn : Nat.beq n 0
                · rw [hn] at h
                  simp only [cond_false] at h
                  cases hst : storeN s r (off + m * esz) new with
                  | none => rw [hst] at h; cases h
                  | some s1 => rw [hst] at h; cases h; exact Nat.le_of_eq (storeN_next hst).symm
                · rw [hn] at h; cases h; exact Nat.le_refl _
theorem copyE_next {t : Nat} {x y v : AVal} (h : copyE X s t x y = some (v, s')) : s.next ≤ s'.next := by
  unfold copyE at h
  cases ht : X.ty.get t with
  | none => rw [ht] at h; cases h
  | some ti =>
    rw [ht] at h
    obtain ⟨td, _, _, _⟩ := ti
    simp only at h
    cases td <;> first | (cases h; done) | skip
    simp only at h
    cases x <;> first | (cases h; done) | skip
    · cases y <;> first | (cases h; done) | (cases h; exact Nat.le_refl _)
    · cases y <;> first | (cases h; done) | skip
      · cases h; exact Nat.le_refl _
      · rename_i e esz bb r off m c1 x1 q o2 n c2 x2
        have h' : cpV s r off (min n m) (loadN s.heap q o2 (min n m * esz)) = some (v, s') := h
        cases hl : loadN s.heap q o2 (min n m * esz) with
        | none => rw [hl] at h'; cases h'
        | some l =>
          rw [hl] at h'
          simp only [cpV, brec] at h'
          cases hk : Nat.beq (min n m) 0
          · rw [hk] at h'
            simp only [cond_false] at h'
            cases hst : storeN s r off l with
            | none => rw [hst] at h'; cases h'
            | some s1 => rw [hst] at h'; cases h'; exact Nat.le_of_eq (storeN_next hst).symm
          · rw [hk] at h'; cases h'; exact Nat.le_refl _
theorem updE_next {t : Nat} {m k v : AVal} (h : updE X s t m k v = some s') : s.next ≤ s'.next := by
  unfold updE at h
  cases ht : X.ty.get t with
  | none => rw [ht] at h; cases h
  | some ti =>
    rw [ht] at h
    obtain ⟨td, _, _, _⟩ := ti
    simp only at h
    cases td <;> first | (cases h; done) | skip
    rename_i p zv
    cases p with
    | none => cases m <;> cases h
    | some p =>
      cases m <;> first | (cases h; done) | skip
      rename_i r
      simp only [updD] at h
      cases hg : s.heap.get r with
      | none => rw [hg] at h; cases h
      | some o =>
        rw [hg] at h
        cases o <;> first | (cases h; done) | skip
        rename_i es c
        simp only [updO] at h
        cases hf : findK p k es 0 with
        | none => rw [hf] at h; cases h
        | some q =>
          rw [hf] at h
          cases q with
          | none => cases h; exact Nat.le_refl _
          | some q => cases h; exact Nat.le_refl _
theorem delE_next {t : Nat} {m k : AVal} (h : delE X s t m k = some s') : s.next ≤ s'.next := by
  unfold delE at h
  cases ht : X.ty.get t with
  | none => rw [ht] at h; cases h
  | some ti =>
    rw [ht] at h
    obtain ⟨td, _, _, _⟩ := ti
    simp only at h
    cases td <;> first | (cases h; done) | skip
    rename_i p zv
    cases p with
    | none => cases m <;> cases h
    | some p =>
      cases m <;> first | (cases h; done) | skip
      · cases h; exact Nat.le_refl _
      · rename_i r
        simp only [delD] at h
        cases hg : s.heap.get r with
        | none => rw [hg] at h; cases h
        | some o =>
          rw [hg] at h
          cases o <;> first | (cases h; done) | skip
          rename_i es c
          simp only [delO] at h
          cases hf : findK p k es 0 with
          | none => rw [hf] at h; cases h
          | some q =>
            rw [hf] at h
            cases q with
            | none => cases h; exact Nat.le_refl _
            | some q => cases h; exact Nat.le_refl _
theorem clearE_next {t : Nat} {x : AVal} (h : clearE X s t x = some s') : s.next ≤ s'.next := by
  unfold clearE at h
  cases ht : X.ty.get t with
  | none => rw [ht] at h; cases x <;> cases h
  | some ti =>
    rw [ht] at h
    cases x <;> first | (cases h; done) | skip
    · cases h; exact Nat.le_refl _
    · rename_i r
      have h' : clO s r (s.heap.get r) = some s' := h
      cases hg : s.heap.get r with
      | none => rw [hg] at h'; cases h'
      | some o =>
        rw [hg] at h'
        cases o <;> first | (cases h'; done) | (cases h'; exact Nat.le_refl _)
theorem rangeE_next {t : Nat} {x v : AVal} (h : rangeE X s t x = some (v, s')) : s.next ≤ s'.next := by
  unfold rangeE at h
  cases ht : X.ty.get t with
  | none => rw [ht] at h; cases h
  | some ti =>
    rw [ht] at h
    obtain ⟨td, _, _, _⟩ := ti
    simp only at h
    cases td <;> first | (cases x <;> cases h; done) | skip
    · cases x <;> first | (cases h; done) | (cases h; exact Nat.le_succ _)
    · cases x <;> first | (cases h; done) | skip
      · cases h; exact Nat.le_succ _
      · rename_i m
        have h' : rgO s m (s.heap.get m) = some (v, s') := h
        cases hg : s.heap.get m with
        | none => rw [hg] at h'; cases h'
        | some o =>
          rw [hg] at h'
          cases o <;> first | (cases h'; done) | (cases h'; exact Nat.le_succ _)
theorem nextE_next {x v : AVal} {b : Bool} (h : nextE s x b = some (v, s')) : s.next ≤ s'.next := by
  cases x <;> first | (cases h; done) | skip
  rename_i r off
  cases off with
  | succ n => cases h
  | zero =>
    have h' : nxO s r (s.heap.get r) b = some (v, s') := h
    cases hg : s.heap.get r with
    | none => rw [hg] at h'; cases b <;> cases h'
    | some o =>
      rw [hg] at h'
      cases o <;> first | (cases b <;> cases h'; done) | skip
      · rename_i m since seen last
        cases b
        · cases m with
          | none => cases h'; exact Nat.le_refl _
          | some m =>
            simp only [nxO] at h'
            cases hm : s.heap.get m with
            | none => rw [hm] at h'; cases h'
            | some om =>
              rw [hm] at h'
              cases om <;> first | (cases h'; done) | skip
              rename_i es c
              simp only [nxM, brec] at h'
              cases hst : nxStale last seen es
              · rw [hst] at h'
                simp only [cond_false] at h'
                cases hlf : leftE seen es with
                | nil => rw [hlf] at h'; cases h'; exact Nat.le_refl _
                | cons e rest =>
                  cases rest with
                  | cons e2 rest => rw [hlf] at h'; cases h'
                  | nil =>
                    rw [hlf] at h'
                    simp only [nxL, brec] at h'
                    cases hb : Nat.ble (e.2.2 + 1) since
                    · rw [hb] at h'; cases h'
                    · rw [hb] at h'; cases h'; exact Nat.le_refl _
              · rw [hst] at h'; cases h'
        · cases m <;> cases h'
      · rename_i a pos
        cases b
        · cases h'
        · simp only [nxO] at h'
          cases hn : nth a pos with
          | none =>
            rw [hn] at h'
            simp only [nxS, brec] at h'
            cases hb : Nat.ble (len a) pos
            · rw [hb] at h'; cases h'
            · rw [hb] at h'; cases h'; exact Nat.le_refl _
          | some c =>
            rw [hn] at h'
            simp only [nxS, brec] at h'
            cases hb : Nat.ble c 127
            · rw [hb] at h'; cases h'
            · rw [hb] at h'; cases h'; exact Nat.le_refl _
theorem storeA_next {t : Nat} {x v : AVal} (h : storeA x X s t v = some s') : s.next ≤ s'.next := by
  cases x <;> first | (cases h; done) | skip
  rename_i r off
  have h' : storeVar X s t r off v = some s' := h
  unfold storeVar at h'
  cases ht : X.ty.get t with
  | none => rw [ht] at h'; cases h'
  | some ti =>
    simp only [ht, brec] at h'
    cases hb : Nat.beq (len v.cells) ti.size
    · rw [hb] at h'; cases h'
    · rw [hb] at h'; exact Nat.le_of_eq (storeN_next h').symm
theorem wrE_next {o : Op} {ev : Operand → AVal} {v : AVal} (h : wrE o X ev s = some (v, s')) : s.next ≤ s'.next := by
  cases o <;> first | (cases h; done) | skip
  case store t a x => exact storeA_next (andS_some h).1
  case mapUpdate t m k x => exact updE_next (andS_some h).1
  case insert t m k x => exact updE_next (andS_some h).1
  case range t x => exact rangeE_next h
  case next it b => exact nextE_next h
  case call c =>
    obtain ⟨callee, args, tys⟩ := c
    cases callee with
    | invoke => cases h
    | value => cases h
    | builtin b =>
      have he' : bwE b tys.toList (args.toList.map ev) X s = some (v, s') := h
      cases b <;> first | (cases he'; done) | skip
      · generalize tys.toList = ts at he'; generalize args.toList.map ev = as at he'
        match ts, as, he' with
        | t :: u :: _, [x, y], he' => exact appE_next he'
      · generalize tys.toList = ts at he'; generalize args.toList.map ev = as at he'
        match ts, as, he' with
        | t :: _, [x], he' => exact clearE_next (andS_some he').1
      · generalize tys.toList = ts at he'; generalize args.toList.map ev = as at he'
        match ts, as, he' with
        | t :: _, [x, y], he' => exact copyE_next he'
      · generalize tys.toList = ts at he'; generalize args.toList.map ev = as at he'
        match ts, as, he' with
        | t :: _, [x, y], he' => exact delE_next (andS_some he').1
end
end Go.Ev
namespace Go.Ev
open Go Go.Lib
/-- what a call is to give -/
def CallOk (P : Program) (X : Env) (r : Rec) : Prop := ∀ f args s v s', r.call f args s = some (v, s') → s.next ≤ s'.next ∧
  ∀ α w f' (args' : Array Value), Rel X α s.heap.get w → Glob α → Ok s → Fresh α s.next s'.next → VRel α f f' → VRels α args args'.toList →
    ∃ d nx w1, Deferred.ofValue f' args' = pure d ∧ (invoke d.target d.args).run P w = .ok nx w1 ∧ Gets P nx w1 (fun v' w' => ∃ β, Step X α β s s' w w' ∧ VRel β v v')
noncomputable def keepS (s : St) : Option AVal → Option (AVal × St)
  | some v => some (v, s)
  | none => none
noncomputable def alS (s : St) : Option (AObj × AlR) → Option (AVal × St)
  | some (ob, ar) => some (ar.val s.next, alloc s ob)
  | none => none
noncomputable def rdalS (s : St) (b : Option (AVal × St)) : Option AVal → Option (AVal × St)
  | some v => some (v, s)
  | none => b
/-- what an operation gives, but for 'defer' -/
noncomputable def opV (X : Env) (r : Rec) (o : Op) (ev : Operand → AVal) (s : St) : Option (AVal × St) :=
  match clsO o with
  | .rd => keepS s (rdE o X ev s.heap)
  | .al => alS s (alE o X ev)
  | .rdal => rdalS s (alS s (alE o X ev)) (rdE o X ev s.heap)
  | .wr => wrE o X ev s
  | .call => callP o X r ev s
  | .dfr => none
section
variable {P : Program} {X : Env} {α : Al} {s s' : St} {w : World} {r : Rec} {ev : Operand → AVal} {ρ : Operand → Value}
theorem put1_some {a a' : Act} {d : Option Nat} {o : Option (AVal × St)} (h : put1 a d o = some (a', s')) : ∃ v, o = some (v, s') ∧ putE a d v = some a' := by
  cases o with
  | none => cases h
  | some q =>
    obtain ⟨v, s1⟩ := q
    simp only [put1] at h
    cases hp : putE a d v with
    | none => rw [hp] at h; cases h
    | some a1 => rw [hp] at h; cases h; exact ⟨v, rfl, hp⟩
theorem opE_val {o : Oper} {a a' : Act} (hd : clsO o.op ≠ .dfr) (h : opE X r o a s = some (a', s')) : ∃ v, opV X r o.op (evalO a.tm) s = some (v, s') ∧ putE a o.dst v = some a' := by
  unfold opE at h
  rw [clsK_eq] at h
  unfold opV
  cases hc : clsO o.op <;> rw [hc] at h <;> simp only [opC] at h
  · rw [rdK_eq] at h
    cases hr : rdE o.op X (evalO a.tm) s.heap with
    | none => rw [hr] at h; cases h
    | some v =>
      rw [hr] at h
      simp only [rdPut] at h
      obtain ⟨v1, h1, h2⟩ := put1_some h
      cases h1; exact ⟨v, rfl, h2⟩
  · rw [alK_eq] at h
    cases hr : alE o.op X (evalO a.tm) with
    | none => rw [hr] at h; cases h
    | some q =>
      obtain ⟨ob, ar⟩ := q
      rw [hr] at h
      simp only [alPut] at h
      obtain ⟨v1, h1, h2⟩ := put1_some h
      cases h1; exact ⟨_, rfl, h2⟩
  · rw [rdK_eq] at h
    cases hr : rdE o.op X (evalO a.tm) s.heap with
    | none =>
      rw [hr] at h
      simp only [rdalP, alK_eq] at h
      cases hr2 : alE o.op X (evalO a.tm) with
      | none => rw [hr2] at h; cases h
      | some q =>
        obtain ⟨ob, ar⟩ := q
        rw [hr2] at h
        simp only [alPut] at h
        obtain ⟨v1, h1, h2⟩ := put1_some h
        cases h1; refine ⟨_, ?_, h2⟩
        simp only [rdalS, hr2, alS]
    | some v =>
      rw [hr] at h
      simp only [rdalP] at h
      obtain ⟨v1, h1, h2⟩ := put1_some h
      cases h1; exact ⟨v, rfl, h2⟩
  · rw [wrK_eq] at h; exact put1_some h
  · exact put1_some h
  · exact absurd hc hd
/-- what an operation gives -/
def OpGives (P : Program) (X : Env) (α : Al) (s s' : St) (w : World) (o : Oper) (ro : Option Nat) (ρ : Operand → Value) (v : AVal) : Prop :=
  ∃ nx w1, (o.semAt ro ρ).run P w = .ok nx w1 ∧ Gets P nx w1 (fun v' w' => ∃ β, Step X α β s s' w w' ∧ VRel β v v')
theorem Did.gives {o : Oper} {v : AVal} (h : Did P X α s s' w (execOp ρ o) v) (hd : ∀ c, o.op ≠ .defer c) (ro : Option Nat) : OpGives P X α s s' w o ro ρ v := by
  obtain ⟨nx, v', w', β, h1, h2, h3, h4⟩ := h
  refine ⟨nx, w', by rw [Oper.semAt_eq _ _ _ hd]; exact h1, ?_⟩
  cases h2
  · exact ⟨β, h3, h4⟩
  · exact ⟨β, h3, h4⟩
theorem not_defer {o : Op} (h : clsO o ≠ .dfr) : ∀ c, o ≠ .defer c := fun c e => by subst e; exact h rfl
theorem callM_run (hX : EnvOk P X) (hc : CallOk P X r) {recv : AVal} {name : String} {args : List AVal} {v : AVal} (h : callM X r recv name args s = some (v, s')) :
    s.next ≤ s'.next ∧ ∀ α w recv' (args' : Array Value), Rel X α s.heap.get w → Glob α → Ok s → Fresh α s.next s'.next → VRel α recv recv' → VRels α args args'.toList →
      ∃ nx w1, (callMethod recv' name args').run P w = .ok nx w1 ∧ Gets P nx w1 (fun v' w' => ∃ β, Step X α β s s' w w' ∧ VRel β v v') := by
  cases recv <;> first | (cases h; done) | skip
  rename_i t u
  simp only [callM] at h
  cases hm : mtFind X.mt t name with
  | none => rw [hm] at h; cases h
  | some g =>
    rw [hm] at h
    obtain ⟨h1, h2⟩ := hc _ _ _ _ _ h
    refine ⟨h1, fun α w recv' args' hr hg ho hf hrv hargs => ?_⟩
    cases hrv with
    | @iface _ _ u' hu =>
      obtain ⟨d, nx, w1, k1, k2, k3⟩ := h2 α w (.func (.func g) #[] #[]) (#[u'] ++ args') hr hg ho hf (.func (fun l e => by cases e) .nil .nil) (by simpa using VRels.cons hu hargs)
      refine ⟨nx, w1, ?_, k3⟩
      have hd : d = { target := .fn (.func g) #[], args := #[] ++ (#[u'] ++ args') } := by
        have : (Deferred.ofValue (.func (.func g) #[] #[]) (#[u'] ++ args') : Sem Deferred) = pure { target := .fn (.func g) #[], args := #[] ++ (#[u'] ++ args') } := rfl
        rw [this] at k1
        injection k1 with k1; exact k1.symm
      subst hd
      simp only [callMethod, Sem.run_bind, run_program, Result.andThen_ok, hX.mt t name g hm u' w]
      simpa [invoke] using k2
theorem callP_run (hX : EnvOk P X) (hc : CallOk P X r) {o : Oper} {v : AVal} (h : callP o.op X r ev s = some (v, s')) :
    s.next ≤ s'.next ∧ ∀ α w ro, Rel X α s.heap.get w → Glob α → Ok s → Fresh α s.next s'.next → (∀ x, VRel α (ev x) (ρ x)) → OpGives P X α s s' w o ro ρ v := by
  obtain ⟨dst, op, ty, pos, guard, after⟩ := o
  cases op <;> first | (cases h; done) | skip
  rename_i c
  obtain ⟨callee, args, tys⟩ := c
  have hsem : ∀ ro, (Oper.semAt ro ρ ⟨dst, .call ⟨callee, args, tys⟩, ty, pos, guard, after⟩) = (do let d ← resolve ρ ⟨callee, args, tys⟩ ty; invoke d.target d.args) := fun ro => by
    rw [Oper.semAt_eq _ _ _ (fun c e => by cases e)]; rfl
  cases callee with
  | builtin b => cases h
  | value f =>
    have h' : r.call (ev f) (args.toList.map ev) s = some (v, s') := h
    obtain ⟨h1, h2⟩ := hc _ _ _ _ _ h'
    refine ⟨h1, fun α w ro hr hg ho hf hev => ?_⟩
    obtain ⟨d, nx, w1, k1, k2, k3⟩ := h2 α w (ρ f) (args.map ρ) hr hg ho hf (hev f) (ops_rel hev args)
    refine ⟨nx, w1, ?_, k3⟩
    rw [hsem]
    simp only [resolve, k1, pure_bind, k2]
  | invoke recv name =>
    have h' : callM X r (ev recv) name (args.toList.map ev) s = some (v, s') := h
    obtain ⟨h1, h2⟩ := callM_run hX hc h'
    refine ⟨h1, fun α w ro hr hg ho hf hev => ?_⟩
    obtain ⟨nx, w1, k1, k2⟩ := h2 α w (ρ recv) (args.map ρ) hr hg ho hf (hev recv) (ops_rel hev args)
    refine ⟨nx, w1, ?_, k2⟩
    rw [hsem]
    simp only [resolve, pure_bind, invoke]
    have e0 : (#[ρ recv] ++ args.map ρ)[0]? = some (ρ recv) := by rw [Array.getElem?_append_left (Nat.zero_lt_one)]; rfl
    have e1 : (#[ρ recv] ++ args.map ρ).extract 1 (#[ρ recv] ++ args.map ρ).size = args.map ρ := by
      refine Array.ext_getElem? fun i => ?_
      simp only [Array.getElem?_extract, Array.getElem?_append, Array.size_append, List.size_toArray, List.length_cons, List.length_nil, Array.size_map]
      split
      · rw [if_neg (by omega)]; congr 1; omega
      · rw [Array.getElem?_eq_none]; simp; omega
    rw [e0]
    simp only [e1, k1]
theorem opV_run (hX : EnvOk P X) (hc : CallOk P X r) {o : Oper} {v : AVal} (h : opV X r o.op ev s = some (v, s')) :
    s.next ≤ s'.next ∧ ∀ α w ro, Rel X α s.heap.get w → Glob α → Ok s → Fresh α s.next s'.next → (∀ x, VRel α (ev x) (ρ x)) → OpGives P X α s s' w o ro ρ v := by
  unfold opV at h
  have hnd : clsO o.op ≠ .dfr := fun e => by rw [e] at h; cases h
  have hd := not_defer hnd
  have rd : ∀ {v : AVal}, rdE o.op X ev s.heap = some v → ∀ α w ro, Rel X α s.heap.get w → Ok s → (∀ x, VRel α (ev x) (ρ x)) → OpGives P X α s s w o ro ρ v := by
    intro v hrd α w ro hr ho hev
    obtain ⟨v', k1, k2⟩ := rd_run hX hr hev hrd
    exact ⟨.value v', w, by rw [Oper.semAt_eq _ _ _ hd]; exact k1, α, Step.refl hr ho, k2⟩
  have al : ∀ {ob : AObj} {ar : AlR}, alE o.op X ev = some (ob, ar) → ∀ α w ro, Rel X α s.heap.get w → Ok s → Fresh α s.next (s.next + 1) → (∀ x, VRel α (ev x) (ρ x)) → OpGives P X α s (alloc s ob) w o ro ρ (ar.val s.next) := by
    intro ob ar hal α w ro hr ho hf hev
    obtain ⟨v', w', β, k1, k2, k3⟩ := al_run hX hr ho hf hev hal
    exact ⟨.value v', w', by rw [Oper.semAt_eq _ _ _ hd]; exact k1, β, k2, k3⟩
  cases hcl : clsO o.op <;> rw [hcl] at h <;> simp only at h
  · cases hr : rdE o.op X ev s.heap with
    | none => rw [hr] at h; cases h
    | some u => rw [hr] at h; cases h; exact ⟨Nat.le_refl _, fun α w ro h1 h2 h3 h4 h5 => rd hr α w ro h1 h3 h5⟩
  · cases hr : alE o.op X ev with
    | none => rw [hr] at h; cases h
    | some q =>
      obtain ⟨ob, ar⟩ := q
      rw [hr] at h; cases h
      exact ⟨Nat.le_succ _, fun α w ro h1 h2 h3 h4 h5 => al hr α w ro h1 h3 h4 h5⟩
  · cases hr : rdE o.op X ev s.heap with
    | some u => rw [hr] at h; cases h; exact ⟨Nat.le_refl _, fun α w ro h1 h2 h3 h4 h5 => rd hr α w ro h1 h3 h5⟩
    | none =>
      rw [hr] at h
      simp only [rdalS] at h
      cases hr2 : alE o.op X ev with
      | none => rw [hr2] at h; cases h
      | some q =>
        obtain ⟨ob, ar⟩ := q
        rw [hr2] at h; cases h
        exact ⟨Nat.le_succ _, fun α w ro h1 h2 h3 h4 h5 => al hr2 α w ro h1 h3 h4 h5⟩
  · exact ⟨wrE_next h, fun α w ro h1 h2 h3 h4 h5 => (wr_run hX h1 h3 h4 h5 h).gives hd ro⟩
  · exact callP_run hX hc h
  · cases h
end
end Go.Ev
namespace Go.Ev
open Go Go.Lib
/-- where a piece of code leads -/
def Post (X : Env) (α : Al) (s s' : St) (w : World) (e : AExit) (a' : Ev.Act) : Exit → Go.Act → World → Prop := fun e1 act1 w1 => e1 = exitOf e ∧ ∃ β, Step X α β s s' w w1 ∧ ActRel β a' act1
section
variable {P : Program} {X : Env} {α : Al} {s s' : St} {w : World} {r : Rec}
theorem wanted_run {ops : Array Oper} {o : Oper} {tm : Tr AVal} {tmps : Array Value} {b : Bool} (ht : ∀ t, t ∈ looks ops.toList o → VRel α (orUndef (tm.get t)) (tmps.getD t undef)) (h : wantedE ops.toList o tm = some b) : Region.wanted o (yielded ops tmps) = b := by
  unfold wantedE at h
  unfold Region.wanted
  cases hg : o.guard with
  | none => rw [hg] at h; cases h; rfl
  | some q =>
    obtain ⟨j, want⟩ := q
    rw [hg] at h
    simp only [wantG, dstAt] at h
    rw [nth_eq] at h
    simp only
    unfold yielded
    have hj : ops.toList[j]? = ops[j]? := Array.getElem?_toList ..
    cases ho : ops[j]? with
    | none =>
      rw [hj, ho] at h
      simp only [dstO, wantD] at h
      cases h; rfl
    | some oj =>
      rw [hj, ho] at h
      simp only [dstO] at h
      cases hd : oj.dst with
      | none =>
        rw [hd] at h
        simp only [wantD] at h
        cases h
        simp [hd]
      | some d =>
        rw [hd] at h
        simp only [wantD] at h
        have hv := ht d (by
          unfold looks
          rw [hg]
          refine List.mem_append_right _ ?_
          simp only [dstAt, nth_eq, hj, ho, dstO, hd]
          exact List.mem_singleton.2 rfl)
        simp only [hd, Option.bind_some]
        have hget : tmps[d]? = none ∨ tmps[d]? = some (tmps.getD d undef) := by
          rw [Array.getD_eq_getD_getElem?]
          cases tmps[d]? <;> simp
        generalize orUndef (tm.get d) = av at h hv
        generalize hq : tmps.getD d undef = v at hv hget
        cases av <;> first | (cases h; done) | skip
        case bool c =>
          cases hv
          rcases hget with h1 | h1
          · rw [Array.getD_eq_getD_getElem?, h1] at hq; cases hq
          · rw [h1]
            cases h
            rw [eqB_eq]
            cases c <;> cases want <;> rfl
        all_goals
          (cases h
           cases hv
           rcases hget with h1 | h1 <;> rw [h1] <;> rfl)
theorem turn_run (hX : EnvOk P X) (hc : CallOk P X r) {ops : Array Oper} {i : Nat} {o : Oper} {a a' : Ev.Act} (hi : ops[i]? = some o) (h : turnE X r ops.toList o a s = some (a', s')) :
    s.next ≤ s'.next ∧ a'.N = a.N ∧ a'.rnd = a.rnd ∧ ∀ ro, ro.isSome = a.rnd → ∀ α w act, Rel X α s.heap.get w → Glob α → Ok s → Fresh α s.next s'.next → ActRel α a act → ∀ (K : Go.Act → World → Prop) (Q : Exit → Go.Act → World → Prop),
      (∀ β act1 w1, Step X α β s s' w w1 → ActRel β a' act1 → K act1 w1) → wpOpIn (W ro) 0 P ops Q i K act w := by
  unfold turnE at h
  cases hw : wantedE ops.toList o a.tm with
  | none => rw [hw] at h; cases h
  | some b =>
    rw [hw] at h
    cases b
    · simp only [turnW] at h
      obtain ⟨v, h1, h2⟩ := put1_some h
      cases h1
      obtain ⟨k1, k2, k3⟩ := putE_keeps h2
      refine ⟨Nat.le_refl _, k1, k2, fun ro hro α w act hr hg ho hf ha K Q hK => ?_⟩
      have hwr := wanted_run (ops := ops) (fun t _ => ha.tm.2 t) hw
      unfold wpOpIn
      simp only [hi, hwr, Bool.false_eq_true, if_false]
      exact ⟨fun f _ => trivial, hK α _ w (Step.refl hr ho) (put_rel ha (.undef α) h2)⟩
    · simp only [turnW] at h
      by_cases hd : clsO o.op = .dfr
      · unfold opE at h
        rw [clsK_eq, hd] at h
        simp only [opC] at h
        obtain ⟨dst, op, ty, pos, after, guard⟩ := o
        cases op <;> first | (cases h; done) | skip
        rename_i c
        obtain ⟨callee, args, tys⟩ := c
        cases callee <;> first | (cases h; done) | skip
        rename_i f
        have h' : dfrV (evalO a.tm f) a.rnd (args.toList.map (evalO a.tm)) dst a s = some (a', s') := h
        cases hfv : evalO a.tm f <;> rw [hfv] at h' <;> first | (cases h'; done) | skip
        rename_i fn first cap
        cases fn <;> first | (cases h'; done) | skip
        rename_i g
        cases hrnd : a.rnd <;> rw [hrnd] at h' <;> first | (cases h'; done) | skip
        simp only [dfrV] at h'
        obtain ⟨v, h1, h2⟩ := put1_some h'
        cases h1
        obtain ⟨k1, k2, k3⟩ := putE_keeps h2
        refine ⟨Nat.le_refl _, k1, k2.trans hrnd, fun ro hro α w act hr hg ho hf ha K Q hK => ?_⟩
        have hro' : ro = none := by cases ro <;> first | rfl | cases hro
        subst hro'
        have hwr := wanted_run (ops := ops) (fun t _ => ha.tm.2 t) hw
        unfold wpOpIn
        simp only [hi, hwr, if_true]
        refine ⟨fun f _ => trivial, ?_⟩
        have hev := evalO_rel hg ha.tm.2
        have hfr := hev f
        rw [hfv] at hfr
        generalize hfe : act.eval f = f' at hfr
        cases hfr with
        | @func _ _ _ f' c' hy hff hcc =>
          show Oper.uponIn (W none) 0 P _ act K Q ((execOp act.eval ⟨dst, .defer ⟨.value f, args, tys⟩, ty, pos, after, guard⟩).run P w)
          have hrun : (execOp act.eval ⟨dst, .defer ⟨.value f, args, tys⟩, ty, pos, after, guard⟩).run P w = .ok (.defer { target := .fn (.func g) c', args := f' ++ args.map act.eval }) w := by
            simp only [execOp, resolve, hfe, Deferred.ofValue]; rfl
          rw [hrun]
          have hac : ActRel α { a with defers := (AVal.func (Fn.func g) first cap, args.toList.map (evalO a.tm)) :: a.defers, rnd := a.rnd } { act with defers := { target := .fn (.func g) c', args := f' ++ args.map act.eval } :: act.defers } := ⟨ha.tm, .cons (.fn hff hcc (ops_rel hev args)) ha.df⟩
          exact hK α _ w (Step.refl hr ho) (put_rel hac (.undef α) h2)
      · obtain ⟨v, h1, h2⟩ := opE_val hd h
        obtain ⟨k1, k2, k3⟩ := putE_keeps h2
        obtain ⟨m1, m2⟩ := opV_run (P := P) (ρ := fun _ => undef) hX hc h1
        refine ⟨m1, k1, k2, fun ro hro α w act hr hg ho hf ha K Q hK => ?_⟩
        obtain ⟨_, m2⟩ := opV_run (P := P) (ρ := act.eval) hX hc h1
        have hwr := wanted_run (ops := ops) (fun t _ => ha.tm.2 t) hw
        obtain ⟨nx, w1, g1, g2⟩ := m2 α w ro hr hg ho hf (evalO_rel hg ha.tm.2)
        unfold wpOpIn
        simp only [hi, hwr, if_true]
        exact wpIn_of_gets g1 (g2.mono fun v' w' ⟨β, b1, b2⟩ => hK β _ w' b1 (put_rel (ha.mono b1.stp.le) b2 h2))
/-- operations one by one -/
theorem seq_run (hX : EnvOk P X) (hc : CallOk P X r) {ops : Array Oper} : ∀ (l : List Oper) (k : Nat) (a a' : Ev.Act) (s s' : St), ops.toList.drop k = l → seqE l ops.toList X r a s = some (a', s') →
    s.next ≤ s'.next ∧ a'.N = a.N ∧ a'.rnd = a.rnd ∧ ∀ ro, ro.isSome = a.rnd → ∀ α w act, Rel X α s.heap.get w → Glob α → Ok s → Fresh α s.next s'.next → ActRel α a act → ∀ (Q : Exit → Go.Act → World → Prop),
      (∀ β act1 w1, Step X α β s s' w w1 → ActRel β a' act1 → Q .normal act1 w1) → wpOpsIn (W ro) 0 P ops Q (List.range' k l.length) act w
  | [], k, a, a', s, s', hk, h => by
    cases h
    exact ⟨Nat.le_refl _, rfl, rfl, fun ro hro α w act hr hg ho hf ha Q hQ => hQ α act w (Step.refl hr ho) ha⟩
  | o :: l, k, a, a', s, s', hk, h => by
    have h' : contE (seqE l) ops.toList X r (turnE X r ops.toList o a s) = some (a', s') := h
    cases ht : turnE X r ops.toList o a s with
    | none => rw [ht] at h'; cases h'
    | some q =>
      obtain ⟨a1, s1⟩ := q
      rw [ht] at h'
      have hi : ops[k]? = some o := by
        rw [← Array.getElem?_toList]
        have : (ops.toList.drop k)[0]? = some o := by rw [hk]; rfl
        rw [List.getElem?_drop] at this; exact this
      have hk2 : ops.toList.drop (k + 1) = l := by
        have : (ops.toList.drop k).drop 1 = l := by rw [hk]; rfl
        rw [List.drop_drop] at this; exact this
      obtain ⟨m1, m2, m3, m4⟩ := turn_run (P := P) hX hc hi ht
      obtain ⟨n1, n2, n3, n4⟩ := seq_run hX hc l (k + 1) a1 a' s1 s' hk2 h'
      refine ⟨Nat.le_trans m1 n1, n2.trans m2, n3.trans m3, fun ro hro α w act hr hg ho hf ha Q hQ => ?_⟩
      rw [List.length_cons, List.range'_succ, wpOpsIn_cons]
      exact m4 ro hro α w act hr hg ho (hf.left n1) ha _ Q fun β act1 w1 st1 ha1 =>
        n4 ro (hro.trans m3.symm) β w1 act1 st1.rel (hg.mono st1.stp.le) st1.ok (st1.fresh hf) ha1 Q fun γ act2 w2 st2 ha2 => hQ γ act2 w2 (st1.trans hf st2) ha2
theorem region_run (hX : EnvOk P X) (hc : CallOk P X r) {id : Nat} {ops : Array Oper} {a a' : Ev.Act} (h : seqE ops.toList ops.toList X r a s = some (a', s')) :
    s.next ≤ s'.next ∧ a'.N = a.N ∧ a'.rnd = a.rnd ∧ ∀ ro, ro.isSome = a.rnd → ∀ α w act, Rel X α s.heap.get w → Glob α → Ok s → Fresh α s.next s'.next → ActRel α a act →
      (Code.region id ops false).wpIn (W ro) 0 P (Post X α s s' w .normal a') act w := by
  obtain ⟨m1, m2, m3, m4⟩ := seq_run (P := P) hX hc ops.toList 0 a a' s s' rfl h
  refine ⟨m1, m2, m3, fun ro hro α w act hr hg ho hf ha => wpIn_region ?_⟩
  have := m4 ro hro α w act hr hg ho hf ha (Post X α s s' w .normal a') fun β act1 w1 st1 ha1 => ⟨rfl, β, st1, ha1⟩
  rw [List.range_eq_range']
  simpa using this
end
end Go.Ev
namespace Go.Ev
open Go Go.Lib
/-! ### What an operation looks at. -/
section
variable {X : Env} {ev ev' : Operand → AVal}
theorem mapO_congr {o : Option Operand} (h : ∀ x ∈ o.toList, ev x = ev' x) : mapO ev o = mapO ev' o := by
  cases o with
  | none => rfl
  | some x => simp only [mapO]; rw [h x (by simp)]
theorem args_congr {a : Array Operand} (h : ∀ x ∈ a, ev x = ev' x) : a.toList.map ev = a.toList.map ev' :=
  List.map_congr_left fun x hx => h x (by simpa using hx)
theorem parts_congr {a : Array (Nat × Operand)} (h : ∀ p ∈ a, ev p.2 = ev' p.2) : (a.toList.map fun p => (p.1, ev p.2)) = (a.toList.map fun p => (p.1, ev' p.2)) :=
  List.map_congr_left fun x hx => by rw [h x (by simpa using hx)]
theorem rdE_congr {o : Op} (h : ∀ x ∈ o.operands, ev x = ev' x) : rdE o X ev = rdE o X ev' := by
  funext hp
  cases o <;> first | rfl | skip
  case move x => simp only [rdE]; rw [h x (by simp [Op.operands])]
  case assign x => simp only [rdE]; rw [h x (by simp [Op.operands])]
  case pick c a b => simp only [rdE]; rw [h c (by simp [Op.operands]), h a (by simp [Op.operands]), h b (by simp [Op.operands])]
  case build t parts => simp only [rdE]; rw [parts_congr fun p hp => h p.2 (by simp [Op.operands]; exact ⟨p.1, hp⟩)]
  case load t a => simp only [rdE]; rw [h a (by simp [Op.operands])]
  case nilCheck x => simp only [rdE]; rw [h x (by simp [Op.operands])]
  case binOp op t x y c => simp only [rdE]; rw [h x (by simp [Op.operands]), h y (by simp [Op.operands])]
  case unOp op t x => simp only [rdE]; rw [h x (by simp [Op.operands])]
  case convert a b x => simp only [rdE]; rw [h x (by simp [Op.operands])]
  case makeInterface t x => simp only [rdE]; rw [h x (by simp [Op.operands])]
  case makeFunc fn a b => simp only [rdE]; rw [args_congr fun x hx => h x (by simp [Op.operands, hx]), args_congr fun x hx => h x (by simp [Op.operands, hx])]
  case slice t x lo hi mx => simp only [rdE]; rw [h x (by simp [Op.operands]), mapO_congr fun x hx => h x (by simp [Op.operands] at hx ⊢; simp [hx]), mapO_congr fun x hx => h x (by simp [Op.operands] at hx ⊢; simp [hx]), mapO_congr fun x hx => h x (by simp [Op.operands] at hx ⊢; simp [hx])]
  case fieldAddr t x f => simp only [rdE]; rw [h x (by simp [Op.operands])]
  case field t x f => simp only [rdE]; rw [h x (by simp [Op.operands])]
  case indexAddr t x i => simp only [rdE]; rw [h x (by simp [Op.operands]), h i (by simp [Op.operands])]
  case index t x i => simp only [rdE]; rw [h x (by simp [Op.operands]), h i (by simp [Op.operands])]
  case lookup t x i ok => simp only [rdE]; rw [h x (by simp [Op.operands]), h i (by simp [Op.operands])]
  case entry x => simp only [rdE]; rw [h x (by simp [Op.operands])]
  case typeAssert x t a ok => simp only [rdE]; rw [h x (by simp [Op.operands])]
  case extract x i => simp only [rdE]; rw [h x (by simp [Op.operands])]
  case call c => simp only [rdE]; rw [args_congr fun x hx => h x (by simp [Op.operands, Call.operands, hx])]
theorem alE_congr {o : Op} (h : ∀ x ∈ o.operands, ev x = ev' x) : alE o X ev = alE o X ev' := by
  cases o <;> first | rfl | skip
  case box e x => simp only [alE]; rw [h x (by simp [Op.operands])]
  case buildSlice t n parts =>
    simp only [alE]
    cases X.ty.get t with
    | none => rfl
    | some ti =>
      simp only
      cases ti.d <;> first | rfl | skip
      simp only [bsD]
      rw [parts_congr fun p hp => h p.2 (by simp [Op.operands]; exact ⟨p.1, hp⟩)]
  case makeMap t r => cases r <;> rfl
  case makeSlice t l c => simp only [alE]; rw [h l (by simp [Op.operands]), h c (by simp [Op.operands])]
  case convert a b x => simp only [alE]; rw [h x (by simp [Op.operands])]
theorem wrE_congr {o : Op} (h : ∀ x ∈ o.operands, ev x = ev' x) : wrE o X ev = wrE o X ev' := by
  funext s
  cases o <;> first | rfl | skip
  case store t a x => simp only [wrE]; rw [h a (by simp [Op.operands]), h x (by simp [Op.operands])]
  case mapUpdate t m k x => simp only [wrE]; rw [h m (by simp [Op.operands]), h k (by simp [Op.operands]), h x (by simp [Op.operands])]
  case insert t m k x => simp only [wrE]; rw [h m (by simp [Op.operands]), h k (by simp [Op.operands]), h x (by simp [Op.operands])]
  case range t x => simp only [wrE]; rw [h x (by simp [Op.operands])]
  case next x b => simp only [wrE]; rw [h x (by simp [Op.operands])]
  case call c => simp only [wrE]; rw [args_congr fun x hx => h x (by simp [Op.operands, Call.operands, hx])]
theorem callP_congr {o : Op} {r : Rec} (h : ∀ x ∈ o.operands, ev x = ev' x) : callP o X r ev = callP o X r ev' := by
  funext s
  cases o <;> first | rfl | skip
  rename_i c
  obtain ⟨callee, args, tys⟩ := c
  have ha : args.toList.map ev = args.toList.map ev' := args_congr fun x hx => h x (by simp [Op.operands, Call.operands, hx])
  cases callee with
  | builtin b => rfl
  | value f => simp only [callP, callO]; rw [ha, h f (by simp [Op.operands, Call.operands])]
  | invoke x name => simp only [callP, callO]; rw [ha, h x (by simp [Op.operands, Call.operands])]
theorem opV_congr {o : Op} {r : Rec} (h : ∀ x ∈ o.operands, ev x = ev' x) (s : St) : opV X r o ev s = opV X r o ev' s := by
  unfold opV
  rw [rdE_congr h, alE_congr h, wrE_congr h, callP_congr h]
end
/-- the operands alone -/
noncomputable def only (o : Op) (ev : Operand → AVal) (x : Operand) : AVal := by
  classical exact if x ∈ o.operands then ev x else .bad
theorem only_eq {o : Op} {ev : Operand → AVal} : ∀ x ∈ o.operands, ev x = only o ev x := fun x hx => by unfold only; rw [if_pos hx]
theorem only_rel {α : Al} {o : Op} {ev : Operand → AVal} {ρ : Operand → Value} (h : ∀ x ∈ o.operands, VRel α (ev x) (ρ x)) (x : Operand) : VRel α (only o ev x) (ρ x) := by
  unfold only
  by_cases hx : x ∈ o.operands
  · rw [if_pos hx]; exact h x hx
  · rw [if_neg hx]; exact .bad _
theorem tmpsOf_mem {t : Nat} : ∀ {l : List Operand}, Operand.tmp t ∈ l → t ∈ tmpsOf l
  | [], h => by cases h
  | x :: l, h => by
    rcases List.mem_cons.1 h with rfl | h
    · exact List.mem_cons_self
    · have := tmpsOf_mem h
      cases x <;> simp only [tmpsOf] <;> first | exact this | exact List.mem_cons_of_mem _ this
/-- the operands, where the temporaries that are looked at are as they should be -/
theorem looks_rel {α : Al} {ops : List Oper} {o : Oper} {tm : Tr AVal} {act : Go.Act} (hg : Glob α) (ht : ∀ t, t ∈ looks ops o → VRel α (orUndef (tm.get t)) (act.tmps.getD t undef)) : ∀ x ∈ o.op.operands, VRel α (evalO tm x) (act.eval x) := by
  intro x hx
  cases x with
  | tmp t => exact ht t (List.mem_append_left _ (tmpsOf_mem (by simpa using hx)))
  | const v => exact ofV_rel α v
  | global g =>
    have : evalO tm (.global g) = @Bool.rec (fun _ => AVal) .bad (.ptr g 0) (Nat.ble g 1023) := rfl
    rw [this, brec]
    cases hb : Nat.ble g 1023
    · exact .bad _
    · obtain ⟨L, a, b, c⟩ := hg g (Nat.le_of_ble_eq_true hb)
      have h1 := VRel.ptr (off := 0) a
      rw [b, c] at h1
      exact h1
  | func f => exact .func (fun l e => by cases e) .nil .nil
end Go.Ev
namespace Go.Ev
open Go Go.Lib
/-! ### The static checks of a region that draws. -/
theorem bindsA_eq (e : Edge) : bindsA e = Region.binds .any e := by
  unfold bindsA Region.binds
  cases e.ground <;> rfl
theorem maskOf_bit {ms : List Nat} {b : Nat} : ∀ {es : List Edge} {m0 : Nat}, Nat.testBit (maskOf ms es m0) b = true → Nat.testBit m0 b = true ∨ ∃ e ∈ es, bindsA e = true ∧ (b = e.on ∨ ∃ x, ms[e.on]? = some x ∧ Nat.testBit x b = true)
  | [], m0, h => .inl h
  | e :: es, m0, h => by
    simp only [maskOf, brec] at h
    cases hb : bindsA e
    · rw [hb] at h
      rcases maskOf_bit h with h1 | ⟨e', h1, h2⟩
      · exact .inl h1
      · exact .inr ⟨e', List.mem_cons_of_mem _ h1, h2⟩
    · rw [hb] at h
      simp only [cond_true] at h
      rcases maskOf_bit h with h1 | ⟨e', h1, h2⟩
      · rw [show Nat.lor = (fun a b => a ||| b) from rfl] at h1
        simp only [Nat.testBit_or, Bool.or_eq_true] at h1
        rcases h1 with (h1 | h1) | h1
        · exact .inl h1
        · rw [Nat.testBit_two_pow] at h1
          exact .inr ⟨e, List.mem_cons_self, hb, .inl (by simpa using h1 : e.on = b).symm⟩
        · rw [nth_eq] at h1
          cases hx : ms[e.on]? with
          | none => rw [hx] at h1; simp at h1
          | some x => rw [hx] at h1; exact .inr ⟨e, List.mem_cons_self, hb, .inr ⟨x, hx, h1⟩⟩
      · exact .inr ⟨e', List.mem_cons_of_mem _ h1, h2⟩
theorem masks_len : ∀ (l : List Oper) (ms : List Nat), (masks l ms).length = ms.length + l.length
  | [], ms => rfl
  | o :: l, ms => by simp only [masks]; rw [masks_len l]; simp; omega
theorem masks_old : ∀ (l : List Oper) (ms : List Nat) (i : Nat), i < ms.length → (masks l ms)[i]? = ms[i]?
  | [], ms, i, h => rfl
  | o :: l, ms, i, h => by simp only [masks]; rw [masks_old l _ i (by simp; omega), List.getElem?_append_left h]
theorem masks_new : ∀ (l : List Oper) (ms : List Nat) (i : Nat) (o : Oper), l[i]? = some o → ∃ ps, (masks l ms)[ms.length + i]? = some (maskOf ps o.after.toList 0) ∧ ∀ j, j < ps.length → (masks l ms)[j]? = ps[j]?
  | [], ms, i, o, h => by simp at h
  | p :: l, ms, 0, o, h => by
    simp at h; subst h
    refine ⟨ms, ?_, fun j hj => ?_⟩
    · simp only [masks]; rw [masks_old l _ _ (by simp), Nat.add_zero, List.getElem?_append_right (Nat.le_refl _)]; simp
    · simp only [masks]; rw [masks_old l _ _ (by simp; omega), List.getElem?_append_left hj]
  | p :: l, ms, i + 1, o, h => by
    simp at h
    obtain ⟨ps, h1, h2⟩ := masks_new l (ms ++ [maskOf ms p.after.toList 0]) i o h
    refine ⟨ps, ?_, h2⟩
    simp only [masks]
    rw [← h1]; congr 1; simp; omega
/-- a bit of a mask is an edge, or a bit of the mask of what the edge leads to -/
theorem mask_bit {l : List Oper} {i b m : Nat} {o : Oper} (hi : l[i]? = some o) (hm : (masks l [])[i]? = some m) (hb : Nat.testBit m b = true) :
    ∃ e ∈ o.after, bindsA e = true ∧ (b = e.on ∨ ∃ x, (masks l [])[e.on]? = some x ∧ Nat.testBit x b = true) := by
  obtain ⟨ps, h1, h2⟩ := masks_new l [] i o hi
  simp only [List.length_nil, Nat.zero_add] at h1
  rw [h1] at hm; cases hm
  rcases maskOf_bit hb with h3 | ⟨e, h3, h4, h5⟩
  · simp at h3
  · refine ⟨e, by simpa using h3, h4, ?_⟩
    rcases h5 with h5 | ⟨x, h5, h6⟩
    · exact .inl h5
    · refine .inr ⟨x, ?_, h6⟩
      rw [h2 _ (List.getElem?_eq_some_iff.1 h5).1]; exact h5
theorem edgesOk_spec {i : Nat} : ∀ {l : List Edge}, edgesOk i l = true → ∀ e ∈ l, bindsA e = true → e.on < i
  | [], _, e, he, _ => by cases he
  | d :: l, h, e, he, hb => by
    simp only [edgesOk, brec, Bool.and_eq_true] at h
    rcases List.mem_cons.1 he with rfl | he
    · rw [hb] at h; exact Nat.le_of_ble_eq_true h.1
    · exact edgesOk_spec h.2 e he hb
theorem pairOk_spec {ops : List Oper} {i : Nat} {x : Oper} : ∀ {l : List (Oper × Nat)}, pairOk ops i x l = true → ∀ (j : Nat) (y : Oper) (m : Nat), l[j]? = some (y, m) →
    unlikeD x.dst y.dst = true ∧ (Nat.testBit m i = true ∨ (notIn x.dst (looks ops y) = true ∧ notIn y.dst (looks ops x) = true ∧ (isW x && isW y) = false))
  | [], _, j, y, m, hj => by simp at hj
  | (y0, m0) :: l, h, j, y, m, hj => by
    simp only [pairOk, brec, Bool.and_eq_true] at h
    cases j with
    | zero =>
      simp at hj; obtain ⟨rfl, rfl⟩ := hj
      refine ⟨h.1.1, ?_⟩
      cases hb : Nat.testBit m0 i
      · have h2 := h.1.2
        rw [hb] at h2
        simp only [cond_false, Bool.and_eq_true] at h2
        refine .inr ⟨h2.1.1, h2.1.2, ?_⟩
        have h3 := h2.2
        cases hq : (isW x && isW y0)
        · rfl
        · rw [hq] at h3; cases h3
      · exact .inl rfl
    | succ j => simp at hj; exact pairOk_spec h.2 j y m hj
theorem pairsOk_spec {ops : List Oper} : ∀ {l : List (Oper × Nat)} {i : Nat}, pairsOk ops i l = true → ∀ (k : Nat) (x : Oper) (mx : Nat), l[k]? = some (x, mx) →
    (∀ e ∈ x.after, bindsA e = true → e.on < i + k) ∧ ∀ (j : Nat) (y : Oper) (m : Nat), k < j → l[j]? = some (y, m) →
      unlikeD x.dst y.dst = true ∧ (Nat.testBit m (i + k) = true ∨ (notIn x.dst (looks ops y) = true ∧ notIn y.dst (looks ops x) = true ∧ (isW x && isW y) = false))
  | [], i, _, k, x, mx, hk => by simp at hk
  | (x0, m0) :: l, i, h, k, x, mx, hk => by
    simp only [pairsOk, Bool.and_eq_true] at h
    cases k with
    | zero =>
      simp at hk; obtain ⟨rfl, rfl⟩ := hk
      refine ⟨fun e he hb => edgesOk_spec h.1.1 e (by simpa using he) hb, fun j y m hj hy => ?_⟩
      cases j with
      | zero => omega
      | succ j => simp at hy; exact pairOk_spec h.1.2 j y m hy
    | succ k =>
      simp at hk
      obtain ⟨h1, h2⟩ := pairsOk_spec h.2 k x mx hk
      refine ⟨fun e he hb => by have := h1 e he hb; omega, fun j y m hj hy => ?_⟩
      cases j with
      | zero => omega
      | succ j =>
        simp at hy
        have := h2 j y m (by omega) hy
        rw [show i + 1 + k = i + (k + 1) by omega] at this; exact this
theorem notIn_spec {d : Nat} {l : List Nat} (h : notIn (some d) l = true) : d ∉ l := by
  simp only [notIn, Bool.not_eq_true'] at h
  rw [hasN_eq] at h
  intro hd
  simp [hd] at h
theorem unlikeD_spec {a b : Option Nat} {d : Nat} (h : unlikeD a b = true) (ha : a = some d) : b ≠ some d := by
  rintro rfl; subst ha
  simp [unlikeD] at h
/-! ### The path through a region in the text's order. -/
theorem foldE_path {f : TrSt → Oper → Option TrSt} : ∀ {l : List Oper} {t t' : TrSt}, foldE f l t = some t' → ∃ p : Nat → TrSt, p 0 = t ∧ p l.length = t' ∧ ∀ i o, l[i]? = some o → f (p i) o = some (p (i + 1))
  | [], t, t', h => by cases h; exact ⟨fun _ => t, rfl, rfl, fun i o hi => by simp at hi⟩
  | o :: l, t, t', h => by
    have h' : foldT (foldE f l) (f t o) = some t' := h
    cases hf : f t o with
    | none => rw [hf] at h'; cases h'
    | some t1 =>
      rw [hf] at h'
      obtain ⟨p, h1, h2, h3⟩ := foldE_path (l := l) h'
      refine ⟨fun i => match i with | 0 => t | i + 1 => p i, rfl, h2, fun i o' hi => ?_⟩
      cases i with
      | zero => simp at hi; subst hi; simp only [h1]; exact hf
      | succ i => simp at hi; exact h3 i o' hi
end Go.Ev
namespace Go.Ev
open Go Go.Lib
section
variable {X : Env} {r : Rec} {all : List Oper} {t t' : TrSt} {o : Oper}
theorem kd_al (h : kdOf o = .al) : ∃ e, o.guard = none ∧ o.op = .alloc e ∧ allocT o.guard o.op = some e := by
  unfold kdOf at h
  cases hg : o.guard with
  | some q => rw [hg] at h; simp only [allocT, kdT] at h; cases hb : isWC (clsK o.op) <;> rw [hb] at h <;> cases h
  | none =>
    rw [hg] at h
    cases ho : o.op <;> rw [ho] at h <;> first | (simp only [allocT, kdT] at h; (first | (cases h; done) | (generalize isWC _ = b at h; cases b <;> cases h)); done) | skip
    exact ⟨_, rfl, rfl, rfl⟩
theorem kd_not_al (h : kdOf o ≠ .al) : allocT o.guard o.op = none := by
  cases ha : allocT o.guard o.op with
  | none => rfl
  | some e => exact absurd (by unfold kdOf; rw [ha]; rfl) h
theorem tr_al (hk : kdOf o = .al) (h : trStep X r all t o = some t') : putE t.a o.dst (.ptr t.nm 0) = some t'.a ∧ t'.s = t.s ∧ t'.k = t.k ∧ t'.hs = t.hs ∧ t'.ns = t.ns ∧ t'.i = t.i + 1 ∧ t'.nm = t.nm + 1 := by
  unfold trStep at h
  rw [hk] at h
  simp only [trK] at h
  cases hp : putE t.a o.dst (.ptr t.nm 0) with
  | none => rw [hp] at h; cases h
  | some a => rw [hp] at h; cases h; exact ⟨rfl, rfl, rfl, rfl, rfl, rfl, rfl⟩
theorem tr_wr (hk : kdOf o = .wr) (h : trStep X r all t o = some t') : clsO o.op ≠ .dfr ∧ turnE X r all o t.a t.s = some (t'.a, t'.s) ∧ t'.k = t.k + 1 ∧ t'.hs = t'.s.heap :: t.hs ∧ t'.ns = t.ns ∧ t'.i = t.i + 1 ∧ t'.nm = t.nm := by
  unfold trStep at h
  rw [hk] at h
  simp only [trK, brec, clsK_eq] at h
  cases hd : isDfr (clsO o.op)
  · rw [hd] at h
    simp only [cond_false] at h
    cases hp : turnE X r all o t.a t.s with
    | none => rw [hp] at h; cases h
    | some q =>
      obtain ⟨a, s⟩ := q
      rw [hp] at h; cases h
      exact ⟨fun e => (by rw [e] at hd; cases hd), rfl, rfl, rfl, rfl, rfl, rfl⟩
  · rw [hd] at h; cases h
theorem tr_rd (hk : kdOf o = .rd) (h : trStep X r all t o = some t') :
    ((wantedE all o t.a.tm = some true ∧ ∃ v, rdE o.op X (evalO t.a.tm) t.s.heap = some v ∧ putE t.a o.dst v = some t'.a ∧ t'.ns = { i := t.i, o, tm := t.a.tm, v, k := t.k } :: t.ns) ∨
     (wantedE all o t.a.tm = some false ∧ putE t.a o.dst undefA = some t'.a ∧ t'.ns = t.ns)) ∧ t'.s = t.s ∧ t'.k = t.k ∧ t'.hs = t.hs ∧ t'.i = t.i + 1 ∧ t'.nm = t.nm := by
  unfold trStep at h
  rw [hk] at h
  simp only [trK] at h
  cases hw : wantedE all o t.a.tm with
  | none => rw [hw] at h; cases h
  | some b =>
    rw [hw] at h
    cases b
    · simp only [trW] at h
      cases hp : putE t.a o.dst undefA with
      | none => rw [hp] at h; cases h
      | some a => rw [hp] at h; cases h; exact ⟨.inr ⟨rfl, rfl, rfl⟩, rfl, rfl, rfl, rfl, rfl⟩
    · simp only [trW, rdK_eq] at h
      cases hr : rdE o.op X (evalO t.a.tm) t.s.heap with
      | none => rw [hr] at h; cases h
      | some v =>
        rw [hr] at h
        simp only [trRv] at h
        cases hp : putE t.a o.dst v with
        | none => rw [hp] at h; cases h
        | some a => rw [hp] at h; cases h; exact ⟨.inl ⟨rfl, v, rfl, hp, rfl⟩, rfl, rfl, rfl, rfl, rfl⟩
theorem turn_put {a a' : Ev.Act} {s s' : St} (hd : clsO o.op ≠ .dfr) (h : turnE X r all o a s = some (a', s')) :
    (wantedE all o a.tm = some true ∧ ∃ v, opV X r o.op (evalO a.tm) s = some (v, s') ∧ putE a o.dst v = some a') ∨ (wantedE all o a.tm = some false ∧ s' = s ∧ putE a o.dst undefA = some a') := by
  unfold turnE at h
  cases hw : wantedE all o a.tm with
  | none => rw [hw] at h; cases h
  | some b =>
    rw [hw] at h
    cases b
    · simp only [turnW] at h
      obtain ⟨v, h1, h2⟩ := put1_some h
      cases h1; exact .inr ⟨rfl, rfl, h2⟩
    · simp only [turnW] at h
      obtain ⟨v, h1, h2⟩ := opE_val hd h
      exact .inl ⟨rfl, v, h1, h2⟩
end
/-- a path through a region in the text's order -/
structure Path (X : Env) (r : Rec) (ops : Array Oper) (p : Nat → TrSt) : Prop where
  step : ∀ i o, ops[i]? = some o → trStep X r ops.toList (p i) o = some (p (i + 1))
  i0 : (p 0).i = 0
  k0 : (p 0).k = 0
  hs0 : (p 0).hs = [(p 0).s.heap]
  ns0 : (p 0).ns = []
section
variable {X : Env} {r : Rec} {ops : Array Oper} {p : Nat → TrSt}
theorem Path.put (hp : Path X r ops p) {i : Nat} {o : Oper} (hi : ops[i]? = some o) : ∃ v, putE (p i).a o.dst v = some (p (i + 1)).a := by
  have h := hp.step i o hi
  cases hk : kdOf o
  · exact ⟨_, (tr_al hk h).1⟩
  · obtain ⟨h1, h2, _⟩ := tr_wr hk h
    rcases turn_put h1 h2 with ⟨_, v, _, h3⟩ | ⟨_, _, h3⟩
    · exact ⟨v, h3⟩
    · exact ⟨_, h3⟩
  · rcases (tr_rd hk h).1 with ⟨_, v, _, h3, _⟩ | ⟨_, h3, _⟩
    · exact ⟨v, h3⟩
    · exact ⟨_, h3⟩
theorem Path.idx (hp : Path X r ops p) : ∀ i, i ≤ ops.size → (p i).i = i ∧ (p i).a.N = (p 0).a.N ∧ (p i).a.rnd = (p 0).a.rnd ∧ (p i).a.defers = (p 0).a.defers
  | 0, _ => ⟨hp.i0, rfl, rfl, rfl⟩
  | i + 1, h => by
    have hi : ops[i]? = some ops[i] := Array.getElem?_eq_getElem (by omega)
    obtain ⟨h1, h2, h3, h4⟩ := hp.idx i (by omega)
    have hs := hp.step i _ hi
    obtain ⟨v, hv⟩ := hp.put hi
    obtain ⟨k1, k2, k3⟩ := putE_keeps hv
    refine ⟨?_, k1.trans h2, k2.trans h3, k3.trans h4⟩
    cases hk : kdOf ops[i]
    · rw [(tr_al hk hs).2.2.2.2.2.1, h1]
    · rw [(tr_wr hk hs).2.2.2.2.2.1, h1]
    · rw [(tr_rd hk hs).2.2.2.2.1, h1]
theorem put_get {a a' : Ev.Act} {d : Option Nat} {v : AVal} (h : putE a d v = some a') (t : Nat) : a'.tm.get t = if d = some t then some v else a.tm.get t := by
  cases d with
  | none => cases h; simp
  | some q =>
    simp only [putE, brec] at h
    cases hb : Nat.ble (q + 1) a.N
    · rw [hb] at h; cases h
    · rw [hb] at h; cases h
      show (a.tm.set q v).get t = _
      rw [Tr.get_set]
      by_cases e : t = q
      · subst e; simp
      · rw [if_neg e, if_neg (fun h => e (Option.some.inj h).symm)]
theorem Path.tm_keep (hp : Path X r ops p) {i t : Nat} : ∀ j, i ≤ j → j ≤ ops.size → (∀ l o, i ≤ l → l < j → ops[l]? = some o → o.dst ≠ some t) → (p j).a.tm.get t = (p i).a.tm.get t
  | 0, h, _, _ => by have : i = 0 := by omega
                     subst this; rfl
  | j + 1, h, hj, hd => by
    by_cases e : i = j + 1
    · subst e; rfl
    · have hi : ops[j]? = some ops[j] := Array.getElem?_eq_getElem (by omega)
      obtain ⟨v, hv⟩ := hp.put hi
      rw [put_get hv, if_neg (hd j _ (by omega) (by omega) hi)]
      exact hp.tm_keep j (by omega) (by omega) fun l o h1 h2 => hd l o h1 (by omega)
theorem Path.k_mono (hp : Path X r ops p) {i : Nat} : ∀ j, i ≤ j → j ≤ ops.size → (p i).k ≤ (p j).k ∧ ((p i).k = (p j).k → (p i).s = (p j).s)
  | 0, h, _ => by have : i = 0 := by omega
                  subst this; exact ⟨Nat.le_refl _, fun _ => rfl⟩
  | j + 1, h, hj => by
    by_cases e : i = j + 1
    · subst e; exact ⟨Nat.le_refl _, fun _ => rfl⟩
    · obtain ⟨h1, h2⟩ := hp.k_mono j (by omega) (by omega) (i := i)
      have hi : ops[j]? = some ops[j] := Array.getElem?_eq_getElem (by omega)
      have hs := hp.step j _ hi
      cases hk : kdOf ops[j]
      · obtain ⟨_, g1, g2, _⟩ := tr_al hk hs
        rw [g1, g2]; exact ⟨h1, h2⟩
      · obtain ⟨_, _, g2, _⟩ := tr_wr hk hs
        rw [g2]; exact ⟨by omega, fun e => by omega⟩
      · obtain ⟨_, g1, g2, _⟩ := tr_rd hk hs
        rw [g1, g2]; exact ⟨h1, h2⟩
theorem Path.same (hp : Path X r ops p) {i j : Nat} (hi : i ≤ ops.size) (hj : j ≤ ops.size) (h : (p i).k = (p j).k) : (p i).s = (p j).s := by
  rcases Nat.le_total i j with h1 | h1
  · exact (hp.k_mono j h1 hj).2 h
  · exact ((hp.k_mono i h1 hi).2 h.symm).symm
theorem Path.heaps (hp : Path X r ops p) : ∀ j, j ≤ ops.size → (p j).hs.length = (p j).k + 1 ∧ ∀ i, i ≤ j → (p j).hs.reverse[(p i).k]? = some (p i).s.heap
  | 0, _ => by
    rw [hp.hs0, hp.k0]
    refine ⟨rfl, fun i hi => ?_⟩
    have : i = 0 := by omega
    subst this; rw [hp.k0]; rfl
  | j + 1, hj => by
    obtain ⟨h1, h2⟩ := hp.heaps j (by omega)
    have hi : ops[j]? = some ops[j] := Array.getElem?_eq_getElem (by omega)
    have hs := hp.step j _ hi
    cases hk : kdOf ops[j]
    · obtain ⟨_, g1, g2, g3, _⟩ := tr_al hk hs
      rw [g2, g3]
      refine ⟨h1, fun i hi => ?_⟩
      by_cases e : i = j + 1
      · subst e; rw [g2, g1]; exact h2 j (Nat.le_refl _)
      · exact h2 i (by omega)
    · obtain ⟨_, _, g2, g3, _⟩ := tr_wr hk hs
      rw [g2, g3]
      refine ⟨by simp [h1], fun i hi => ?_⟩
      rw [List.reverse_cons]
      by_cases e : i = j + 1
      · subst e
        rw [g2, List.getElem?_append_right (by simp [h1])]
        simp [h1]
      · have hlt : (p i).k < (p j).hs.reverse.length := by
          have := (hp.k_mono j (by omega) (by omega) (i := i)).1
          simp [h1]; omega
        rw [List.getElem?_append_left hlt]; exact h2 i (by omega)
    · obtain ⟨_, g1, g2, g3, _⟩ := tr_rd hk hs
      rw [g2, g3]
      refine ⟨h1, fun i hi => ?_⟩
      by_cases e : i = j + 1
      · subst e; rw [g2, g1]; exact h2 j (Nat.le_refl _)
      · exact h2 i (by omega)
theorem Path.notes (hp : Path X r ops p) {i : Nat} : ∀ j, i ≤ j → j ≤ ops.size → ∀ n ∈ (p i).ns, n ∈ (p j).ns
  | 0, h, _, n, hn => by have : i = 0 := by omega
                         subst this; exact hn
  | j + 1, h, hj, n, hn => by
    by_cases e : i = j + 1
    · subst e; exact hn
    · have h1 := hp.notes j (by omega) (by omega) n hn
      have hi : ops[j]? = some ops[j] := Array.getElem?_eq_getElem (by omega)
      have hs := hp.step j _ hi
      cases hk : kdOf ops[j]
      · rw [(tr_al hk hs).2.2.2.2.1]; exact h1
      · rw [(tr_wr hk hs).2.2.2.2.1]; exact h1
      · rcases (tr_rd hk hs).1 with ⟨_, v, _, _, g⟩ | ⟨_, _, g⟩
        · rw [g]; exact List.mem_cons_of_mem _ h1
        · rw [g]; exact h1
theorem Path.next_mono (hp : Path X r ops p) (hX : ∀ i o, ops[i]? = some o → kdOf o = .wr → (p i).s.next ≤ (p (i + 1)).s.next) {i : Nat} : ∀ j, i ≤ j → j ≤ ops.size → (p i).s.next ≤ (p j).s.next
  | 0, h, _ => by have : i = 0 := by omega
                  subst this; exact Nat.le_refl _
  | j + 1, h, hj => by
    by_cases e : i = j + 1
    · subst e; exact Nat.le_refl _
    · have h1 := hp.next_mono hX j (by omega) (by omega) (i := i)
      have hi : ops[j]? = some ops[j] := Array.getElem?_eq_getElem (by omega)
      have hs := hp.step j _ hi
      cases hk : kdOf ops[j]
      · rw [(tr_al hk hs).2.1]; exact h1
      · exact Nat.le_trans h1 (hX j _ hi hk)
      · rw [(tr_rd hk hs).2.1]; exact h1
end
/-! ### What a note says. -/
theorem beqL_spec {f : AVal → AVal → Bool} (hf : ∀ x y, f x y = true → x = y) : ∀ {l m : List AVal}, beqL f l m = true → l = m
  | [], [], _ => rfl
  | [], _ :: _, h => by cases h
  | _ :: _, [], h => by cases h
  | a :: l, b :: m, h => by
    simp only [beqL, brec] at h
    cases hab : f a b
    · rw [hab] at h; cases h
    · rw [hab] at h; rw [hf _ _ hab, beqL_spec hf h]
theorem beqF_spec : ∀ (n : Nat) (x y : AVal), beqF n x y = true → x = y
  | 0, x, y, h => by cases h
  | n + 1, x, y, h => by
    have ih := beqF_spec n
    unfold beqF at h
    split at h <;> first | rfl | (cases h; done) | skip
    · rw [Bool.and_eq_true, kEq_eq, eqI_eq] at h
      obtain ⟨h1, h2⟩ := h
      simp at h1 h2; subst h1; subst h2; rfl
    · rw [beqN_eq] at h; simp at h; subst h; rfl
    · rw [Bool.and_eq_true] at h
      rw [Nat.eq_of_beq_eq_true h.1, Nat.eq_of_beq_eq_true h.2]
    · rename_i a b c d e a' b' c' d' e'
      simp only [Bool.and_eq_true] at h
      obtain ⟨⟨⟨⟨h1, h2⟩, h3⟩, h4⟩, h5⟩ := h
      rw [Nat.eq_of_beq_eq_true h1, Nat.eq_of_beq_eq_true h2, Nat.eq_of_beq_eq_true h3, Nat.eq_of_beq_eq_true h4]
      cases e <;> cases e' <;> first | rfl | cases h5
    · rw [Nat.eq_of_beq_eq_true h]
    · rw [Nat.eq_of_beq_eq_true h]
    · simp only [Bool.and_eq_true] at h
      rw [Nat.eq_of_beq_eq_true h.1.1, beqL_spec ih h.1.2, beqL_spec ih h.2]
    · simp only [Bool.and_eq_true] at h
      rw [Nat.eq_of_beq_eq_true h.1, ih _ _ h.2]
    · rw [beqL_spec ih h]
    · rw [beqL_spec ih h]
theorem sameFrom_spec {X : Env} {n : Note} {lo hi : Nat} : ∀ {hs : List (Tr AObj)} {k0 : Nat}, sameFrom X n hs k0 lo hi = true → ∀ (j : Nat) (h : Tr AObj), hs[j]? = some h → lo ≤ k0 + j → k0 + j ≤ hi → k0 + j ≠ n.k → rdE n.o.op X (evalO n.tm) h = some n.v
  | [], k0, _, j, h, hj, _, _, _ => by simp at hj
  | h0 :: hs, k0, hsame, j, h, hj, h1, h2, h3 => by
    simp only [sameFrom, brec, Bool.and_eq_true] at hsame
    cases j with
    | zero =>
      simp at hj; subst hj
      have hc : (Nat.ble lo k0 && (Nat.ble k0 hi && !Nat.beq k0 n.k)) = true := by
        rw [Bool.and_eq_true, Bool.and_eq_true]
        refine ⟨Nat.ble_eq_true_of_le h1, Nat.ble_eq_true_of_le h2, ?_⟩
        rw [beq_false (show k0 ≠ n.k from h3)]; rfl
      rw [hc] at hsame
      have hs1 : isSome n.v (rdK n.o.op X (evalO n.tm) h0) = true := hsame.1
      rw [rdK_eq] at hs1
      cases hr : rdE n.o.op X (evalO n.tm) h0 with
      | none => rw [hr] at hs1; cases hs1
      | some u => rw [hr] at hs1; rw [beqF_spec 5 _ _ hs1]
    | succ j =>
      simp at hj
      exact sameFrom_spec hsame.2 j h hj (by omega) (by omega) (by omega)
theorem notesOk_spec {X : Env} {zs : List (Oper × Nat)} {hs : List (Tr AObj)} : ∀ {ns : List Note}, notesOk X zs hs ns = true → ∀ n ∈ ns, noteOk X zs hs n (nth zs n.i) = true
  | [], _, n, hn => by cases hn
  | m :: ns, h, n, hn => by
    simp only [notesOk, Bool.and_eq_true] at h
    rcases List.mem_cons.1 hn with rfl | hn
    · exact h.1
    · exact notesOk_spec h.2 n hn
theorem cnt_le {p q : Oper → Nat → Nat → Bool} : ∀ {l : List (Oper × Nat)} {j : Nat}, (∀ (i : Nat) (o : Oper) (m : Nat), l[i]? = some (o, m) → p o m (j + i) = true → q o m (j + i) = true) → cnt p l j ≤ cnt q l j
  | [], j, _ => Nat.le_refl _
  | (o, m) :: l, j, h => by
    simp only [cnt, brec]
    have ih : cnt p l (j + 1) ≤ cnt q l (j + 1) := cnt_le fun i o' m' hi hp => by
      have := h (i + 1) o' m' (by simpa using hi)
      rw [show j + (i + 1) = j + 1 + i by omega] at this
      exact this hp
    have h0 := h 0 o m (by simp)
    simp only [Nat.add_zero] at h0
    cases hp : p o m j <;> cases hq : q o m j <;> simp only [cond_true, cond_false]
    · exact ih
    · omega
    · rw [hp] at h0; rw [h0 rfl] at hq; cases hq
    · omega
theorem cnt_congr {p q : Oper → Nat → Nat → Bool} {l : List (Oper × Nat)} {j : Nat} (h : ∀ (i : Nat) (o : Oper) (m : Nat), l[i]? = some (o, m) → p o m (j + i) = q o m (j + i)) : cnt p l j = cnt q l j :=
  Nat.le_antisymm (cnt_le fun i o m hi hp => by rw [← h i o m hi]; exact hp) (cnt_le fun i o m hi hp => by rw [h i o m hi]; exact hp)
end Go.Ev
namespace Go.Ev
open Go Go.Lib
section
variable {P : Program} {X : Env} {α α0 : Al} {s s' s0 : St} {w w0 : World}
/-- how many are laid first -/
noncomputable def isAl (o : Oper) : Bool := (allocT o.guard o.op).isSome
theorem hoist_spec : ∀ {l : List Oper} {s s0 : St}, hoistE X l s = some s0 → Ok s →
    Ok s0 ∧ HGrow s s0 ∧ s.next ≤ s0.next ∧ s0.next = s.next + (l.filter isAl).length ∧ (∀ r, r < s.next → s0.heap.get r = s.heap.get r) ∧
    ∀ i o e, l[i]? = some o → allocT o.guard o.op = some e → ∃ ti, X.ty.get e = some ti ∧ s0.heap.get (s.next + ((l.take i).filter isAl).length) = some (.cells ti.zv.cells e false false false [])
  | [], s, s0, h, ho => by
    cases h
    exact ⟨ho, HGrow.refl _, Nat.le_refl _, rfl, fun _ _ => rfl, fun i o e hi => by simp at hi⟩
  | o :: l, s, s0, h, ho => by
    simp only [hoistE] at h
    cases ha : allocT o.guard o.op with
    | none =>
      rw [ha] at h
      obtain ⟨h1, h2, h3, h4, h5, h6⟩ := hoist_spec (l := l) h ho
      have hn : isAl o = false := by unfold isAl; rw [ha]; rfl
      refine ⟨h1, h2, h3, by simp [List.filter_cons, hn, h4], h5, fun i o' e hi he => ?_⟩
      cases i with
      | zero => simp at hi; subst hi; rw [ha] at he; cases he
      | succ i =>
        simp at hi
        obtain ⟨ti, k1, k2⟩ := h6 i o' e hi he
        exact ⟨ti, k1, by simpa [List.filter_cons, hn] using k2⟩
    | some e =>
      rw [ha] at h
      simp only [hoistA] at h
      cases hte : X.ty.get e with
      | none => rw [hte] at h; cases h
      | some ti =>
        rw [hte] at h
        simp only [hoistO] at h
        have ho1 : Ok (alloc s (.cells ti.zv.cells e false false false [])) := by
          refine ⟨fun r hr => ?_, fun r p hp q hq => ?_⟩
          · have : s.next + 1 ≤ r := hr
            rw [get_alloc, if_neg (by omega)]; exact ho.free r (by omega)
          · rw [get_alloc] at hp
            show q < s.next + 1
            split at hp
            · cases hp; cases hq
            · have := ho.anc r p hp q hq; omega
        obtain ⟨h1, h2, h3, h4, h5, h6⟩ := hoist_spec (l := l) h ho1
        have hn : isAl o = true := by unfold isAl; rw [ha]; rfl
        have e1 : (alloc s (.cells ti.zv.cells e false false false [])).next = s.next + 1 := rfl
        have hg1 : HGrow s (alloc s (.cells ti.zv.cells e false false false [])) := by
          refine ⟨Nat.le_succ _, fun r hr o' ho' hd => ⟨o', ?_, hd⟩, fun r hr => ?_⟩
          · rw [get_alloc, if_neg (by omega)] at ho'; exact ho'
          · have : s.next + 1 ≤ r := hr
            rw [get_alloc, if_neg (by omega)]
        rw [e1] at h3 h4 h5 h6
        refine ⟨h1, hg1.trans h2, by omega, by simp [List.filter_cons, hn, h4]; omega, fun r hr => ?_, fun i o' e' hi he => ?_⟩
        · rw [h5 r (by omega), get_alloc, if_neg (by omega)]
        · cases i with
          | zero =>
            simp at hi; subst hi
            rw [ha] at he; cases he
            refine ⟨ti, hte, ?_⟩
            simp only [List.take_zero, List.filter_nil, List.length_nil, Nat.add_zero]
            rw [h5 _ (by omega), get_alloc, if_pos rfl]
          | succ i =>
            simp at hi
            obtain ⟨tj, k1, k2⟩ := h6 i o' e' hi he
            refine ⟨tj, k1, ?_⟩
            simp only [List.take_succ_cons, List.filter_cons, hn, if_true, List.length_cons]
            rw [← k2]; congr 1; omega
/-- what was laid first has no place yet -/
theorem step_hoist {l : List Oper} (h : hoistE X l s = some s0) (hr : Rel X α s.heap.get w) (ho : Ok s) (hf : Fresh α s.next s0.next) : Step X α α s s0 w w := by
  obtain ⟨h1, h2, h3, h4, h5, h6⟩ := hoist_spec h ho
  refine ⟨hr.sub fun r L o ha hg => ?_, ⟨.refl α, fun _ _ h => .inl h, rfl, rfl, Nat.le_refl _, fun _ _ _ => rfl, fun _ _ h => .inl h, h3⟩, h2, h1, fun r hr _ => .inl (h5 r hr)⟩
  rcases Nat.lt_or_ge r s.next with hlt | hge
  · rw [← h5 r hlt]; exact hg
  · have := h1.lt hg
    rw [hf r hge this] at ha; cases ha
/-- what was laid first comes to its place -/
theorem step_late (st : Step X α0 α s s0 w0 w) {m e : Nat} {zc : List AVal} {C : Array Value} (hm : α m = none) (h1 : s.next ≤ m) (h2 : m < s0.next) (ho : s0.heap.get m = some (.cells zc e false false false []) ∨ s0.heap.get m = some .dead) (hc : VRels α zc C.toList) :
    Step X α0 (updA α m ⟨w.heap.size, 0, C.size, 0⟩) s s0 w0 (pushW w (.cells C e)) := by
  have hle := AlLe.upd (α := α) (n := m) ⟨w.heap.size, 0, C.size, 0⟩ hm
  have hsz : (pushW w (.cells C e)).heap.size = w.heap.size + 1 := by simp [pushW]
  have hr := st.rel
  refine ⟨⟨fun r L o ha hg hd => ?_, fun r L o ha hg => ?_, fun r1 r2 L1 L2 o1 o2 hne a1 a2 b1 b2 d1 d2 hb => ?_⟩, ⟨st.stp.le.trans hle, fun r L ha => ?_, st.stp.os, st.stp.out, by have := st.stp.size; omega, fun b hb hno => ?_, fun r L ha => ?_, st.stp.nle⟩, st.grow, st.ok, st.touch⟩
  · rw [hsz]
    unfold updA at ha
    split at ha
    · cases ha; exact Nat.lt_succ_self _
    · have := hr.dom r L o ha hg hd; omega
  · unfold updA at ha
    split at ha
    · rename_i e1; subst e1; cases ha
      rcases ho with ho | ho
      · rw [ho] at hg; cases hg
        have hlen := hc.length
        simp only [Array.length_toList] at hlen
        refine ⟨C, e, (0, 0), pushW_new w _, by simp [hlen], Nat.le_refl _, fun i v hi => ?_, fun i _ => by simp, fun _ => rfl, by simp⟩
        obtain ⟨v', q1, q2⟩ := hc.get hi
        exact ⟨v', by rw [Nat.zero_add, ← Array.getElem?_toList]; exact q1, q2.mono hle⟩
      · rw [ho] at hg; cases hg; trivial
    · by_cases hd : o = .dead
      · subst hd; trivial
      · exact (hr.obj r L o ha hg).keep hle (pushW_old w _ (hr.dom r L o ha hg hd))
  · unfold updA at a1 a2
    split at a1 <;> split at a2
    · omega
    · cases a1; have hb' : w.heap.size = L2.b := hb; have := hr.dom r2 L2 o2 a2 b2 d2; omega
    · cases a2; have hb' : L1.b = w.heap.size := hb; have := hr.dom r1 L1 o1 a1 b1 d1; omega
    · exact hr.sep r1 r2 L1 L2 o1 o2 hne a1 a2 b1 b2 d1 d2 hb
  · unfold updA at ha
    split at ha
    · rename_i e1; subst e1; exact .inr ⟨h1, h2⟩
    · exact st.stp.new r L ha
  · rw [pushW_old w _ (Nat.lt_of_lt_of_le hb st.stp.size)]; exact st.stp.keep b hb hno
  · unfold updA at ha
    split at ha
    · cases ha; exact .inr (.inl st.stp.size)
    · exact st.stp.img r L ha
end
end Go.Ev
namespace Go.Ev
open Go Go.Lib
theorem cnt_one {p q : Oper → Nat → Nat → Bool} : ∀ {l : List (Oper × Nat)} {j i : Nat} {o : Oper} {m : Nat}, l[i]? = some (o, m) → p o m (j + i) = false → q o m (j + i) = true →
    (∀ (k : Nat) (o' : Oper) (m' : Nat), k ≠ i → l[k]? = some (o', m') → p o' m' (j + k) = q o' m' (j + k)) → cnt q l j = cnt p l j + 1
  | [], j, i, o, m, hi, _, _, _ => by simp at hi
  | (o0, m0) :: l, j, 0, o, m, hi, hp, hq, h => by
    simp at hi; obtain ⟨rfl, rfl⟩ := hi
    simp only [Nat.add_zero] at hp hq
    simp only [cnt, brec, hp, hq, cond_true, cond_false]
    have : cnt p l (j + 1) = cnt q l (j + 1) := cnt_congr fun k o' m' hk => by
      have := h (k + 1) o' m' (by omega) (by simpa using hk)
      rw [show j + (k + 1) = j + 1 + k by omega] at this; exact this
    omega
  | (o0, m0) :: l, j, i + 1, o, m, hi, hp, hq, h => by
    simp at hi
    have h0 := h 0 o0 m0 (by omega) (by simp)
    simp only [Nat.add_zero] at h0
    have ih := cnt_one (p := p) (q := q) (l := l) (j := j + 1) hi (by rw [show j + 1 + i = j + (i + 1) by omega]; exact hp) (by rw [show j + 1 + i = j + (i + 1) by omega]; exact hq) (fun k o' m' hk hkk => by
      have := h (k + 1) o' m' (by omega) (by simpa using hkk)
      rw [show j + (k + 1) = j + 1 + k by omega] at this; exact this)
    simp only [cnt, brec, ← h0]
    cases p o0 m0 j <;> simp only [cond_true, cond_false] <;> omega
/-- all that a draw's proof knows -/
structure Draw (P : Program) (X : Env) (r : Rec) (ops : Array Oper) (p : Nat → TrSt) (a : Ev.Act) (s : St) : Prop where
  hX : EnvOk P X
  hc : CallOk P X r
  path : Path X r ops p
  a0 : (p 0).a = a
  nm0 : (p 0).nm = s.next
  hoist : hoistE X ops.toList s = some (p 0).s
  pairs : pairsOk ops.toList 0 (ops.toList.zip (masks ops.toList [])) = true
  notes : notesOk X (ops.toList.zip (masks ops.toList [])) (p ops.size).hs.reverse (p ops.size).ns = true
def E (listed : Array Bool) (j : Nat) : Prop := listed.getD j false = true
section
variable {P : Program} {X : Env} {r : Rec} {ops : Array Oper} {p : Nat → TrSt} {a : Ev.Act} {s : St} {α0 : Al} {w0 : World}
noncomputable abbrev zsOf (ops : Array Oper) : List (Oper × Nat) := ops.toList.zip (masks ops.toList [])
theorem zs_get (ops : Array Oper) {i : Nat} {o : Oper} (hi : ops[i]? = some o) : ∃ m, (masks ops.toList [])[i]? = some m ∧ (zsOf ops)[i]? = some (o, m) := by
  have hlt : i < ops.size := (Array.getElem?_eq_some_iff.1 hi).1
  have hml : (masks ops.toList []).length = ops.size := by rw [masks_len]; simp
  have h1 : (masks ops.toList [])[i]? = some ((masks ops.toList [])[i]'(by omega)) := List.getElem?_eq_getElem (by omega)
  refine ⟨_, h1, ?_⟩
  rw [List.getElem?_zip_eq_some]
  exact ⟨by rw [Array.getElem?_toList]; exact hi, h1⟩
theorem zs_of (ops : Array Oper) {i : Nat} {o : Oper} {m : Nat} (h : (zsOf ops)[i]? = some (o, m)) : ops[i]? = some o ∧ (masks ops.toList [])[i]? = some m := by
  rw [List.getElem?_zip_eq_some] at h
  exact ⟨by rw [← Array.getElem?_toList]; exact h.1, h.2⟩
theorem Draw.pair (D : Draw P X r ops p a s) {i j : Nat} {x y : Oper} {m : Nat} (hi : ops[i]? = some x) (hj : ops[j]? = some y) (hij : i < j) (hm : (masks ops.toList [])[j]? = some m) :
    unlikeD x.dst y.dst = true ∧ (Nat.testBit m i = true ∨ (notIn x.dst (looks ops.toList y) = true ∧ notIn y.dst (looks ops.toList x) = true ∧ (isW x && isW y) = false)) := by
  obtain ⟨mx, _, h1⟩ := zs_get ops hi
  obtain ⟨my, h3, h2⟩ := zs_get ops hj
  rw [hm] at h3; cases h3
  have := (pairsOk_spec D.pairs i x mx h1).2 j y m hij h2
  simpa using this
theorem Draw.edge (D : Draw P X r ops p a s) {i : Nat} {x : Oper} (hi : ops[i]? = some x) : ∀ e ∈ x.after, bindsA e = true → e.on < i := by
  obtain ⟨mx, _, h1⟩ := zs_get ops hi
  have := (pairsOk_spec D.pairs i x mx h1).1
  simpa using this
theorem Draw.uniq (D : Draw P X r ops p a s) {i j t : Nat} {x y : Oper} (hi : ops[i]? = some x) (hj : ops[j]? = some y) (hx : x.dst = some t) (hy : y.dst = some t) : i = j := by
  rcases Nat.lt_trichotomy i j with h | h | h
  · obtain ⟨m, hm, _⟩ := zs_get ops hj
    exact absurd hy (unlikeD_spec (D.pair hi hj h hm).1 hx)
  · exact h
  · obtain ⟨m, hm, _⟩ := zs_get ops hi
    exact absurd hx (unlikeD_spec (D.pair hj hi h hm).1 hy)
/-- the value that a temporary has in the end -/
theorem Draw.fin (D : Draw P X r ops p a s) {i t : Nat} {o : Oper} (hi : ops[i]? = some o) (hd : o.dst = some t) : ∀ j, i < j → j ≤ ops.size → (p j).a.tm.get t = (p (i + 1)).a.tm.get t := fun j hj hjn =>
  D.path.tm_keep j (by omega) hjn fun l o' h1 h2 hl hd' => by
    have := D.uniq hi hl hd hd'; omega
theorem Draw.before (D : Draw P X r ops p a s) {t : Nat} (i : Nat) (hi : i ≤ ops.size) (hn : ∀ l o, l < i → ops[l]? = some o → o.dst ≠ some t) : (p i).a.tm.get t = a.tm.get t := by
  rw [← D.a0]; exact D.path.tm_keep i (Nat.zero_le _) hi fun l o _ h2 hl => hn l o h2 hl
theorem Draw.kcnt (D : Draw P X r ops p a s) : ∀ i, i ≤ ops.size → (p i).k = cnt (fun o _ j => isW o && decide (j < i)) (zsOf ops) 0
  | 0, _ => by
    rw [D.path.k0]
    have : cnt (fun o _ j => isW o && decide (j < 0)) (zsOf ops) 0 = cnt (fun _ _ _ => false) (zsOf ops) 0 := cnt_congr fun i o m _ => by simp
    rw [this]
    have : ∀ (l : List (Oper × Nat)) (j : Nat), cnt (fun _ _ _ => false) l j = 0 := by
      intro l
      induction l with
      | nil => intro j; rfl
      | cons x l ih => intro j; obtain ⟨o, m⟩ := x; simp only [cnt]; exact ih _
    rw [this]
  | i + 1, h => by
    have ih := D.kcnt i (by omega)
    have hi : ops[i]? = some ops[i] := Array.getElem?_eq_getElem (by omega)
    have hs := D.path.step i _ hi
    obtain ⟨m, _, hz⟩ := zs_get ops hi
    have same : ∀ (k : Nat) (o' : Oper) (m' : Nat), k ≠ i → (zsOf ops)[k]? = some (o', m') → (isW o' && decide (0 + k < i)) = (isW o' && decide (0 + k < i + 1)) := by
      intro k o' m' hk _
      congr 1
      rw [decide_eq_decide]; omega
    by_cases hw : isW ops[i] = true
    · have hk : kdOf ops[i] = .wr := by
        unfold isW at hw; cases hk : kdOf ops[i] <;> rw [hk] at hw <;> first | rfl | cases hw
      rw [(tr_wr hk hs).2.2.1, ih]
      refine (cnt_one (i := i) hz ?_ ?_ same).symm
      · simp
      · simp [hw]
    · have hk' : (p (i + 1)).k = (p i).k := by
        cases hk : kdOf ops[i]
        · exact (tr_al hk hs).2.2.1
        · exfalso; apply hw; unfold isW; rw [hk]; rfl
        · exact (tr_rd hk hs).2.2.1
      rw [hk', ih]
      refine cnt_congr fun k o' m' hkk => ?_
      by_cases e : k = i
      · subst e
        rw [hz] at hkk; cases hkk
        have : isW ops[k] = false := by simpa using hw
        rw [this]; rfl
      · exact same k o' m' e hkk
theorem Draw.nm (D : Draw P X r ops p a s) : ∀ i, i ≤ ops.size → (p i).nm = s.next + ((ops.toList.take i).filter isAl).length
  | 0, _ => by rw [D.nm0]; simp
  | i + 1, h => by
    have ih := D.nm i (by omega)
    have hi : ops[i]? = some ops[i] := Array.getElem?_eq_getElem (by omega)
    have hs := D.path.step i _ hi
    have ht : ops.toList.take (i + 1) = ops.toList.take i ++ [ops[i]] := by
      rw [List.take_add_one, Array.getElem?_toList, hi]; rfl
    rw [ht, List.filter_append, List.length_append]
    cases hk : kdOf ops[i]
    · obtain ⟨e, _, _, he⟩ := kd_al hk
      have : isAl ops[i] = true := by unfold isAl; rw [he]; rfl
      rw [(tr_al hk hs).2.2.2.2.2.2, ih]; simp [this]; omega
    · have : isAl ops[i] = false := by unfold isAl; rw [kd_not_al (by rw [hk]; simp)]; rfl
      rw [(tr_wr hk hs).2.2.2.2.2.2, ih]; simp [this]
    · have : isAl ops[i] = false := by unfold isAl; rw [kd_not_al (by rw [hk]; simp)]; rfl
      rw [(tr_rd hk hs).2.2.2.2.2, ih]; simp [this]
theorem filter_take_le {α : Type} (f : α → Bool) : ∀ (l : List α) (i j : Nat), i ≤ j → ((l.take i).filter f).length ≤ ((l.take j).filter f).length
  | [], i, j, _ => by simp
  | x :: l, 0, j, _ => by simp
  | x :: l, i + 1, 0, h => by omega
  | x :: l, i + 1, j + 1, h => by
    simp only [List.take_succ_cons, List.filter_cons]
    have := filter_take_le f l i j (by omega)
    split <;> simp <;> omega
theorem Draw.nm_lt (D : Draw P X r ops p a s) {i j : Nat} {o : Oper} (hi : ops[i]? = some o) (hk : kdOf o = .al) (hij : i < j) (hj : j ≤ ops.size) : (p i).nm < (p j).nm := by
  have h1 := (tr_al hk (D.path.step i o hi)).2.2.2.2.2.2
  have h2 := D.nm j hj
  have h3 := D.nm (i + 1) (by omega)
  have := filter_take_le isAl ops.toList (i + 1) j (by omega)
  omega
theorem Draw.nm_ne (D : Draw P X r ops p a s) {i j : Nat} {o o' : Oper} (hi : ops[i]? = some o) (hj : ops[j]? = some o') (hk : kdOf o = .al) (hk' : kdOf o' = .al) (hij : i ≠ j) : (p i).nm ≠ (p j).nm := by
  have li := (Array.getElem?_eq_some_iff.1 hi).1
  have lj := (Array.getElem?_eq_some_iff.1 hj).1
  rcases Nat.lt_or_gt_of_ne hij with h | h
  · have := D.nm_lt hi hk h (by omega); omega
  · have := D.nm_lt hj hk' h (by omega); omega
theorem Draw.laid (D : Draw P X r ops p a s) (ho : Ok s) {i : Nat} {o : Oper} (hi : ops[i]? = some o) (hk : kdOf o = .al) : ∃ e ti, o.guard = none ∧ o.op = .alloc e ∧ X.ty.get e = some ti ∧ s.next ≤ (p i).nm ∧ (p i).nm < (p 0).s.next ∧ (p 0).s.heap.get (p i).nm = some (.cells ti.zv.cells e false false false []) := by
  obtain ⟨e, h1, h2, h3⟩ := kd_al hk
  obtain ⟨g1, g2, g3, g4, g5, g6⟩ := hoist_spec D.hoist ho
  obtain ⟨ti, k1, k2⟩ := g6 i o e (by rw [Array.getElem?_toList]; exact hi) h3
  have hn := D.nm i (by have := (Array.getElem?_eq_some_iff.1 hi).1; omega)
  rw [← hn] at k2
  exact ⟨e, ti, h1, h2, k1, by omega, g1.lt k2, k2⟩
theorem Draw.mono (D : Draw P X r ops p a s) : ∀ i o, ops[i]? = some o → kdOf o = .wr → (p i).s.next ≤ (p (i + 1)).s.next := fun i o hi hk =>
  (turn_run (P := P) D.hX D.hc hi (tr_wr hk (D.path.step i o hi)).2.1).1
end
end Go.Ev
