/-
  Each operation that writes or allocates does what the evaluator says.
-/
import Derived.Test.YtjkcgaemdjjhgaaGreatDoorEvC
import Derived.Laws.IdiomCopy
import Derived.Lib.ConvBytes
namespace Go.Ev
open Go Go.Lib
/-- the evaluator's own state is in order -/
structure Ok (s : St) : Prop where
  free : ∀ r, s.next ≤ r → s.heap.get r = none
  anc : ∀ r o, s.heap.get r = some o → ∀ q ∈ ancOf o, q < s.next
theorem Ok.lt {s : St} (h : Ok s) {r : Nat} {o : AObj} (hr : s.heap.get r = some o) : r < s.next := by
  rcases Nat.lt_or_ge r s.next with h1 | h1
  · exact h1
  · rw [h.free r h1] at hr; cases hr
/-- what has no place in the world stays as it is, or dies -/
def Touch (α : Al) (s s' : St) : Prop := ∀ r, r < s.next → α r = none → s'.heap.get r = s.heap.get r ∨ s'.heap.get r = some .dead
structure Step (X : Env) (α β : Al) (s s' : St) (w w' : World) : Prop where
  rel : Rel X β s'.heap.get w'
  stp : Stp α β s.heap.get s.next s'.next w w'
  grow : HGrow s s'
  ok : Ok s'
  touch : Touch α s s'
theorem Step.refl {X : Env} {α : Al} {s : St} {w : World} (hr : Rel X α s.heap.get w) (ho : Ok s) : Step X α α s s w w :=
  ⟨hr, Stp.refl _ _ _ _, HGrow.refl _, ho, fun _ _ _ => .inl rfl⟩
theorem Step.trans {X : Env} {α β γ : Al} {s s1 s2 : St} {w w1 w2 : World} (a : Step X α β s s1 w w1) (hf : Fresh α s.next s2.next) (b : Step X β γ s1 s2 w1 w2) : Step X α γ s s2 w w2 :=
  ⟨b.rel, a.stp.comp a.grow (hf.left b.grow.nle) b.stp, a.grow.trans b.grow, b.ok, fun r hr ha => by
    have hb : β r = none := by
      cases hb : β r with
      | none => rfl
      | some L => rcases a.stp.new r L hb with h | h
                  · rw [ha] at h; cases h
                  · omega
    rcases b.touch r (Nat.lt_of_lt_of_le hr a.grow.nle) hb with h | h
    · rw [h]; exact a.touch r hr ha
    · exact .inr h⟩
theorem Step.fresh {X : Env} {α β : Al} {s s1 : St} {w w1 : World} {k : Nat} (a : Step X α β s s1 w w1) (hf : Fresh α s.next k) : Fresh β s1.next k := hf.right a.stp
/-- the world with another count of draws -/
theorem Rel.drawn {X : Env} {α : Al} {h : Hp} {w w' : World} (hr : Rel X α h w) (hw : w'.heap = w.heap) : Rel X α h w' :=
  ⟨fun r L o ha ho hd => by rw [hw]; exact hr.dom r L o ha ho hd, fun r L o ha ho => (hr.obj r L o ha ho).keep (.refl _) (by rw [hw]), hr.sep⟩
theorem Step.same {X : Env} {α : Al} {s : St} {w w' : World} (hr : Rel X α s.heap.get w) (ho : Ok s) (hw : w'.heap = w.heap) (h1 : w'.os = w.os) (h2 : w'.output = w.output) : Step X α α s s w w' :=
  ⟨hr.drawn hw, ⟨.refl α, fun _ _ h => .inl h, h1, h2, by rw [hw]; exact Nat.le_refl _, fun b _ _ => by rw [hw], fun _ _ h => .inl h, Nat.le_refl _⟩, HGrow.refl _, ho, fun _ _ _ => .inl rfl⟩

theorem get_alloc (s : St) (o : AObj) (r : Nat) : (alloc s o).heap.get r = if r = s.next then some o else s.heap.get r := Tr.get_set _ _ _ _
theorem get_setObj (s : St) (r : Nat) (o : AObj) (q : Nat) : (setObj s r o).heap.get q = if q = r then some o else s.heap.get q := Tr.get_set _ _ _ _

theorem Step.new {X : Env} {α : Al} {s : St} {w w' : World} {o : AObj} {obj : Obj} {L : Loc} (hr : Rel X α s.heap.get w) (ho : Ok s) (hf : Fresh α s.next (s.next + 1))
    (hL : L.b = w.heap.size) (hw : w'.heap = w.heap.push obj) (hos : w'.os = w.os) (hout : w'.output = w.output) (hrel : ORel X (updA α s.next L) o L w') (hanc : ∀ q ∈ ancOf o, q < s.next) :
    Step X α (updA α s.next L) s (alloc s o) w w' := by
  obtain ⟨h1, h2, h3⟩ := rel_alloc hr (hf s.next (Nat.le_refl _) (Nat.lt_succ_self _)) hL hw hos hout hrel
  refine ⟨h1, h2, h3, ⟨fun r hle => ?_, fun r p hp q hq => ?_⟩, fun r hlt _ => ?_⟩
  · have : s.next + 1 ≤ r := hle
    rw [get_alloc, if_neg (by omega)]; exact ho.free r (by omega)
  · rw [get_alloc] at hp
    show q < s.next + 1
    split at hp
    · cases hp; have := hanc q hq; omega
    · have := ho.anc r p hp q hq; omega
  · rw [get_alloc, if_neg (by omega)]; exact .inl rfl

/-! ### What is newly made. -/
section
variable {P : Program} {X : Env} {α : Al} {s : St} {w : World} {ev : Operand → AVal} {ρ : Operand → Value}
theorem run_newRow (w : World) (e : Nat) (cs : Array Value) : (newRow e cs).run P w = .ok ⟨w.heap.size, 0, none⟩ (pushW w (.cells cs e)) := rfl
/-- a row of cells -/
theorem step_rowF (hr : Rel X α s.heap.get w) (ho : Ok s) (hf : Fresh α s.next (s.next + 1)) {cs : List AVal} {C : Array Value} {e e' sz : Nat} {lo fz : Bool} {fr : Nat × Nat} {w' : World} {anc : List Nat} (hc : VRels α cs (C.toList.take cs.length)) (hle : cs.length ≤ C.size)
    (hlo : lo = true → ∃ ti, X.ty.get e = some ti ∧ ti.size = sz) (hfr2 : ∀ i, i < C.size → ¬ (fr.1 ≤ i ∧ i < fr.2)) (hfz : fz = false → fr = (0, 0)) (hw : w'.heap = w.heap.push (.cells C e' fr)) (hos : w'.os = w.os) (hout : w'.output = w.output) (hanc : ∀ q ∈ anc, q < s.next) :
    Step X α (updA α s.next ⟨w.heap.size, 0, C.size, sz⟩) s (alloc s (.cells cs e lo false fz anc)) w w' := by
  have hfr := hf s.next (Nat.le_refl _) (Nat.lt_succ_self _)
  refine Step.new (L := ⟨w.heap.size, 0, C.size, sz⟩) hr ho hf rfl hw hos hout ?_ hanc
  refine ⟨C, e', fr, ?_, by simpa using hle, Nat.le_refl _, fun i v hi => ?_, hfr2, hfz, hlo⟩
  · rw [hw]; simp
  · obtain ⟨v', h1, h2⟩ := hc.get hi
    rw [List.getElem?_take] at h1
    split at h1
    · refine ⟨v', ?_, h2.mono (AlLe.upd _ hfr)⟩
      rw [Nat.zero_add, ← Array.getElem?_toList]; exact h1
    · cases h1
theorem step_row (hr : Rel X α s.heap.get w) (ho : Ok s) (hf : Fresh α s.next (s.next + 1)) {cs : List AVal} {C : Array Value} {e e' sz : Nat} {lo : Bool} {w' : World} (hc : VRels α cs (C.toList.take cs.length)) (hle : cs.length ≤ C.size)
    (hlo : lo = true → ∃ ti, X.ty.get e = some ti ∧ ti.size = sz) (hw : w'.heap = w.heap.push (.cells C e')) (hos : w'.os = w.os) (hout : w'.output = w.output) :
    Step X α (updA α s.next ⟨w.heap.size, 0, C.size, sz⟩) s (alloc s (.cells cs e lo false false [])) w w' :=
  step_rowF hr ho hf hc hle hlo (fun i _ => by simp) (fun _ => rfl) hw hos hout (fun q hq => by cases hq)
/-- what 'alE' says of an operation -/
def Makes (P : Program) (X : Env) (α : Al) (s : St) (w : World) (o : Oper) (ρ : Operand → Value) (ob : AObj) (ar : AlR) : Prop :=
  ∃ v' w' β, (execOp ρ o).run P w = .ok (.value v') w' ∧ Step X α β s (alloc s ob) w w' ∧ VRel β (ar.val s.next) v'
theorem reps_len {β : Type} (z : List β) (n : Nat) : (reps z n).length = n * z.length := by
  induction n with
  | zero => simp [reps]
  | succ n ih => simp [reps, ih, Nat.add_mul, Nat.add_comm]
theorem reps_get {β : Type} (z : List β) : ∀ (n i : Nat), i < n * z.length → (reps z n)[i]? = z[i % z.length]?
  | 0, i, h => by simp at h
  | n + 1, i, h => by
    simp only [reps]
    by_cases hi : i < z.length
    · rw [List.getElem?_append_left hi, Nat.mod_eq_of_lt hi]
    · rw [List.getElem?_append_right (by omega), reps_get z n _ (by rw [Nat.add_mul] at h; omega)]
      congr 1
      rw [← Nat.mod_eq_sub_mod (by omega)]
theorem zero_row {z : AVal} {zv : Value} {n m : Nat} (hz : VRels α z.cells zv.cells.toList) (hm : m = n * zv.cells.size) :
    VRels α (reps z.cells n) ((Array.range m).map (zv.cells[· % zv.cells.size]!)).toList := by
  have hl := hz.length
  subst hm
  refine VRels.of_get (by rw [reps_len]; simp [hl]) fun i a hi => ?_
  have hlt : i < n * z.cells.length := by rw [← reps_len]; exact (List.getElem?_eq_some_iff.1 hi).1
  rw [reps_get _ _ _ hlt] at hi
  obtain ⟨v', h1, h2⟩ := hz.get hi
  refine ⟨v', ?_, h2⟩
  have hl' : z.cells.length = zv.cells.size := by simpa using hl
  rw [hl'] at hlt h1
  have h3 : zv.cells[i % zv.cells.size]? = some v' := by rw [← Array.getElem?_toList]; exact h1
  obtain ⟨h4, h5⟩ := Array.getElem?_eq_some_iff.1 h3
  simp [hlt, getElem!_pos, h4, h5]
theorem zsize (hX : EnvOk P X) {t : Nat} {i : TI} (h : X.ty.get t = some i) : ∃ z, (∀ w, (zeroValue t).run P w = .ok z w) ∧ (∀ α, VRels α i.zv.cells z.cells.toList) ∧ z.cells.size = i.size ∧ i.zv.cells.length = i.size := by
  obtain ⟨_, _, hz, _, hzl, _⟩ := hX.ty t i h
  obtain ⟨j, z, h1, h2, h3, h4⟩ := hz
  have h5 : ∀ α, VRels α i.zv.cells z.cells.toList := fun α => (h3 α).cells h4
  refine ⟨z, fun w => run_zero h1 h2, h5, ?_, hzl⟩
  have := (h5 (fun _ => none)).length
  rw [hzl] at this; simpa using this.symm
theorem al_run (hX : EnvOk P X) (hr : Rel X α s.heap.get w) (ho : Ok s) (hf : Fresh α s.next (s.next + 1)) (hev : ∀ x, VRel α (ev x) (ρ x)) {o : Oper} {ob : AObj} {ar : AlR} (he : alE o.op X ev = some (ob, ar)) :
    Makes P X α s w o ρ ob ar := by
  obtain ⟨dst, op, ty, pos, guard, after⟩ := o
  have hfr := hf s.next (Nat.le_refl _) (Nat.lt_succ_self _)
  have whole : ∀ {cs : List AVal} {C : Array Value}, VRels α cs C.toList → VRels α cs (C.toList.take cs.length) ∧ cs.length ≤ C.size := by
    intro cs C h
    have := h.length
    rw [List.take_of_length_le (by omega)]
    exact ⟨h, by simpa using Nat.le_of_eq this⟩
  cases op <;> first | (cases he; done) | skip
  case alloc e =>
    have he' : (match X.ty.get e with | some i => some (AObj.cells i.zv.cells e false false false [], AlR.ptr) | none => none) = some (ob, ar) := he
    cases ht : X.ty.get e with
    | none => rw [ht] at he'; cases he'
    | some i =>
      rw [ht] at he'; cases he'
      obtain ⟨z, hz1, hz2, hz3, hz4⟩ := zsize hX ht
      obtain ⟨k1, k2⟩ := whole (hz2 α)
      refine ⟨.pointer (some ⟨w.heap.size, 0, none⟩), pushW w (.cells z.cells e), _, ?_, step_row (sz := 0) hr ho hf k1 k2 (by simp) rfl rfl rfl, ?_⟩
      · simp [execOp, Instr.alloc, hz1, newVar, run_newRow]
      · exact VRel.ptr (L := ⟨w.heap.size, 0, z.cells.size, 0⟩) (updA_same _ _ _)
  case box e x =>
    have he' : @Bool.rec (fun _ => Option (AObj × AlR)) none (some (.cells (ev x).cells e false false false [], .ptr)) (allOne (ev x).cells) = some (ob, ar) := he
    rw [brec] at he'
    cases hb : allOne (ev x).cells
    · rw [hb] at he'; cases he'
    · rw [hb] at he'; cases he'
      obtain ⟨k1, k2⟩ := whole ((hev x).cells (allOne_cells hb))
      refine ⟨.pointer (some ⟨w.heap.size, 0, none⟩), pushW w (.cells (ρ x).cells e), _, ?_, step_row (sz := 0) hr ho hf k1 k2 (by simp) rfl rfl rfl, ?_⟩
      · simp [execOp, Instr.box, newVar, run_newRow]
      · exact VRel.ptr (L := ⟨w.heap.size, 0, (ρ x).cells.size, 0⟩) (updA_same _ _ _)
  case buildSlice t n parts =>
    have he' : (match X.ty.get t with | some ti => bsD X ev n parts.toList ti.d | none => none) = some (ob, ar) := he
    cases ht : X.ty.get t with
    | none => rw [ht] at he'; cases he'
    | some ti =>
      obtain ⟨⟨d, hu, hok, hg⟩, hs0, hz, hc0, hzl, hsm⟩ := hX.ty t ti ht
      obtain ⟨td, sz, zv, ag⟩ := ti
      rw [ht] at he'
      cases td <;> first | (cases he'; done) | skip
      rename_i e esz bb
      cases d <;> first | exact hok.elim | skip
      obtain ⟨rfl, hsz, _⟩ := hok
      simp only [bsD] at he'
      cases hte : X.ty.get e with
      | none => rw [hte] at he'; cases he'
      | some ei =>
        rw [hte] at he'
        obtain ⟨z, hz1, hz2, hz3, hz4⟩ := zsize hX hte
        have hse := (hX.ty e ei hte).size
        have hes : ei.size = esz := by obtain ⟨i1, a1, a2⟩ := hse; obtain ⟨i2, b1, b2⟩ := hsz; rw [a1] at b1; cases b1; omega
        simp only [brec] at he'
        cases hb : Nat.ble (n * esz) 16777216
        · rw [hb] at he'; cases he'
        · rw [hb] at he'
          have hle := Nat.le_of_ble_eq_true hb
          simp only [cond_true] at he'
          cases hfp : fillP (fun i => some (i * esz, esz)) (reps ei.zv.cells n) (parts.toList.map fun p => (p.1, ev p.2)) with
          | none => rw [hfp] at he'; cases he'
          | some cs =>
            rw [hfp] at he'; cases he'
            obtain ⟨zc, z1, z2⟩ : ∃ zc : Array Value, ((n * esz = 0 ∧ zc = #[]) ∨ (¬ n * esz = 0 ∧ zc = z.cells)) ∧ VRels α (reps ei.zv.cells n) ((Array.range (n * esz)).map (zc[· % zc.size]!)).toList := by
              by_cases hzero : n * esz = 0
              · refine ⟨#[], .inl ⟨hzero, rfl⟩, ?_⟩
                have : (reps ei.zv.cells n) = [] := List.eq_nil_of_length_eq_zero (by rw [reps_len, hz4, hes]; exact hzero)
                rw [this, hzero]; simp; exact .nil
              · exact ⟨z.cells, .inr ⟨hzero, rfl⟩, zero_row (hz2 α) (by rw [hz3, hes])⟩
            obtain ⟨R, r1, r2⟩ := fill_run (place := fun i => some (i * esz, esz)) (fun i p h => h) hev z2 hfp
            obtain ⟨k1, k2⟩ := whole r2
            refine ⟨.slice (some ⟨w.heap.size, 0, none⟩) n n, pushW w (.cells R e), _, ?_, step_row (sz := 0) hr ho hf k1 k2 (by simp) rfl rfl rfl, ?_⟩
            · have h2 : ¬ (n * esz > 2 ^ 24) := by omega
              show (do pure (.value (← Instr.buildSlice t n (parts.map fun (i, x) => (i, ρ x)))) : Sem Next).run P w = _
              have hpl : (parts.map fun (x : Nat × Operand) => (x.1, ρ x.2)).toList = parts.toList.map fun p => (p.1, ρ p.2) := by simp
              rw [← hpl] at r1
              unfold Instr.buildSlice
              rw [Sem.run_bind, Sem.run_bind, run_und hu, Result.andThen_ok]
              rcases z1 with ⟨h0, rfl⟩ | ⟨h0, rfl⟩
              · simp only [Sem.run_bind, Result.andThen_ok, run_size hsz, if_neg h2, if_pos h0, r1, run_newRow, Sem.run_pure]
              · simp only [Sem.run_bind, Result.andThen_ok, run_size hsz, if_neg h2, if_neg h0, hz1, r1, run_newRow, Sem.run_pure]
            · exact VRel.sl (L := ⟨w.heap.size, 0, R.size, 0⟩) (updA_same _ _ _) (fun _ => rfl) (Nat.le_refl _) (Nat.le_refl _) (fun _ => rfl) (by simp)
  case makeMap t r =>
    cases r with
    | some r => cases he
    | none =>
      cases he
      refine ⟨.map (some w.heap.size), pushW w (.map #[] 0), updA α s.next ⟨w.heap.size, 0, 0, 0⟩, rfl, Step.new hr ho hf rfl rfl rfl rfl ?_ (fun q hq => by cases hq), ?_⟩
      · exact ⟨#[], pushW_new w _, .nil⟩
      · exact VRel.map (L := ⟨w.heap.size, 0, 0, 0⟩) (updA_same _ _ _)
  case makeSlice t l c =>
    have he' : (match X.ty.get t, natOf (ev l), natOf (ev c) with
      | some ti, some l, some c => msD X l c ti.d
      | _, _, _ => none) = some (ob, ar) := he
    cases ht : X.ty.get t with
    | none => rw [ht] at he'; cases he'
    | some ti =>
      obtain ⟨⟨d, hu, hok, hg⟩, hs0, hz, hc0, hzl, hsm⟩ := hX.ty t ti ht
      obtain ⟨td, sz, zv, ag⟩ := ti
      rw [ht] at he'
      cases hnl : natOf (ev l) with
      | none => rw [hnl] at he'; cases he'
      | some nl =>
        cases hnc : natOf (ev c) with
        | none => rw [hnl, hnc] at he'; cases he'
        | some nc =>
          rw [hnl, hnc] at he'
          obtain ⟨kl, hkl⟩ := natOf_spec hnl (hev l)
          obtain ⟨kc, hkc⟩ := natOf_spec hnc (hev c)
          cases td <;> first | (cases he'; done) | skip
          rename_i e esz bb
          cases d <;> first | exact hok.elim | skip
          obtain ⟨rfl, hsz, _⟩ := hok
          simp only [msD] at he'
          cases hte : X.ty.get e with
          | none => rw [hte] at he'; cases he'
          | some ei =>
            rw [hte] at he'
            obtain ⟨z, hz1, hz2, hz3, hz4⟩ := zsize hX hte
            have hse := (hX.ty e ei hte).size
            have hes : ei.size = esz := by obtain ⟨i1, a1, a2⟩ := hse; obtain ⟨i2, b1, b2⟩ := hsz; rw [a1] at b1; cases b1; omega
            obtain ⟨j, j1, j2⟩ := (hX.ty e ei hte).small
            have hti : (typeInfo e).run P w = .ok j w := by simp [typeInfo, j1]
            simp only [brec] at he'
            cases hb : (Nat.ble nl nc && Nat.ble nc 1048576)
            · rw [hb] at he'; cases he'
            · rw [hb] at he'; cases he'
              rw [Bool.and_eq_true] at hb
              have b1 := Nat.le_of_ble_eq_true hb.1
              have b2 := Nat.le_of_ble_eq_true hb.2
              obtain ⟨zc, z1, z2⟩ : ∃ zc : Array Value, ((nc * esz = 0 ∧ zc = #[]) ∨ (¬ nc * esz = 0 ∧ zc = z.cells)) ∧ VRels α (reps ei.zv.cells nc) ((Array.range (nc * esz)).map (zc[· % zc.size]!)).toList := by
                by_cases hzero : nc * esz = 0
                · refine ⟨#[], .inl ⟨hzero, rfl⟩, ?_⟩
                  have : (reps ei.zv.cells nc) = [] := List.eq_nil_of_length_eq_zero (by rw [reps_len, hz4, hes]; exact hzero)
                  rw [this, hzero]; simp; exact .nil
                · exact ⟨z.cells, .inr ⟨hzero, rfl⟩, zero_row (hz2 α) (by rw [hz3, hes])⟩
              obtain ⟨k1, k2⟩ := whole z2
              refine ⟨.slice (some ⟨w.heap.size, 0, none⟩) nl nc, pushW w (.cells ((Array.range (nc * esz)).map (zc[· % zc.size]!)) e), _, ?_, step_row (sz := 0) hr ho hf k1 k2 (by simp) rfl rfl rfl, ?_⟩
              · show (do pure (.value (← Instr.makeSlice t (ρ l) (ρ c))) : Sem Next).run P w = _
                have wl : IntKind.i64.wrap (nl : Int) = nl := fits_wrap (k := .i64) (n := .ofNat nl) (Nat.ble_eq_true_of_le (show nl ≤ 9223372036854775807 by omega))
                have wc : IntKind.i64.wrap (nc : Int) = nc := fits_wrap (k := .i64) (n := .ofNat nc) (Nat.ble_eq_true_of_le (show nc ≤ 9223372036854775807 by omega))
                have hbig : ¬ ((j.bytes : Int) * (nc : Int) > 2 ^ 48) := by
                  have : j.bytes * nc ≤ 1048576 * 1048576 := Nat.mul_le_mul j2 b2
                  have : ((j.bytes * nc : Nat) : Int) ≤ ((1048576 * 1048576 : Nat) : Int) := Int.ofNat_le.2 this
                  rw [Int.natCast_mul] at this
                  omega
                rw [hkl, hkc]
                unfold Instr.makeSlice
                rw [Sem.run_bind, Sem.run_bind, run_und hu, Result.andThen_ok]
                have hcond : (decide ((nc : Int) < 0) || decide ((j.bytes : Int) * (nc : Int) > 2 ^ 48) || decide ((nl : Int) < 0) || decide ((nl : Int) > (nc : Int))) = false := by
                  simp only [Bool.or_eq_false_iff, decide_eq_false_iff_not]
                  exact ⟨⟨⟨by omega, hbig⟩, by omega⟩, by omega⟩
                have hask : (askRoom (nc * j.bytes)).run P w = .ok () w := by unfold askRoom; split <;> rfl
                simp only [asInt, asIntOf, Sem.run_bind, Sem.run_pure, Result.andThen_ok, hti, wl, wc, hcond, Bool.false_eq_true, if_false, Int.toNat_natCast, hask, run_size hsz]
                rcases z1 with ⟨h0, rfl⟩ | ⟨h0, rfl⟩
                · simp only [Sem.run_bind, Result.andThen_ok, if_pos h0, run_newRow, Sem.run_pure]
                · simp only [Sem.run_bind, Result.andThen_ok, if_neg h0, hz1, run_newRow, Sem.run_pure]
              · exact VRel.sl (L := ⟨w.heap.size, 0, _, 0⟩) (updA_same _ _ _) (fun _ => rfl) (Nat.le_refl _) b1 (fun _ => rfl) (by simp)
  case convert a b x =>
    have he' : (match X.ty.get a, X.ty.get b, ev x with
      | some i, some j, .str l => cvS X l i.d j.d
      | _, _, _ => none) = some (ob, ar) := he
    cases hta : X.ty.get a with
    | none => rw [hta] at he'; cases he'
    | some ti =>
      obtain ⟨⟨d, hu, hok, hg⟩, hs0, hz, hc0, hzl, hsm⟩ := hX.ty a ti hta
      obtain ⟨td, sz, zv, ag⟩ := ti
      cases htb : X.ty.get b with
      | none => rw [hta, htb] at he'; cases he'
      | some tj =>
        obtain ⟨⟨d2, hu2, hok2, hg2⟩, hs2, hz2, hc2, hzl2, hsm2⟩ := hX.ty b tj htb
        obtain ⟨td2, sz2, zv2, ag2⟩ := tj
        rw [hta, htb] at he'
        have hx := hev x
        cases hxv : ev x <;> rw [hxv] at he' hx <;> first | (cases he'; done) | skip
        rename_i l
        cases td <;> first | (cases td2 <;> cases he'; done) | skip
        cases td2 <;> first | (cases he'; done) | skip
        rename_i e esz bb
        cases bb
        · cases he'
        · cases d <;> first | exact hok.elim | skip
          cases d2 <;> first | exact hok2.elim | skip
          obtain ⟨rfl, hsz, hby⟩ := hok2
          have hby := hby rfl
          simp only [cvS, brec] at he'
          cases hte : X.ty.get e with
          | none => simp only [hte] at he'; cases he'
          | some ei =>
            simp only [hte] at he'
            cases hb : Nat.beq ei.size 1
            · rw [hb] at he'; cases he'
            · rw [hb] at he'; cases he'
              have hes := Nat.eq_of_beq_eq_true hb
              generalize hxr : ρ x = x' at hx
              cases hx with
              | @str _ st hst =>
                have hsize := toList_rel hst
                let c := grownCap w st.size 0 e
                have hc : st.size ≤ c := Nat.le_add_right _ _
                let C := bytesCells w e st
                have hC : C.size = c := by simp [C, bytesCells]; omega
                have hrow : VRels α (byteVals l) (C.toList.take (byteVals l).length) := by
                  have hlen : (byteVals l).length = st.size := by rw [hsize]; simp [byteVals]
                  have : C.toList.take (byteVals l).length = l.map fun n => Value.int .u8 (.ofNat n) := by
                    rw [hlen, ← hst]; simp [C, bytesCells, Function.comp_def]
                  rw [this]
                  exact VRels.map _ _ (fun n => .int _ _) _
                have hle : (byteVals l).length ≤ C.size := by
                  have hlen : (byteVals l).length = st.size := by rw [hsize]; simp [byteVals]
                  rw [hlen, hC]; exact hc
                have hheap : (bytesWorld w e st).heap = w.heap.push (.cells C e (C.size, C.size + 1)) := by
                  refine Array.ext_getElem? fun i => ?_
                  rcases Nat.lt_trichotomy i w.heap.size with h | h | h
                  · rw [bytesWorld_at_old w e st i h]; simp [Array.getElem?_push, Nat.ne_of_lt h]
                  · subst h; rw [bytesWorld_at_new]; simp [C]
                  · rw [Array.getElem?_eq_none (by rw [bytesWorld_size]; omega), Array.getElem?_eq_none (by simp; omega)]
                refine ⟨.slice (some ⟨w.heap.size, 0, none⟩) st.size c, bytesWorld w e st, _, ?_, step_rowF (sz := 1) (fr := (C.size, C.size + 1)) hr ho hf hrow hle (fun _ => ⟨ei, hte, hes⟩) (fun i hi => by simp; omega) (by simp) hheap ?_ ?_ (fun q hq => by cases hq), ?_⟩
                · show (do pure (.value (← convert a b (ρ x))) : Sem Next).run P w = _
                  rw [hxr, Sem.run_bind, run_convert_string_bytes w a b e st hu hu2 hby]; rfl
                · simp [bytesWorld, World.freeze]; rfl
                · simp [bytesWorld, World.freeze]; rfl
                · rw [AlR.val, len_eq, ← hsize]
                  exact VRel.sl (L := ⟨w.heap.size, 0, C.size, 1⟩) (updA_same _ _ _) (by simp) hc (Nat.le_refl _) (fun _ => rfl) (fun _ _ => by simp [hC])
end
end Go.Ev
namespace Go.Ev
open Go Go.Lib
section
variable {P : Program} {X : Env} {α : Al} {s s' : St} {w : World} {ev : Operand → AVal} {ρ : Operand → Value}
theorem oneA_cell {a : AVal} {v : Value} (h : VRel α a v) (h1 : oneA a = true) : v.oneCell' = true := by
  cases h <;> first | rfl | cases h1
theorem allOne_cons {a : AVal} {l : List AVal} (h : allOne (a :: l) = true) : oneA a = true ∧ allOne l = true := by
  have h' : @Bool.rec (fun _ => Bool) false (allOne l) (oneA a) = true := h
  rw [brec] at h'
  cases ha : oneA a
  · rw [ha] at h'; cases h'
  · rw [ha] at h'; exact ⟨rfl, h'⟩
theorem allOne_rel : ∀ {l : List AVal} {m : List Value}, VRels α l m → allOne l = true → ∀ v ∈ m, v.oneCell' = true
  | [], _, .nil, _, v, hv => by cases hv
  | a :: l, u :: m, .cons h t, h1, v, hv => by
    obtain ⟨h2, h3⟩ := allOne_cons h1
    rcases List.mem_cons.1 hv with rfl | hv
    · exact oneA_cell h h2
    · exact allOne_rel t h3 v hv
def spl (C : Array Value) (o : Nat) (vs : List Value) : Array Value := (C.toList.take o ++ vs ++ C.toList.drop (o + vs.length)).toArray
theorem spl_size {C : Array Value} {o : Nat} {vs : List Value} (h : o + vs.length ≤ C.size) : (spl C o vs).size = C.size := by
  simp [spl]; omega
theorem spl_get {C : Array Value} {o : Nat} {vs : List Value} (h : o + vs.length ≤ C.size) (i : Nat) : (spl C o vs)[i]? = if i < o then C[i]? else if i < o + vs.length then vs[i - o]? else C[i]? := by
  rw [← Array.getElem?_toList]
  show (C.toList.take o ++ vs ++ C.toList.drop (o + vs.length))[i]? = _
  have hl : C.toList.length = C.size := by simp
  by_cases h1 : i < o
  · rw [if_pos h1, List.append_assoc, List.getElem?_append_left (by simp; omega), List.getElem?_take, if_pos h1, Array.getElem?_toList]
  · rw [if_neg h1]
    by_cases h2 : i < o + vs.length
    · rw [if_pos h2, List.append_assoc, List.getElem?_append_right (by simp; omega), List.getElem?_append_left (by simp; omega)]
      congr 1; simp; omega
    · rw [if_neg h2, List.getElem?_append_right (by simp; omega), List.getElem?_drop, Array.getElem?_toList]
      congr 1; simp; omega
theorem spl_nil (C : Array Value) (o : Nat) (h : o ≤ C.size) : spl C o [] = C := by
  refine Array.ext_getElem? fun i => ?_
  rw [spl_get (by simpa using h)]
  split
  · rfl
  · split
    · rename_i h1 h2; simp at h2; omega
    · rfl
theorem setIf_self (a : Array Obj) (b : Nat) (o : Obj) (h : a[b]? = some o) : a.setIfInBounds b o = a := by
  refine Array.ext_getElem? fun i => ?_
  rw [Array.getElem?_setIfInBounds]
  split
  · rename_i e; subst e
    split
    · exact h.symm
    · rename_i h2; rw [Array.getElem?_eq_none (by omega)]
  · rfl
theorem setCell_heap {w : World} {b o : Nat} {C : Array Value} {e : Nat} {fr : Nat × Nat} {v : Value} (hb : w.heap[b]? = some (.cells C e fr)) :
    (w.setCell ⟨b, o, none⟩ v).heap = w.heap.setIfInBounds b (.cells (C.setIfInBounds o v) e fr) := by
  refine Array.ext_getElem? fun i => ?_
  simp only [World.setCell]
  rw [Array.getElem?_modify, Array.getElem?_setIfInBounds]
  by_cases h : b = i
  · subst h
    obtain ⟨h1, h2⟩ := Array.getElem?_eq_some_iff.1 hb
    simp [h1, h2]
  · simp [h]
theorem setCells_heap {b : Nat} {e : Nat} {fr : Nat × Nat} : ∀ {vs : List Value} {o : Nat} {C : Array Value} {w : World}, w.heap[b]? = some (.cells C e fr) → o + vs.length ≤ C.size →
    (w.setCells b o vs).heap = w.heap.setIfInBounds b (.cells (spl C o vs) e fr) ∧ (w.setCells b o vs).os = w.os ∧ (w.setCells b o vs).output = w.output
  | [], o, C, w, hb, h => by
    refine ⟨?_, rfl, rfl⟩
    rw [spl_nil C o (by simpa using h), setIf_self _ _ _ hb]; rfl
  | v :: vs, o, C, w, hb, h => by
    simp only [List.length_cons] at h
    have h1 := setCell_heap (o := o) (v := v) hb
    obtain ⟨hlt, _⟩ := Array.getElem?_eq_some_iff.1 hb
    have hb1 : (w.setCell ⟨b, o, none⟩ v).heap[b]? = some (.cells (C.setIfInBounds o v) e fr) := by
      rw [h1]; simp [hlt]
    obtain ⟨g1, g2, g3⟩ := setCells_heap (vs := vs) (o := o + 1) hb1 (by simp; omega)
    refine ⟨?_, g2, g3⟩
    show ((w.setCell ⟨b, o, none⟩ v).setCells b (o + 1) vs).heap = _
    rw [g1, h1, Array.setIfInBounds_setIfInBounds]
    congr 2
    refine Array.ext_getElem? fun i => ?_
    rw [spl_get (by simp; omega), spl_get (by simp; omega)]
    simp only [Array.getElem?_setIfInBounds, List.length_cons]
    by_cases h1 : i < o
    · rw [if_pos (by omega), if_pos h1, if_neg (by omega)]
    · by_cases h2 : i = o
      · subst h2
        rw [if_pos (by omega), if_pos rfl, if_pos (by omega), if_neg (by omega), if_pos (by omega)]; simp
      · rw [if_neg (by omega), if_neg h1]
        by_cases h3 : i < o + 1 + vs.length
        · rw [if_pos h3, if_pos (by omega), show i - o = (i - (o + 1)) + 1 by omega, List.getElem?_cons_succ]
        · rw [if_neg h3, if_neg (by omega), if_neg (by omega)]
theorem killAll_get (r : Nat) : ∀ (l : List Nat) (h : Tr AObj), (killAll h l).get r = if r ∈ l then some .dead else h.get r
  | [], h => by simp [killAll]
  | q :: l, h => by
    simp only [killAll, killAll_get r l, Tr.get_set, List.mem_cons]
    by_cases h1 : r ∈ l
    · simp [h1]
    · by_cases h2 : r = q <;> simp [h1, h2]
/-- what stands in a block beside an object that is not spent is its ancestor -/
theorem Rel.kin {h : Hp} (hr : Rel X α h w) {r q : Nat} {L M : Loc} {o p : AObj} (hne : q ≠ r) (hL : α r = some L) (hM : α q = some M) (ho : h r = some o) (hp : h q = some p) (hd : o ≠ .dead) (hpd : p ≠ .dead) (hu : spentOf o = false) (hb : M.b = L.b) :
    q ∈ ancOf o ∧ M.base + lenOf p ≤ L.base + lenOf o ∧ spentOf p = true := by
  rcases hr.sep q r M L p o hne hM hL hp ho hpd hd hb with h1 | h1
  · exact ⟨h1.1, h1.2.2, h1.2.1⟩
  · rw [hu] at h1; cases h1.2.1
/-- cells are written where they lie -/
theorem storeN_run (hr : Rel X α s.heap.get w) (ho : Ok s) {r off : Nat} {vs : List AVal} {vs' : List Value} {L : Loc} (ha : α r = some L) (hv : VRels α vs vs') (he : storeN s r off vs = some s') :
    ∃ w', (storeCells ⟨L.b, L.base + off, none⟩ vs').run P w = .ok () w' ∧ Step X α α s s' w w' ∧ s'.next = s.next := by
  unfold storeN at he
  cases hg : s.heap.get r with
  | none => rw [hg] at he; cases he
  | some o =>
    rw [hg] at he
    cases o <;> first | (cases he; done) | skip
    rename_i cs e lo sp fz anc
    cases sp
    · simp only [storeO, brec] at he
      cases hone : allOne vs
      · rw [hone] at he; cases he
      · rw [hone] at he
        simp only [cond_true] at he
        cases hs : splice cs off vs with
        | none => rw [hs] at he; cases he
        | some cs' =>
          rw [hs] at he; cases he
          obtain ⟨C, e', fr, h1, h2, h3, h4, h5, h6, h7⟩ := hr.obj r L _ ha hg
          obtain ⟨k1, k2⟩ := splice_spec hs
          have hl := hv.length
          have hfit : L.base + off + vs'.length ≤ C.size := by omega
          obtain ⟨g1, g2, g3⟩ := setCells_heap (vs := vs') (o := L.base + off) h1 hfit
          have hlt := hr.dom r L _ ha hg (by simp)
          have hrun := run_storeCells_cells (P := P) L.b (L.base + off) vs' 0 w (fun j hj => by
              simp only [World.cell?, h1, Nat.add_zero]
              simp; omega) (fun j hj => by
              simp only [World.frozen?, h1, Nat.add_zero]
              have := h5 (L.base + off + j) (by omega)
              simp; omega) (allOne_rel hv hone)
          refine ⟨w.setCells L.b (L.base + off) vs', hrun, ?_, rfl⟩
          have hget : ∀ q, ((killAll s.heap anc).set r (.cells cs' e lo false fz [])).get q = if q = r then some (.cells cs' e lo false fz []) else if q ∈ anc then some .dead else s.heap.get q := by
            intro q; rw [Tr.get_set, killAll_get]
          obtain ⟨p1, p2, p3⟩ := rel_put (s' := { s with heap := (killAll s.heap anc).set r (.cells cs' e lo false fz []) }) (o' := .cells cs' e lo false fz []) hr ha hg (by simp) rfl rfl (by rw [hget, if_pos rfl])
            (fun q hq => by
              rw [hget, if_neg hq]
              by_cases hm : q ∈ anc
              · rw [if_pos hm]; exact .inr (.inl ⟨rfl, ho.anc r _ hg q hm⟩)
              · rw [if_neg hm]; exact .inl rfl)
            (fun q Lq oq hq hLq hoq hdq hb => by
              rw [hget, if_neg hq] at hoq
              by_cases hm : q ∈ anc
              · rw [if_pos hm] at hoq; cases hoq; exact hdq rfl
              · rw [if_neg hm] at hoq
                exact hm (hr.kin hq ha hLq hg hoq (by simp) hdq rfl hb).1) g1 g2 g3
            (by
              have hlen : cs'.length = cs.length := by rw [k2]; simp; omega
              refine ⟨spl C (L.base + off) vs', e', fr, ?_, by rw [hlen]; exact h2, by rw [spl_size hfit]; exact h3, fun i v hi => ?_, by rw [spl_size hfit]; exact h5, h6, h7⟩
              · rw [g1]; simp [hlt]
              · rw [spl_get hfit]
                have hil : i < cs'.length := (List.getElem?_eq_some_iff.1 hi).1
                by_cases c1 : i < off
                · rw [if_pos (by omega)]
                  have : cs[i]? = some v := by
                    rw [k2, List.append_assoc, List.getElem?_append_left (by simp; omega), List.getElem?_take, if_pos c1] at hi; exact hi
                  exact h4 i v this
                · by_cases c2 : i < off + vs.length
                  · rw [if_neg (by omega), if_pos (by omega)]
                    have : vs[i - off]? = some v := by
                      rw [k2, List.append_assoc, List.getElem?_append_right (by simp; omega), List.getElem?_append_left (by simp; omega)] at hi
                      have e1 : (List.take off cs).length = off := by simp; omega
                      rw [e1] at hi; exact hi
                    obtain ⟨v', q1, q2⟩ := hv.get this
                    exact ⟨v', by rw [show L.base + i - (L.base + off) = i - off by omega]; exact q1, q2⟩
                  · rw [if_neg (by omega), if_neg (by omega)]
                    have : cs[i]? = some v := by
                      rw [k2, List.getElem?_append_right (by simp; omega), List.getElem?_drop] at hi
                      rw [← hi]; congr 1; simp; omega
                    exact h4 i v this)
            (ho.lt hg) (fun q hq => by
              rw [hget, if_neg (by have := ho.lt hg; omega), if_neg (fun hm => by have := ho.anc r _ hg q hm; omega)])
          refine ⟨p1, p2, p3, ⟨fun q hq => ?_, fun q o' hq a ha' => ?_⟩, fun q hq hqa => ?_⟩
          · show ((killAll s.heap anc).set r _).get q = none
            have : s.next ≤ q := hq
            rw [hget, if_neg (by have := ho.lt hg; omega), if_neg (fun hm => by have := ho.anc r _ hg q hm; omega)]; exact ho.free q this
          · have hq' : ((killAll s.heap anc).set r (.cells cs' e lo false fz [])).get q = some o' := hq
            rw [hget] at hq'
            split at hq'
            · cases hq'; cases ha'
            · split at hq'
              · cases hq'; cases ha'
              · exact ho.anc q o' hq' a ha'
          · show ((killAll s.heap anc).set r (.cells cs' e lo false fz [])).get q = s.heap.get q ∨ ((killAll s.heap anc).set r (.cells cs' e lo false fz [])).get q = some .dead
            rw [hget, if_neg (fun e => by subst e; rw [ha] at hqa; cases hqa)]
            split
            · exact .inr rfl
            · exact .inl rfl
    · cases he
end
end Go.Ev
namespace Go.Ev
open Go Go.Lib
section
variable {P : Program} {X : Env} {α : Al} {s s' : St} {w : World} {ev : Operand → AVal} {ρ : Operand → Value}
def Writes (P : Program) (X : Env) (α : Al) (s s' : St) (w : World) (f : Sem Value) (v : AVal) : Prop :=
  ∃ v' w' β, f.run P w = .ok v' w' ∧ Step X α β s s' w w' ∧ VRel β v v'
/-- what is appended, at whatever count of draws -/
inductive Src (P : Program) (α : Al) (w : World) (d2 : TypeDesc) (esz : Nat) (zc : List AVal) (y' : Value) (n : Nat) (new : List AVal) : Prop
  | row (hd : ∀ k, d2 ≠ .int k) (hl : ∀ w1, (Builtin.lenOf y').run P w1 = .ok n w1) (hc : ∀ w1, w1.heap = w.heap → ∃ new', (Builtin.firstCells esz n y').run P w1 = .ok new' w1 ∧ VRels α new new'.toList)
  | zeros (k j : IntKind) (hd : d2 = .int k) (hy : y' = .int j n) (hn : n ≤ 1048576) (hnew : new = reps zc n)
theorem srcE_run (hr : Rel X α s.heap.get w) {esz n t : Nat} {zc new : List AVal} {td : TD} {d2 : TypeDesc} {y : AVal} {y' : Value} (hok : TDok P t td d2) (hy : VRel α y y') (he : srcE s.heap esz zc td y = some (n, new)) : Src P α w d2 esz zc y' n new := by
  cases td <;> first | (cases y <;> cases he; done) | skip
  · rename_i k
    cases k <;> first | (cases y <;> cases he; done) | skip
    cases y <;> first | (cases he; done) | skip
    rename_i j m
    cases m <;> first | (cases he; done) | skip
    rename_i m
    simp only [srcE, brec] at he
    cases hb : Nat.ble m 1048576
    · rw [hb] at he; cases he
    · rw [hb] at he; cases he
      cases d2 <;> first | exact hok.elim | skip
      cases hy
      exact .zeros _ j rfl rfl (Nat.le_of_ble_eq_true hb) rfl
  · cases y <;> first | (cases he; done) | skip
    rename_i l0
    cases d2 <;> first | exact hok.elim | skip
    cases hy with
    | @str _ st hst =>
      cases he
      refine .row (by simp) (fun w1 => ?_) (fun w1 _ => ⟨st.data.map fun b => .int .u8 b.toNat, ?_, ?_⟩)
      · rw [len_eq, ← toList_rel hst]; rfl
      · rw [len_eq, ← toList_rel hst]
        simp only [Builtin.firstCells, Sem.run_pure]
        congr 2
        simp
      · have : (st.data.map fun b => Value.int .u8 b.toNat).toList = l0.map fun n => Value.int .u8 (.ofNat n) := by
          rw [← hst]; simp [Function.comp_def]
        rw [this]; exact VRels.map _ _ (fun n => .int _ _) _
  · cases d2 <;> first | exact hok.elim | skip
    cases y <;> first | (cases he; done) | skip
    · cases hy; cases he
      exact .row (by simp) (fun w1 => rfl) (fun w1 _ => ⟨#[], rfl, .nil⟩)
    · rename_i r off m cap ex
      cases hy with
      | @sl _ _ _ _ cap' _ L a ha hxx hc hnn haa hrr =>
        simp only [srcE] at he
        cases hl : loadN s.heap r off (m * esz) with
        | none => rw [hl] at he; cases he
        | some l =>
          rw [hl] at he; cases he
          refine .row (by simp) (fun w1 => rfl) (fun w1 hw => ?_)
          obtain ⟨l', g1, g2⟩ := loadN_run (P := P) (hr.drawn hw) ha hl
          by_cases hz : cap' = 0
          · have : n = 0 := by omega
            subst this
            refine ⟨#[], by simp [Builtin.firstCells, loadCells, loadCellsFrom], ?_⟩
            have := (cut_spec (by
              unfold loadN at hl
              cases hg : getCells s.heap r with
              | none => rw [hg] at hl; cases hl
              | some cs => rw [hg] at hl; exact hl : cut ((getCells s.heap r).getD []) off (0 * esz) = some new))
            rw [this.2]; simp; exact .nil
          · refine ⟨l', ?_, g2⟩
            rw [haa hz]; exact g1
theorem run_zeroCells {z : Value} {new : List AVal} {n : Nat} (hz : VRels α new z.cells.toList) : VRels α (reps new n) (Builtin.zeroCells z.cells n).toList := by
  have hl := hz.length
  unfold Builtin.zeroCells
  refine VRels.of_get (by rw [reps_len]; simp [hl]) fun i a hi => ?_
  have hlt : i < n * new.length := by rw [← reps_len]; exact (List.getElem?_eq_some_iff.1 hi).1
  rw [reps_get _ _ _ hlt] at hi
  obtain ⟨v', h1, h2⟩ := hz.get hi
  refine ⟨v', ?_, h2⟩
  have hl' : new.length = z.cells.size := by simpa using hl
  rw [hl'] at hlt h1
  have h3 : z.cells[i % z.cells.size]? = some v' := by rw [← Array.getElem?_toList]; exact h1
  obtain ⟨h4, h5⟩ := Array.getElem?_eq_some_iff.1 h3
  simp [hlt, getElem!_pos, h4, h5]
/-- the appended cells go where the slice's own row has room -/
theorem append_in {ts : Array TypeId} {as : Array Value} {t u rt e esz n m cap : Nat} {d2 : TypeDesc} {base : Option Addr} {y' z : Value} {zc new : List AVal} {j : TypeInfo}
    (ht0 : ts[0]? = some t) (ht1 : ts[1]? = some u) (ha0 : as[0]? = some (.slice base m cap)) (ha1 : as[1]? = some y') (hu : P.underlying t = some (.slice e)) (hu2 : P.underlying u = some d2) (hsz : sizeIs P e esz)
    (hz : ∀ w, (zeroValue e).run P w = .ok z w) (hzc : ∀ α, VRels α zc z.cells.toList) (hzs : z.cells.size = esz) (hj : P.info? e = some j) (hjb : j.bytes ≤ 1048576) (hs : Src P α w d2 esz zc y' n new) (hle : m + n ≤ cap) :
    ∃ new' : Array Value, VRels α new new'.toList ∧ ∀ w', (base = none → w' = w) → (∀ a, base = some a → (storeCells (a.add (m * esz)) new'.toList).run P w = .ok () w') → (Builtin.append_ ts rt as).run P w = .ok (.slice base (m + n) cap) w' := by
  have hti : ∀ w, (typeInfo e).run P w = .ok j w := fun w => by simp [typeInfo, hj]
  cases hs with
  | row hd hl hc =>
    obtain ⟨new', g1, g2⟩ := hc w rfl
    refine ⟨new', g2, fun w' h1 h2 => ?_⟩
    unfold Builtin.append_
    have hm : (match d2 with | .int _ => true | _ => false) = false := by cases d2 <;> first | rfl | exact absurd rfl (hd _)
    simp only [ht0, ha0, ha1, ht1, Sem.run_bind, run_und hu, run_und hu2, Result.andThen_ok, run_size hsz, Sem.run_pure, Bool.false_eq_true, if_false, hl, if_pos hle, Bool.not_false, if_true, g1]
    cases base with
    | none => rw [h1 rfl]; rfl
    | some a => simp only [Sem.run_bind, h2 a rfl, Result.andThen_ok, Sem.run_pure]
  | zeros k j2 hd hy hn hnew =>
    subst hd; subst hy; subst hnew
    have wn : IntKind.i64.wrap (n : Int) = n := fits_wrap (k := .i64) (n := .ofNat n) (Nat.ble_eq_true_of_le (show n ≤ 9223372036854775807 by omega))
    have hb1 : ¬ ((n : Int) * (j.bytes : Int) > 2 ^ 48) := by
      have : n * j.bytes ≤ 1048576 * 1048576 := Nat.mul_le_mul hn hjb
      have : ((n * j.bytes : Nat) : Int) ≤ ((1048576 * 1048576 : Nat) : Int) := Int.ofNat_le.2 this
      rw [Int.natCast_mul] at this
      omega
    have hb0 : ¬ ((n : Int) < 0) := by omega
    refine ⟨Builtin.zeroCells z.cells n, run_zeroCells (hzc α), fun w' h1 h2 => ?_⟩
    have hap : (if n * esz = 0 then pure #[] else (do let __do_lift ← zeroValue e; pure (Builtin.zeroCells __do_lift.cells n)) : Sem (Array Value)).run P w = .ok (Builtin.zeroCells z.cells n) w := by
      split
      · rename_i h0
        have : Builtin.zeroCells z.cells n = #[] := Array.eq_empty_of_size_eq_zero (by simp [Builtin.zeroCells, hzs, h0])
        rw [this]; rfl
      · simp [hz]
    unfold Builtin.append_
    simp only [ht0, ha0, ha1, ht1, Sem.run_bind, run_und hu, run_und hu2, Result.andThen_ok, run_size hsz, Sem.run_pure, if_true, asInt, asIntOf, wn, if_neg hb0, hti, if_neg hb1, Int.toNat_natCast, if_pos hle, Bool.not_true, Bool.false_eq_true, if_false, hap]
    cases base with
    | none => rw [h1 rfl]; rfl
    | some a => simp only [Sem.run_bind, h2 a rfl, Result.andThen_ok, Sem.run_pure]
theorem growBy_le (N : Nat) : ∀ (k c : Nat), c ≤ 2 * N + 768 → Builtin.growBy N k c ≤ 2 * N + 768
  | 0, c, h => by simpa [Builtin.growBy] using h
  | k + 1, c, h => by
    unfold Builtin.growBy
    split
    · exact h
    · exact growBy_le N k _ (by omega)
theorem next_le {need cap : Nat} (h : cap < need) : Builtin.nextslicecap need cap ≤ 2 * need + 768 := by
  unfold Builtin.nextslicecap
  split
  · omega
  · split
    · omega
    · exact growBy_le need 4 cap (by omega)
theorem append_grow {ts : Array TypeId} {as : Array Value} {t u rt e esz n m cap : Nat} {d2 : TypeDesc} {base : Option Addr} {y' z : Value} {zc new : List AVal} {j : TypeInfo}
    (ht0 : ts[0]? = some t) (ht1 : ts[1]? = some u) (ha0 : as[0]? = some (.slice base m cap)) (ha1 : as[1]? = some y') (hu : P.underlying t = some (.slice e)) (hu2 : P.underlying u = some d2) (hsz : sizeIs P e esz)
    (hz : ∀ w, (zeroValue e).run P w = .ok z w) (hzc : ∀ α, VRels α zc z.cells.toList) (hzs : z.cells.size = esz) (hj : P.info? e = some j) (hjb : j.bytes ≤ 1048576) (hs : Src P α w d2 esz zc y' n new) (hle : ¬ m + n ≤ cap) (hsmall : m + n ≤ 1048576)
    {old' : Array Value} (hold : ∀ w1, w1.heap = w.heap → (Builtin.firstCells esz m (.slice base m cap)).run P w1 = .ok old' w1) :
    ∃ (new' : Array Value) (c : Nat), VRels α new new'.toList ∧ m + n ≤ c ∧ (Builtin.append_ ts rt as).run P w = .ok (.slice (some ⟨w.heap.size, 0, none⟩) (m + n) c) { w with drawn := w.drawn + 1, heap := w.heap.push (.cells (old' ++ new' ++ Builtin.zeroCells z.cells (c - (m + n))) e) } := by
  have hti : ∀ w, (typeInfo e).run P w = .ok j w := fun w => by simp [typeInfo, hj]
  let q : Question := .appendCap (m + n) cap e
  let c := q.cut (w.tape w.drawn q)
  have hc : m + n ≤ c := Nat.le_add_right _ _
  have hch : (choose (Question.appendCap (m + n) cap e)).run P w = .ok c { w with drawn := w.drawn + 1 } := rfl
  have hi64 : ¬ (((m + n : Nat) : Int) > IntKind.i64.max) := by
    have : IntKind.i64.max = 9223372036854775807 := by decide
    omega
  have hbig : ¬ (Builtin.nextslicecap (m + n) cap * j.bytes > 2 ^ 48) := by
    have h1 := next_le (need := m + n) (cap := cap) (by omega)
    have h2 : Builtin.nextslicecap (m + n) cap * j.bytes ≤ 4194304 * 1048576 := Nat.mul_le_mul (by omega) hjb
    omega
  have hask : ∀ b w, (askRoom b).run P w = .ok () w := fun b w => by unfold askRoom; split <;> rfl
  have hrow : ∀ cs, (newRow e cs).run P { w with drawn := w.drawn + 1 } = .ok ⟨w.heap.size, 0, none⟩ { w with drawn := w.drawn + 1, heap := w.heap.push (.cells cs e) } := fun cs => rfl
  cases hs with
  | row hd hl hc' =>
    obtain ⟨new', g1, g2⟩ := hc' { w with drawn := w.drawn + 1 } rfl
    refine ⟨new', c, g2, hc, ?_⟩
    unfold Builtin.append_
    have hm : (match d2 with | .int _ => true | _ => false) = false := by cases d2 <;> first | rfl | exact absurd rfl (hd _)
    simp only [ht0, ha0, ha1, ht1, Sem.run_bind, run_und hu, run_und hu2, Result.andThen_ok, run_size hsz, Sem.run_pure, hm, Bool.false_eq_true, if_false, hl, if_neg hle, Bool.not_false, if_true, hi64, false_and, hti, if_neg hbig, hch, hask, hold { w with drawn := w.drawn + 1 } rfl, g1, hz, hrow]
  | zeros k j2 hd hy hn hnew =>
    subst hd; subst hy; subst hnew
    have wn : IntKind.i64.wrap (n : Int) = n := fits_wrap (k := .i64) (n := .ofNat n) (Nat.ble_eq_true_of_le (show n ≤ 9223372036854775807 by omega))
    have hb1 : ¬ ((n : Int) * (j.bytes : Int) > 2 ^ 48) := by
      have : n * j.bytes ≤ 1048576 * 1048576 := Nat.mul_le_mul hn hjb
      have : ((n * j.bytes : Nat) : Int) ≤ ((1048576 * 1048576 : Nat) : Int) := Int.ofNat_le.2 this
      rw [Int.natCast_mul] at this
      omega
    have hb0 : ¬ ((n : Int) < 0) := by omega
    refine ⟨Builtin.zeroCells z.cells n, c, run_zeroCells (hzc α), hc, ?_⟩
    have hap : (if n * esz = 0 then pure #[] else (do let __do_lift ← zeroValue e; pure (Builtin.zeroCells __do_lift.cells n)) : Sem (Array Value)).run P { w with drawn := w.drawn + 1 } = .ok (Builtin.zeroCells z.cells n) { w with drawn := w.drawn + 1 } := by
      split
      · rename_i h0
        have : Builtin.zeroCells z.cells n = #[] := Array.eq_empty_of_size_eq_zero (by simp [Builtin.zeroCells, hzs, h0])
        rw [this]; rfl
      · simp [hz]
    unfold Builtin.append_
    simp only [ht0, ha0, ha1, ht1, Sem.run_bind, run_und hu, run_und hu2, Result.andThen_ok, run_size hsz, Sem.run_pure, if_true, asInt, asIntOf, wn, if_neg hb0, hti, if_neg hb1, Int.toNat_natCast, if_neg hle, Bool.not_true, Bool.false_eq_true, if_false, hap, hi64, false_and, if_neg hbig, hch, hask, hold { w with drawn := w.drawn + 1 } rfl, hz, hrow]
end
end Go.Ev
namespace Go.Ev
open Go Go.Lib
section
variable {P : Program} {X : Env} {α : Al} {s s' : St} {w : World}
/-- an append that finds room behind what is known of the row -/
theorem step_share (hr : Rel X α s.heap.get w) (ho : Ok s) (hf : Fresh α s.next (s.next + 1)) {r off mz e : Nat} {L : Loc} {cs old new : List AVal} {ancs : List Nat} {fz : Bool} {vs' : List Value}
    (ha : α r = some L) (hg : s.heap.get r = some (.cells cs e true false fz ancs)) (hlen : off + mz = cs.length) (hold : cut cs off mz = some old) (hv : VRels α new vs') (hone : allOne new = true)
    (hfit : L.base + off + mz + vs'.length ≤ L.lim) :
    ∃ w', (storeCells ⟨L.b, L.base + off + mz, none⟩ vs').run P w = .ok () w' ∧
      Step X α (updA α s.next ⟨L.b, L.base + off, L.lim, L.sz⟩) s (alloc (setObj s r (.cells cs e true true fz ancs)) (.cells (old ++ new) e true false fz (r :: ancs))) w w' := by
  obtain ⟨C, e', fr, h1, h2, h3, h4, h5, h6, h7⟩ := hr.obj r L _ ha hg
  have hfr := hf s.next (Nat.le_refl _) (Nat.lt_succ_self _)
  have hlt := hr.dom r L _ ha hg (by simp)
  have hrn : r < s.next := ho.lt hg
  have hl := hv.length
  obtain ⟨c1, c2⟩ := cut_spec hold
  have hfit' : L.base + off + mz + vs'.length ≤ C.size := by omega
  obtain ⟨g1, g2, g3⟩ := setCells_heap (vs := vs') (o := L.base + off + mz) h1 hfit'
  have hrun := run_storeCells_cells (P := P) L.b (L.base + off + mz) vs' 0 w (fun j hj => by
      simp only [World.cell?, h1, Nat.add_zero]
      simp; omega) (fun j hj => by
      simp only [World.frozen?, h1, Nat.add_zero]
      have := h5 (L.base + off + mz + j) (by omega)
      simp; omega) (allOne_rel hv hone)
  refine ⟨w.setCells L.b (L.base + off + mz) vs', hrun, ?_⟩
  have hget : ∀ q, (alloc (setObj s r (.cells cs e true true fz ancs)) (.cells (old ++ new) e true false fz (r :: ancs))).heap.get q =
      if q = s.next then some (.cells (old ++ new) e true false fz (r :: ancs)) else if q = r then some (.cells cs e true true fz ancs) else s.heap.get q := by
    intro q; rw [get_alloc, get_setObj]; rfl
  have hle := AlLe.upd (α := α) (n := s.next) ⟨L.b, L.base + off, L.lim, L.sz⟩ hfr
  have hsame : (w.setCells L.b (L.base + off + mz) vs').heap[L.b]? = some (.cells (spl C (L.base + off + mz) vs') e' fr) := by rw [g1]; simp [hlt]
  have hother : ∀ b, b ≠ L.b → (w.setCells L.b (L.base + off + mz) vs').heap[b]? = w.heap[b]? := fun b hb => by rw [g1]; simp [Array.getElem?_setIfInBounds_ne (Ne.symm hb)]
  have hsz : (w.setCells L.b (L.base + off + mz) vs').heap.size = w.heap.size := by rw [g1]; simp
  have holdl : old.length = mz := by rw [c2]; simp; omega
  -- what ends no later than r does stays
  have hstay : ∀ (M : Loc) (cs2 : List AVal) (e2 : Nat) (lo2 sp2 fz2 sp3 : Bool) (an2 : List Nat), M.b = L.b → M.base + cs2.length ≤ L.base + cs.length → ORel X α (.cells cs2 e2 lo2 sp2 fz2 an2) M w →
      ORel X (updA α s.next ⟨L.b, L.base + off, L.lim, L.sz⟩) (.cells cs2 e2 lo2 sp3 fz2 an2) M (w.setCells L.b (L.base + off + mz) vs') := by
    intro M cs2 e2 lo2 sp2 fz2 sp3 an2 hb hle2 ⟨C2, e3, fr2, k1, k2, k3, k4, k5, k6, k7⟩
    rw [hb, h1] at k1; cases k1
    refine ⟨_, _, _, by rw [hb]; exact hsame, k2, by rw [spl_size hfit']; exact k3, fun i v hi => ?_, by rw [spl_size hfit']; exact k5, k6, k7⟩
    obtain ⟨v', q1, q2⟩ := k4 i v hi
    have hil := (List.getElem?_eq_some_iff.1 hi).1
    exact ⟨v', by rw [spl_get hfit', if_pos (by omega)]; exact q1, q2.mono hle⟩
  have hkin : ∀ q M p, q ≠ r → α q = some M → s.heap.get q = some p → p ≠ .dead → M.b = L.b → q ∈ ancs ∧ M.base + lenOf p ≤ L.base + cs.length ∧ spentOf p = true :=
    fun q M p hq hM hp hpd hb => hr.kin hq ha hM hg hp (by simp) hpd rfl hb
  refine ⟨⟨?_, ?_, ?_⟩, ⟨hle, ?_, g2, g3, by omega, ?_, ?_, by simp [alloc, setObj]⟩, ⟨by simp [alloc, setObj], ?_, ?_⟩, ⟨?_, ?_⟩, ?_⟩
  · intro q M p hM hp hpd
    rw [hsz]
    rw [hget] at hp
    unfold updA at hM
    split at hM
    · cases hM; exact hlt
    · rename_i hq
      rw [if_neg hq] at hp
      split at hp
      · rename_i hqr; subst hqr; rw [ha] at hM; cases hM; exact hlt
      · exact hr.dom q M p hM hp hpd
  · intro q M p hM hp
    rw [hget] at hp
    unfold updA at hM
    split at hM
    · rename_i hq
      cases hM
      rw [if_pos hq] at hp; cases hp
      refine ⟨_, _, _, hsame, ?_, by rw [spl_size hfit']; exact h3, fun i v hi => ?_, by rw [spl_size hfit']; exact h5, h6, fun _ => h7 rfl⟩
      · show L.base + off + (old ++ new).length ≤ L.lim
        simp [holdl]; omega
      · show ∃ v', (spl C (L.base + off + mz) vs')[L.base + off + i]? = some v' ∧ _
        rw [spl_get hfit']
        by_cases hi2 : i < mz
        · rw [if_pos (by omega)]
          rw [List.getElem?_append_left (by omega)] at hi
          have : cs[off + i]? = some v := by rw [c2, List.getElem?_take, if_pos hi2, List.getElem?_drop] at hi; exact hi
          obtain ⟨v', q1, q2⟩ := h4 _ v this
          exact ⟨v', by rw [Nat.add_assoc]; exact q1, q2.mono hle⟩
        · rw [List.getElem?_append_right (by omega), holdl] at hi
          have hil := (List.getElem?_eq_some_iff.1 hi).1
          rw [if_neg (by omega), if_pos (by omega)]
          obtain ⟨v', q1, q2⟩ := hv.get hi
          exact ⟨v', by rw [show L.base + off + i - (L.base + off + mz) = i - mz by omega]; exact q1, q2.mono hle⟩
    · rename_i hq
      rw [if_neg hq] at hp
      split at hp
      · rename_i hqr; subst hqr
        rw [ha] at hM; cases hM; cases hp
        exact hstay L cs e true false fz true ancs rfl (Nat.le_refl _) (hr.obj q L _ ha hg)
      · rename_i hqr
        by_cases hb : M.b = L.b
        · by_cases hpd : p = .dead
          · subst hpd; trivial
          · obtain ⟨_, m2, _⟩ := hkin q M p hqr hM hp hpd hb
            have hob := hr.obj q M p hM hp
            cases p with
            | cells cs2 e2 lo2 sp2 fz2 an2 => exact hstay M cs2 e2 lo2 sp2 fz2 sp2 an2 hb m2 hob
            | map es c => obtain ⟨_, k1, _⟩ := hob; rw [hb, h1] at k1; cases k1
            | miter a1 a2 a3 a4 => obtain ⟨_, _, k1, _⟩ := hob; rw [hb, h1] at k1; cases k1
            | siter a1 a2 => obtain ⟨_, k1, _⟩ := hob; rw [hb, h1] at k1; cases k1
            | loop a1 a2 a3 a4 a5 a6 a7 a8 => obtain ⟨_, k1, _⟩ := hob; rw [hb, h1] at k1; cases k1
            | deferred a1 => have k1 : w.heap[M.b]? = _ := hob; rw [hb, h1] at k1; cases k1
            | dead => trivial
        · exact (hr.obj q M p hM hp).keep hle (hother _ hb)
  · intro q1 q2 M1 M2 o1 o2 hne a1 a2 b1 b2 d1 d2 hb
    rw [hget] at b1 b2
    unfold updA at a1 a2
    have newr : ∀ (q : Nat) (M : Loc) (p : AObj), q ≠ s.next → α q = some M → (if q = r then some (AObj.cells cs e true true fz ancs) else s.heap.get q) = some p → p ≠ .dead → L.b = M.b →
        q ∈ (r :: ancs) ∧ spentOf p = true ∧ M.base + lenOf p ≤ (L.base + off) + (old ++ new).length := by
      intro q M p hq hM hp hpd hb
      simp only [List.length_append, holdl]
      split at hp
      · rename_i hqr; subst hqr
        cases hp; rw [ha] at hM; cases hM
        exact ⟨List.mem_cons_self, rfl, by simp only [lenOf]; omega⟩
      · rename_i hqr
        obtain ⟨k1, k2, k3⟩ := hkin q M p hqr hM hp hpd hb.symm
        exact ⟨List.mem_cons_of_mem _ k1, k3, by omega⟩
    by_cases e1 : q1 = s.next
    · rw [if_pos e1] at a1 b1; cases a1; cases b1
      have e2 : q2 ≠ s.next := fun e2 => hne (e1.trans e2.symm)
      rw [if_neg e2] at a2 b2
      exact .inr (newr q2 M2 o2 e2 a2 b2 d2 hb)
    · rw [if_neg e1] at a1 b1
      by_cases e2 : q2 = s.next
      · rw [if_pos e2] at a2 b2; cases a2; cases b2
        exact .inl (newr q1 M1 o1 e1 a1 b1 d1 hb.symm)
      · rw [if_neg e2] at a2 b2
        by_cases r1 : q1 = r
        · subst r1
          have r2 : q2 ≠ q1 := Ne.symm hne
          rw [if_pos rfl] at b1; rw [if_neg r2] at b2; cases b1
          rw [ha] at a1; cases a1
          obtain ⟨k1, k2, k3⟩ := hkin q2 M2 o2 r2 a2 b2 d2 hb.symm
          exact .inr ⟨k1, k3, k2⟩
        · rw [if_neg r1] at b1
          by_cases r2 : q2 = r
          · subst r2
            rw [if_pos rfl] at b2; cases b2
            rw [ha] at a2; cases a2
            obtain ⟨k1, k2, k3⟩ := hkin q1 M1 o1 r1 a1 b1 d1 hb
            exact .inl ⟨k1, k3, k2⟩
          · rw [if_neg r2] at b2
            exact hr.sep q1 q2 M1 M2 o1 o2 hne a1 a2 b1 b2 d1 d2 hb
  · intro q M hM
    unfold updA at hM
    split at hM
    · rename_i hq; exact .inr ⟨by omega, by simp [alloc, setObj]; omega⟩
    · exact .inl hM
  · intro b hb hno
    exact hother b (fun e => hno r L _ ha hg ⟨by simp, rfl⟩ e.symm)
  · intro q M hM
    unfold updA at hM
    split at hM
    · cases hM; exact .inr (.inr ⟨r, L, _, ha, hg, ⟨by simp, rfl⟩, rfl⟩)
    · exact .inl hM
  · intro q hq o' ho' hd
    rw [hget, if_neg (by omega)] at ho'
    split at ho'
    · rename_i hqr; subst hqr; exact ⟨_, hg, by simp, rfl⟩
    · exact ⟨o', ho', hd⟩
  · intro q hq
    have : s.next + 1 ≤ q := hq
    rw [hget, if_neg (by omega), if_neg (by omega)]
  · intro q hq
    have : s.next + 1 ≤ q := hq
    rw [hget, if_neg (by omega), if_neg (by omega)]; exact ho.free q (by omega)
  · intro q p hp a hap
    show a < s.next + 1
    rw [hget] at hp
    split at hp
    · cases hp
      rcases List.mem_cons.1 hap with h | h
      · omega
      · have := ho.anc r _ hg a h; omega
    · split at hp
      · cases hp; have := ho.anc r _ hg a hap; omega
      · have := ho.anc q p hp a hap; omega
  · intro q hq hqa
    rw [hget, if_neg (by omega), if_neg (fun e => by subst e; rw [ha] at hqa; cases hqa)]
    exact .inl rfl
end
end Go.Ev
namespace Go.Ev
open Go Go.Lib
section
variable {P : Program} {X : Env} {α : Al} {s s' : St} {w : World}
theorem sameSize (hX : EnvOk P X) {e esz : Nat} {ei : TI} (h : X.ty.get e = some ei) (hs : sizeIs P e esz) : ei.size = esz := by
  obtain ⟨i1, a1, a2⟩ := (hX.ty e ei h).size
  obtain ⟨i2, b1, b2⟩ := hs
  rw [a1] at b1; cases b1; omega
theorem loadN_len {h : Tr AObj} {r off n : Nat} {l : List AVal} (hl : loadN h r off n = some l) : ∃ cs, getCells h r = some cs ∧ cut cs off n = some l := by
  unfold loadN at hl
  cases hg : getCells h r with
  | none => rw [hg] at hl; cases hl
  | some cs => rw [hg] at hl; exact ⟨cs, rfl, hl⟩
theorem loadN_all {h : Tr AObj} {r off n : Nat} {l : List AVal} {L : Loc} (hr : Rel X α h.get w) (ha : α r = some L) (hl : loadN h r off n = some l) :
    ∃ l', (∀ w1 : World, w1.heap = w.heap → (loadCells ⟨L.b, L.base + off, none⟩ n).run P w1 = .ok l' w1) ∧ VRels α l l'.toList := by
  obtain ⟨cs, hc, hcut⟩ := loadN_len hl
  obtain ⟨h1, h2⟩ := cut_spec hcut
  have hlen : l.length = n := by rw [h2]; simp; omega
  have hget : ∀ j, j < n → ∃ v', w.cell? ⟨L.b, L.base + (off + j), none⟩ = some v' ∧ VRel α (l.getD j .bad) v' := by
    intro j hj
    have e : cs[off + j]? = some (l.getD j .bad) := by
      have : l[j]? = cs[off + j]? := by rw [h2, List.getElem?_take]; simp [hj]
      rw [← this, List.getD_eq_getElem?_getD, List.getElem?_eq_getElem (by omega)]; rfl
    exact cells_rel hr ha hc e
  refine ⟨((List.range n).map fun j => (w.cell? ⟨L.b, L.base + (off + j), none⟩).getD undef).toArray, fun w1 hw => ?_, ?_⟩
  · refine run_loadCells w1 _ n _ fun j hj => ?_
    rw [addr_add]
    obtain ⟨v', h3, _⟩ := hget j hj
    rw [show L.base + off + j = L.base + (off + j) by omega]
    have : w1.cell? ⟨L.b, L.base + (off + j), none⟩ = w.cell? ⟨L.b, L.base + (off + j), none⟩ := by simp only [World.cell?, hw]
    rw [this, h3]; rfl
  · refine VRels.of_get (by simp [hlen]) fun i a hi => ?_
    have hin : i < n := by rw [← hlen]; exact (List.getElem?_eq_some_iff.1 hi).1
    obtain ⟨v', h3, h4⟩ := hget i hin
    rw [List.getD_eq_getElem?_getD, hi] at h4
    exact ⟨v', by simp [hin, h3], h4⟩
theorem VRels.whole {cs : List AVal} {C : Array Value} (h : VRels α cs C.toList) : VRels α cs (C.toList.take cs.length) ∧ cs.length ≤ C.size := by
  have := h.length
  rw [List.take_of_length_le (by omega)]
  exact ⟨h, by simpa using Nat.le_of_eq this⟩
/-- a prefix -/
theorem VRels.pre {cs : List AVal} {C D : Array Value} (h : VRels α cs C.toList) : VRels α cs ((C ++ D).toList.take cs.length) ∧ cs.length ≤ (C ++ D).size := by
  have := h.length
  have hl : cs.length = C.size := by simpa using this
  refine ⟨?_, by simp; omega⟩
  have : (C ++ D).toList.take cs.length = C.toList := by rw [hl]; simp
  rw [this]; exact h
/-- an object's row is given away -/
theorem step_spend (hr : Rel X α s.heap.get w) (ho : Ok s) {r e : Nat} {cs : List AVal} {lo fz : Bool} {anc : List Nat} {L : Loc} (ha : α r = some L) (hg : s.heap.get r = some (.cells cs e lo false fz anc)) :
    Step X α α s (setObj s r (.cells cs e lo true fz anc)) w w := by
  have hrn := ho.lt hg
  have hob := hr.obj r L _ ha hg
  refine ⟨⟨fun q M p hM hp hpd => ?_, fun q M p hM hp => ?_, fun q1 q2 M1 M2 o1 o2 hne a1 a2 b1 b2 d1 d2 hb => ?_⟩, ⟨.refl α, fun _ _ h => .inl h, rfl, rfl, Nat.le_refl _, fun _ _ _ => rfl, fun _ _ h => .inl h, Nat.le_refl _⟩, ⟨Nat.le_refl _, ?_, fun q hq => ?_⟩, ⟨fun q hq => ?_, fun q p hp a hap => ?_⟩, fun q hq hqa => ?_⟩
  · rw [get_setObj] at hp
    split at hp
    · rename_i hqr; subst hqr; rw [ha] at hM; cases hM; exact hr.dom q L _ ha hg (by simp)
    · exact hr.dom q M p hM hp hpd
  · rw [get_setObj] at hp
    split at hp
    · rename_i hqr; subst hqr; rw [ha] at hM; cases hM; cases hp; exact hob
    · exact hr.obj q M p hM hp
  · rw [get_setObj] at b1 b2
    by_cases r1 : q1 = r
    · subst r1
      have r2 : q2 ≠ q1 := Ne.symm hne
      rw [if_pos rfl] at b1; rw [if_neg r2] at b2; cases b1
      rw [ha] at a1; cases a1
      obtain ⟨k1, k2, k3⟩ := hr.kin r2 ha a2 hg b2 (by simp) d2 rfl hb.symm
      exact .inr ⟨k1, k3, k2⟩
    · rw [if_neg r1] at b1
      by_cases r2 : q2 = r
      · subst r2
        rw [if_pos rfl] at b2; cases b2
        rw [ha] at a2; cases a2
        obtain ⟨k1, k2, k3⟩ := hr.kin r1 ha a1 hg b1 (by simp) d1 rfl hb
        exact .inl ⟨k1, k3, k2⟩
      · rw [if_neg r2] at b2
        exact hr.sep q1 q2 M1 M2 o1 o2 hne a1 a2 b1 b2 d1 d2 hb
  · intro q _ o' ho' hd
    rw [get_setObj] at ho'
    split at ho'
    · rename_i hqr; subst hqr; exact ⟨_, hg, by simp, rfl⟩
    · exact ⟨o', ho', hd⟩
  · rw [get_setObj, if_neg]; have : s.next ≤ q := hq; omega
  · have : s.next ≤ q := hq
    rw [get_setObj, if_neg (by omega)]; exact ho.free q this
  · rw [get_setObj] at hp
    split at hp
    · cases hp; exact ho.anc r _ hg a hap
    · exact ho.anc q p hp a hap
  · rw [get_setObj, if_neg (fun e => by subst e; rw [ha] at hqa; cases hqa)]; exact .inl rfl
/-- a slice that has grown into a row of its own -/
theorem step_grown (hr : Rel X α s.heap.get w) (ho : Ok s) (hf : Fresh α s.next (s.next + 1)) {e esz n m c : Nat} {ei : TI} {old new : List AVal} {old' new' z : Array Value} (hte : X.ty.get e = some ei) (hes : ei.size = esz)
    (h1 : VRels α old old'.toList) (h2 : VRels α new new'.toList) (hl1 : old.length = m * esz) (hl2 : new.length = n * esz) (hz : z.size = esz) (hc : m + n ≤ c) (fz : Bool) (anc : List Nat) (hanc : ∀ q ∈ anc, q < s.next) :
    let w' : World := { w with drawn := w.drawn + 1, heap := w.heap.push (.cells (old' ++ new' ++ Builtin.zeroCells z (c - (m + n))) e) }
    ∃ β, Step X α β s (alloc s (.cells (old ++ new) e true false fz anc)) w w' ∧ VRel β (.sl s.next 0 (m + n) (m + n) false) (.slice (some ⟨w.heap.size, 0, none⟩) (m + n) c) := by
  intro w'
  have h12 : VRels α (old ++ new) (old' ++ new').toList := by rw [Array.toList_append]; exact h1.append h2
  obtain ⟨k1, k2⟩ := h12.pre (D := Builtin.zeroCells z (c - (m + n)))
  refine ⟨_, step_rowF (sz := esz) hr ho hf k1 k2 (fun _ => ⟨ei, hte, hes⟩) (fun i _ => by simp) (fun _ => rfl) rfl rfl rfl hanc, ?_⟩
  refine VRel.sl (L := ⟨w.heap.size, 0, _, esz⟩) (updA_same _ _ _) (by simp) hc (Nat.le_refl _) (fun _ => rfl) (fun _ _ => ?_)
  have e1 := h1.length
  have e2 := h2.length
  simp only [Array.length_toList] at e1 e2
  have e3 : (Builtin.zeroCells z (c - (m + n))).size = (c - (m + n)) * esz := by simp [Builtin.zeroCells, hz]
  have e4 : (m + n) * esz + (c - (m + n)) * esz = c * esz := by rw [← Nat.add_mul]; congr 1; omega
  have e5 : (m + n) * esz = m * esz + n * esz := Nat.add_mul _ _ _
  simp only [Array.size_append]
  omega
theorem appE_run (hX : EnvOk P X) (hr : Rel X α s.heap.get w) (ho : Ok s) (hf : Fresh α s.next s'.next) {ts : Array TypeId} {as : Array Value} {t u rt : Nat} {x y v : AVal} {x' y' : Value} (hx : VRel α x x') (hy : VRel α y y')
    (ht0 : ts[0]? = some t) (ht1 : ts[1]? = some u) (ha0 : as[0]? = some x') (ha1 : as[1]? = some y') (he : appE X s t u x y = some (v, s')) : Writes P X α s s' w (Builtin.append_ ts rt as) v := by
  unfold appE at he
  cases ht : X.ty.get t with
  | none => rw [ht] at he; cases he
  | some ti =>
    cases hu' : X.ty.get u with
    | none => rw [ht, hu'] at he; cases he
    | some ui =>
      obtain ⟨⟨d, hu, hok, hg⟩, hs0, hz0, hc0, hzl, hsm⟩ := hX.ty t ti ht
      obtain ⟨⟨d2, hu2, hok2, hg2⟩, _⟩ := hX.ty u ui hu'
      obtain ⟨td, sz, zv, ag⟩ := ti
      rw [ht, hu'] at he
      simp only at he
      cases td <;> first | (cases he; done) | skip
      rename_i e esz bb
      cases d <;> first | exact hok.elim | skip
      obtain ⟨rfl, hsz, _⟩ := hok
      simp only at he
      cases hte : X.ty.get e with
      | none => rw [hte] at he; cases he
      | some ei =>
        rw [hte] at he
        obtain ⟨z, hz1, hz2, hz3, hz4⟩ := zsize hX hte
        have hes := sameSize hX hte hsz
        rw [hes] at hz3 hz4
        obtain ⟨j, j1, j2⟩ := (hX.ty e ei hte).small
        simp only at he
        cases hsrc : srcE s.heap esz ei.zv.cells ui.d y with
        | none => rw [hsrc] at he; cases he
        | some q =>
          obtain ⟨n, new⟩ := q
          rw [hsrc] at he
          have hS : Src P α w d2 esz ei.zv.cells y' n new := srcE_run hr hok2 hy hsrc
          simp only [appS, brec] at he
          cases hb : Nat.beq (len new) (n * esz)
          · rw [hb] at he; cases he
          · rw [hb] at he
            have hnew := Nat.eq_of_beq_eq_true hb
            rw [len_eq] at hnew
            simp only [cond_true] at he
            cases x <;> first | (cases he; done) | skip
            · -- nil
              cases hx
              simp only [appV, brec] at he
              cases hn : Nat.beq n 0
              · rw [hn] at he
                have hn0 := ne_of_beq hn
                simp only [cond_false] at he
                cases hn2 : Nat.ble n 1048576
                · rw [hn2] at he; cases he
                · rw [hn2] at he
                  have hn3 := Nat.le_of_ble_eq_true hn2
                  cases he
                  obtain ⟨new', c, g1, g2, g3⟩ := append_grow (rt := rt) (m := 0) (cap := 0) (base := none) ht0 ht1 ha0 ha1 hu hu2 hsz hz1 hz2 hz3 j1 j2 hS (by omega) (by omega) (old' := #[]) (fun w1 _ => by simp [Builtin.firstCells])
                  obtain ⟨β, k1, k2⟩ := step_grown hr ho hf hte hes (m := 0) (old := []) (old' := #[]) (z := z.cells) VRels.nil g1 (by simp) hnew hz3 g2 false [] (by simp)
                  simp only [Nat.zero_add, List.nil_append] at k1 k2 g3
                  exact ⟨_, _, β, g3, k1, k2⟩
              · rw [hn] at he
                obtain rfl := Nat.eq_of_beq_eq_true hn
                cases he
                obtain ⟨new', g1, g2⟩ := append_in (rt := rt) (m := 0) (cap := 0) (base := none) ht0 ht1 ha0 ha1 hu hu2 hsz hz1 hz2 hz3 j1 j2 hS (by omega)
                exact ⟨_, w, α, g2 w (fun _ => rfl) (fun a h => by cases h), Step.refl hr ho, .snil⟩
            · rename_i r off m cap ex
              cases hx with
              | @sl _ _ _ _ cap' _ L a ha hxx hc hnn haa hrr =>
                simp only [appV, brec] at he
                cases hin : Nat.ble (m + n) cap
                · rw [hin] at he
                  have hnin : ¬ m + n ≤ cap := fun h => by rw [Nat.ble_eq_true_of_le h] at hin; cases hin
                  simp only [cond_false] at he
                  cases hn2 : Nat.ble (m + n) 1048576
                  · rw [hn2] at he; cases he
                  · rw [hn2] at he
                    have hn3 := Nat.le_of_ble_eq_true hn2
                    simp only [cond_true] at he
                    cases hld : loadN s.heap r off (m * esz) with
                    | none => rw [hld] at he; cases he
                    | some old =>
                      rw [hld] at he
                      obtain ⟨cs, q1, q2⟩ := loadN_len hld
                      have hol : old.length = m * esz := by
                        obtain ⟨a1, a2⟩ := cut_spec q2; rw [a2]; simp; omega
                      obtain ⟨old', o2, o1⟩ : ∃ old' : Array Value, VRels α old old'.toList ∧ ∀ w1 : World, w1.heap = w.heap → (Builtin.firstCells esz m (.slice (some a) m cap')).run P w1 = .ok old' w1 := by
                        by_cases hz : cap' = 0
                        · have hm0 : m = 0 := by omega
                          subst hm0
                          refine ⟨#[], ?_, fun w1 _ => by simp [Builtin.firstCells, loadCells, loadCellsFrom]⟩
                          have : old = [] := List.eq_nil_of_length_eq_zero (by simpa using hol)
                          rw [this]; exact .nil
                        · obtain ⟨l', u1, u2⟩ := loadN_all (P := P) hr ha hld
                          exact ⟨l', u2, fun w1 hw => by rw [haa hz]; exact u1 w1 hw⟩
                      simp only [appGrow, brec] at he
                      have hol2 : Fresh α s.next (s.next + 1) → ∀ (fz : Bool) (anc : List Nat), (∀ q ∈ anc, q < s.next) → ∀ (s1 : St), Step X α α s s1 w w → s1.next = s.next → ¬ m + n ≤ cap' → Writes P X α s (alloc s1 (.cells (old ++ new) e true false fz anc)) w (Builtin.append_ ts rt as) (.sl s.next 0 (m + n) (m + n) false) := by
                        intro hf1 fz anc hanc s1 st1 hn1 hle
                        obtain ⟨new', c, g1, g2, g3⟩ := append_grow (rt := rt) (m := m) (cap := cap') (base := some a) ht0 ht1 ha0 ha1 hu hu2 hsz hz1 hz2 hz3 j1 j2 hS hle hn3 o1
                        obtain ⟨β, k1, k2⟩ := step_grown st1.rel st1.ok (by rw [hn1]; exact hf1) hte hes (z := z.cells) o2 g1 hol hnew hz3 g2 fz anc (by rw [hn1]; exact hanc)
                        rw [hn1] at k2
                        exact ⟨_, _, β, g3, st1.trans (by rw [show (alloc s1 (.cells (old ++ new) e true false fz anc)).next = s.next + 1 from congrArg (· + 1) hn1]; exact hf1) k1, k2⟩
                      cases hex : ex
                      · rw [hex] at he
                        simp only [cond_false] at he
                        cases hgr : s.heap.get r with
                        | none => rw [hgr] at he; cases he
                        | some o =>
                          rw [hgr] at he
                          cases o <;> first | (cases he; done) | skip
                          rename_i cs2 e2 lo sp fz ancs
                          cases lo
                          · cases he
                          · cases sp
                            · simp only [appLoose, brec] at he
                              cases hck : (Nat.beq e2 e && (Nat.beq (off + m * esz) (len cs2) && allOne new))
                              · rw [hck] at he; cases he
                              · rw [hck] at he
                                simp only [cond_true, Option.some.injEq, Prod.mk.injEq] at he
                                obtain ⟨rfl, rfl⟩ := he
                                rw [Bool.and_eq_true, Bool.and_eq_true] at hck
                                obtain rfl := Nat.eq_of_beq_eq_true hck.1
                                have hlen := Nat.eq_of_beq_eq_true hck.2.1
                                rw [len_eq] at hlen
                                have hone := hck.2.2
                                have hcs : cs = cs2 := by simp [getCells, hgr, cellsOf] at q1; exact q1.symm
                                subst hcs
                                obtain ⟨_, _, _, _, _, _, _, _, _, hsz2⟩ := hr.obj r L _ ha hgr
                                obtain ⟨ti2, w1, w2⟩ := hsz2 rfl
                                rw [hte] at w1; cases w1
                                have hLs : L.sz = esz := by rw [← w2, hes]
                                have hanc : ∀ q ∈ r :: ancs, q < s.next := fun q hq => by
                                  rcases List.mem_cons.1 hq with h | h
                                  · subst h; exact ho.lt hgr
                                  · exact ho.anc r _ hgr q h
                                by_cases hroom : m + n ≤ cap'
                                · have hc0 : cap' ≠ 0 := by omega
                                  obtain ⟨new', g1, g2⟩ := append_in (rt := rt) (m := m) (cap := cap') (base := some a) ht0 ht1 ha0 ha1 hu hu2 hsz hz1 hz2 hz3 j1 j2 hS hroom
                                  have hlim := hrr hex hc0
                                  have hmul : m * esz + n * esz ≤ cap' * esz := by rw [← Nat.add_mul]; exact Nat.mul_le_mul_right _ hroom
                                  have hnl := g1.length
                                  rw [hLs] at hlim
                                  obtain ⟨w', k1, k2⟩ := step_share (P := P) hr ho hf ha hgr hlen q2 g1 hone (by omega)
                                  refine ⟨_, w', _, g2 w' (fun h => by cases h) (fun b hb => ?_), k2, ?_⟩
                                  · cases hb
                                    rw [haa hc0, addr_add]; exact k1
                                  · rw [haa hc0]
                                    refine VRel.sl (L := ⟨L.b, L.base + off, L.lim, L.sz⟩) (updA_same _ _ _) (by simp) hroom (Nat.le_refl _) (fun _ => rfl) (fun _ _ => ?_)
                                    show L.base + off + 0 + cap' * L.sz ≤ L.lim
                                    rw [hLs]; omega
                                · exact hol2 hf fz (r :: ancs) hanc _ (step_spend hr ho ha hgr) rfl hroom
                            · cases he
                      · rw [hex] at he
                        simp only [cond_true, appNew, Option.some.injEq, Prod.mk.injEq] at he
                        obtain ⟨rfl, rfl⟩ := he
                        have : cap' = cap := hxx hex
                        exact hol2 hf false [] (by simp) s (Step.refl hr ho) rfl (by omega)
                · rw [hin] at he
                  have hle := Nat.le_of_ble_eq_true hin
                  simp only [cond_true] at he
                  obtain ⟨new', g1, g2⟩ := append_in (rt := rt) (m := m) (cap := cap') (base := some a) ht0 ht1 ha0 ha1 hu hu2 hsz hz1 hz2 hz3 j1 j2 hS (by omega)
                  cases hn : Nat.beq n 0
                  · rw [hn] at he
                    have hn0 := ne_of_beq hn
                    simp only [cond_false] at he
                    cases hst : storeN s r (off + m * esz) new with
                    | none => rw [hst] at he; cases he
                    | some s1 =>
                      rw [hst] at he; cases he
                      obtain ⟨w', k1, k2, k3⟩ := storeN_run (P := P) hr ho ha g1 hst
                      refine ⟨_, w', α, g2 w' (fun h => by cases h) (fun b hb => ?_), k2, .sl ha hxx hc hle haa hrr⟩
                      cases hb
                      rw [haa (by omega), addr_add, Nat.add_assoc]; exact k1
                  · rw [hn] at he
                    obtain rfl := Nat.eq_of_beq_eq_true hn
                    cases he
                    have : new'.toList = [] := List.eq_nil_of_length_eq_zero (by rw [← g1.length, hnew]; simp)
                    refine ⟨_, w, α, g2 w (fun h => by cases h) (fun b hb => by rw [this]; rfl), Step.refl hr ho, .sl ha hxx hc hle haa hrr⟩
end
end Go.Ev
namespace Go.Ev
open Go Go.Lib
section
variable {P : Program} {X : Env} {α : Al} {s s' : St} {w : World} {ev : Operand → AVal} {ρ : Operand → Value}
theorem step_obj (hr : Rel X α s.heap.get w) (ho : Ok s) {r : Nat} {L : Loc} {o o' : AObj} {obj : Obj} {w' : World} (ha : α r = some L) (hg : s.heap.get r = some o) (hd : o ≠ .dead) (hsp : spentOf o = false) (han : ancOf o = []) (han' : ancOf o' = [])
    (hw : w'.heap = w.heap.setIfInBounds L.b obj) (hos : w'.os = w.os) (hout : w'.output = w.output) (hrel : ORel X α o' L w') : Step X α α s (setObj s r o') w w' := by
  have hrn := ho.lt hg
  obtain ⟨p1, p2, p3⟩ := rel_put (s' := setObj s r o') (o' := o') hr ha hg hd hsp rfl (by rw [get_setObj, if_pos rfl])
    (fun q hq => by rw [get_setObj, if_neg hq]; exact .inl rfl)
    (fun q Lq oq hq hLq hoq hdq hb => by
      rw [get_setObj, if_neg hq] at hoq
      have := (hr.kin hq ha hLq hg hoq hd hdq hsp hb).1
      rw [han] at this; cases this) hw hos hout hrel hrn (fun q hq => by rw [get_setObj, if_neg (by omega)])
  refine ⟨p1, p2, p3, ⟨fun q hq => ?_, fun q p hp a hap => ?_⟩, fun q hq hqa => ?_⟩
  · have : s.next ≤ q := hq
    rw [get_setObj, if_neg (by omega)]; exact ho.free q this
  · rw [get_setObj] at hp
    split at hp
    · cases hp; rw [han'] at hap; cases hap
    · exact ho.anc q p hp a hap
  · rw [get_setObj, if_neg (fun e => by subst e; rw [ha] at hqa; cases hqa)]; exact .inl rfl
theorem setObj_run {b : Nat} {o o' : Obj} (hb : w.heap[b]? = some o) (hc : ∀ x y z, o ≠ .cells x y z) : (Go.setObj b o').run P w = .ok () { w with heap := w.heap.setIfInBounds b o' } := by
  cases o <;> first | exact absurd rfl (hc _ _ _) | simp [Go.setObj, Sem.run, hb]
theorem setAt {o o' : Obj} {b : Nat} (hb : w.heap[b]? = some o) : (w.heap.setIfInBounds b o')[b]? = some o' := by
  obtain ⟨h, _⟩ := Array.getElem?_eq_some_iff.1 hb
  simp [h]
/-- what an operation does that writes -/
def WritesU (P : Program) (X : Env) (α : Al) (s s' : St) (w : World) (f : Sem Unit) : Prop := ∃ w', f.run P w = .ok () w' ∧ Step X α α s s' w w'
theorem ERels.append {l l2 : List (AVal × AVal × Nat)} {m m2 : List MapEntry} (h : ERels α l m) (h2 : ERels α l2 m2) : ERels α (l ++ l2) (m ++ m2) := by
  induction h with
  | nil => exact h2
  | cons hk hv hb _ ih => exact .cons hk hv hb ih
theorem ERels.modAt {f : AVal × AVal × Nat → AVal × AVal × Nat} {g : MapEntry → MapEntry} (hfg : ∀ k v b e, VRel α k e.key → VRel α v e.val → e.born = b → VRel α (f (k, v, b)).1 (g e).key ∧ VRel α (f (k, v, b)).2.1 (g e).val ∧ (g e).born = (f (k, v, b)).2.2)
    {l : List (AVal × AVal × Nat)} {m : List MapEntry} (h : ERels α l m) (i : Nat) : ERels α (Ev.modAt f l i) (m.modify i g) := by
  induction h generalizing i with
  | nil => cases i <;> exact .nil
  | cons hk hv hb t ih =>
    cases i with
    | zero =>
      obtain ⟨a, b, c⟩ := hfg _ _ _ _ hk hv hb
      simp only [Ev.modAt, List.modify_zero_cons]
      exact .cons a b c t
    | succ i => simp only [Ev.modAt, List.modify_succ_cons]; exact .cons hk hv hb (ih i)
theorem ERels.eraseAt {l : List (AVal × AVal × Nat)} {m : List MapEntry} (h : ERels α l m) (i : Nat) : ERels α (Ev.eraseAt l i) (m.eraseIdx i) := by
  induction h generalizing i with
  | nil => cases i <;> exact .nil
  | cons hk hv hb t ih =>
    cases i with
    | zero => exact t
    | succ i => exact .cons hk hv hb (ih i)
theorem key_same {p : PK} {k k1 : AVal} {k' k1' : Value} (h : eqP p k k1 = some true) (h1 : VRel α k k') (h2 : VRel α k1 k1') (n : Nat) : Instr.sameBits n k1' k' = true := by
  cases p
  · cases k <;> cases k1 <;> simp [eqP] at h
    cases h1; cases h2; rw [eqB_eq] at h; simp at h; subst h; simp [Instr.sameBits]
  · cases k <;> cases k1 <;> simp only [eqP] at h <;> first | (cases h; done) | skip
    rename_i a b c d
    cases h1; cases h2
    rw [brec, kEq_eq] at h
    by_cases hk : a = c
    · subst hk; simp [eqI_eq] at h; subst h; simp [Instr.sameBits]
    · simp [hk] at h
  · cases k <;> cases k1 <;> simp only [eqP] at h <;> first | (cases h; done) | skip
    cases h1 with
    | str a1 => cases h2 with
      | str a2 =>
        rw [beqN_eq] at h
        have := bytes_eq a2 a1
        simp only [Option.some.injEq, beq_iff_eq] at h
        subst h
        simp only [Instr.sameBits, this]; simp
theorem findK_at {p : PK} {k v : AVal} : ∀ {es : List (AVal × AVal × Nat)} {i j : Nat}, findK p k es i = some (some (j, v)) → ∃ e, es[j - i]? = some e ∧ eqP p k e.1 = some true ∧ i ≤ j
  | [], i, j, h => by cases h
  | (k1, v1, b1) :: es, i, j, h => by
    simp only [findK] at h
    cases hb : eqP p k k1 with
    | none => rw [hb] at h; cases h
    | some b =>
      rw [hb] at h
      cases b
      · obtain ⟨e, h1, h2, h3⟩ := findK_at h
        refine ⟨e, ?_, h2, by omega⟩
        rw [show j - i = (j - (i + 1)) + 1 by omega, List.getElem?_cons_succ]; exact h1
      · cases h; exact ⟨(k1, v, b1), by simp, hb, Nat.le_refl _⟩
theorem ERels.get {l : List (AVal × AVal × Nat)} {m : List MapEntry} (h : ERels α l m) {i : Nat} {e : AVal × AVal × Nat} (hi : l[i]? = some e) : ∃ e', m[i]? = some e' ∧ VRel α e.1 e'.key ∧ VRel α e.2.1 e'.val ∧ e'.born = e.2.2 := by
  induction h generalizing i with
  | nil => simp at hi
  | @cons k v b e1 l1 m1 hk hv hb t ih =>
    cases i with
    | zero => simp at hi; subst hi; exact ⟨_, by simp, hk, hv, hb⟩
    | succ i => simp at hi; obtain ⟨e', a, b⟩ := ih hi; exact ⟨e', by simpa using a, b⟩
theorem updE_run (hX : EnvOk P X) (hr : Rel X α s.heap.get w) (ho : Ok s) {t : Nat} {m k v : AVal} {m' k' v' : Value} (hm : VRel α m m') (hk : VRel α k k') (hv : VRel α v v') (he : updE X s t m k v = some s') :
    WritesU P X α s s' w (Instr.mapUpdate t m' k' v') := by
  unfold updE at he
  cases ht : X.ty.get t with
  | none => rw [ht] at he; cases he
  | some ti =>
    obtain ⟨⟨d, hu, hok, hg⟩, hs0, hz0, hc0, hzl, hsm⟩ := hX.ty t ti ht
    obtain ⟨td, sz, zv0, ag⟩ := ti
    simp only [ht] at he
    cases td <;> first | (cases he; done) | skip
    rename_i p zv
    cases p with
    | none => cases m <;> cases he
    | some p =>
      cases d <;> first | exact hok.elim | skip
      obtain ⟨hp, _⟩ := hok
      obtain ⟨kd, hku, hkd⟩ := hp p rfl
      cases m <;> first | (cases he; done) | skip
      rename_i r
      cases hm with
      | @map _ L ha =>
        simp only [updD] at he
        cases hgr : s.heap.get r with
        | none => rw [hgr] at he; cases he
        | some o =>
          rw [hgr] at he
          cases o <;> first | (cases he; done) | skip
          rename_i es c
          obtain ⟨es', g1, g2⟩ := hr.obj r L _ ha hgr
          simp only [updO] at he
          cases hf : findK p k es 0 with
          | none => rw [hf] at he; cases he
          | some q =>
            rw [hf] at he
            obtain ⟨q', g3, g4⟩ := findK_run hkd hk g2 hf
            have g5 := findKey_run (w := w) hku g3
            have g6 := checkKey_run (P := P) (w := w) hku hkd false 9999 k'
            cases q with
            | none =>
              cases q' with
              | some _ => exact g4.elim
              | none =>
                cases he
                refine ⟨_, ?_, step_obj (o' := .map (es ++ [(k, v, c)]) (c + 1)) (obj := .map (es'.push { key := k', val := v', born := c }) (c + 1)) hr ho ha hgr (by simp) rfl rfl rfl (w' := { w with heap := w.heap.setIfInBounds L.b (.map (es'.push { key := k', val := v', born := c }) (c + 1)) }) rfl rfl rfl ⟨_, setAt g1, ?_⟩⟩
                · unfold Instr.mapUpdate
                  simp only [Sem.run_bind, run_und hu, Result.andThen_ok, getObj_run g1 (by simp), g6, g5, setObj_run g1 (by simp)]
                · rw [Array.toList_push]; exact g2.append (.cons hk hv rfl .nil)
            | some q =>
              cases q' with
              | none => exact g4.elim
              | some q' =>
                obtain ⟨i, u⟩ := q; obtain ⟨i', u'⟩ := q'
                obtain ⟨rfl, _, _, hil⟩ := g4
                cases he
                obtain ⟨e, f1, f2, _⟩ := findK_at hf
                simp only [Nat.sub_zero] at f1
                obtain ⟨e', f3, f4, f5, f6⟩ := g2.get f1
                have f3' : es'[i]? = some e' := by rw [← Array.getElem?_toList]; exact f3
                have hkts : (Instr.keyThatStays (((es'[i]?).map (·.key)).getD k') k').run P w = .ok k' w := by
                  rw [f3']
                  have := key_same f2 hk f4 10000
                  simp [Instr.keyThatStays, this]
                refine ⟨_, ?_, step_obj (o' := .map (modAt (fun e => (k, v, e.2.2)) es i) c) (obj := .map (es'.modify i fun e => { e with key := k', val := v' }) c) hr ho ha hgr (by simp) rfl rfl rfl (w' := { w with heap := w.heap.setIfInBounds L.b (.map (es'.modify i fun e => { e with key := k', val := v' }) c) }) rfl rfl rfl ⟨_, setAt g1, ?_⟩⟩
                · unfold Instr.mapUpdate
                  simp only [Sem.run_bind, run_und hu, Result.andThen_ok, getObj_run g1 (by simp), g6, g5, hkts, setObj_run g1 (by simp)]
                · rw [Array.toList_modify]
                  exact g2.modAt (fun k1 v1 b1 e1 a1 a2 a3 => ⟨hk, hv, a3⟩) i
theorem delE_run (hX : EnvOk P X) (hr : Rel X α s.heap.get w) (ho : Ok s) {ts : Array TypeId} {as : Array Value} {t rt : Nat} {m k : AVal} {m' k' : Value} (hm : VRel α m m') (hk : VRel α k k') (ht0 : ts[0]? = some t) (ha0 : as[0]? = some m') (ha1 : as[1]? = some k') (he : delE X s t m k = some s') :
    ∃ w', (Builtin.delete_ ts rt as).run P w = .ok (.tuple #[]) w' ∧ Step X α α s s' w w' := by
  unfold delE at he
  cases ht : X.ty.get t with
  | none => rw [ht] at he; cases he
  | some ti =>
    obtain ⟨⟨d, hu, hok, hg⟩, hs0, hz0, hc0, hzl, hsm⟩ := hX.ty t ti ht
    obtain ⟨td, sz, zv0, ag⟩ := ti
    simp only [ht] at he
    cases td <;> first | (cases he; done) | skip
    rename_i p zv
    cases p with
    | none => cases m <;> cases he
    | some p =>
      cases d <;> first | exact hok.elim | skip
      obtain ⟨hp, _⟩ := hok
      obtain ⟨kd, hku, hkd⟩ := hp p rfl
      cases m <;> first | (cases he; done) | skip
      · cases hm; cases he
        have g6 := checkKey_run (P := P) (w := w) hku hkd true 9999 k'
        exact ⟨w, by unfold Builtin.delete_; simp only [ht0, ha0, ha1, Sem.run_bind, run_und hu, Result.andThen_ok, g6, Sem.run_pure], Step.refl hr ho⟩
      · rename_i r
        cases hm with
        | @map _ L ha =>
          simp only [delD] at he
          cases hgr : s.heap.get r with
          | none => rw [hgr] at he; cases he
          | some o =>
            rw [hgr] at he
            cases o <;> first | (cases he; done) | skip
            rename_i es c
            obtain ⟨es', g1, g2⟩ := hr.obj r L _ ha hgr
            simp only [delO] at he
            cases hf : findK p k es 0 with
            | none => rw [hf] at he; cases he
            | some q =>
              rw [hf] at he
              obtain ⟨q', g3, g4⟩ := findK_run hkd hk g2 hf
              have g5 := findKey_run (w := w) hku g3
              have g6 := checkKey_run (P := P) (w := w) hku hkd es'.isEmpty 9999 k'
              cases q with
              | none =>
                cases q' with
                | some _ => exact g4.elim
                | none =>
                  cases he
                  refine ⟨_, ?_, step_obj (o' := .map es c) (obj := .map es' c) hr ho ha hgr (by simp) rfl rfl rfl (w' := { w with heap := w.heap.setIfInBounds L.b (.map es' c) }) rfl rfl rfl ⟨_, setAt g1, g2⟩⟩
                  unfold Builtin.delete_
                  simp only [ht0, ha0, ha1, Sem.run_bind, run_und hu, Result.andThen_ok, getObj_run g1 (by simp), g6, g5, setObj_run g1 (by simp), Sem.run_pure]
              | some q =>
                cases q' with
                | none => exact g4.elim
                | some q' =>
                  obtain ⟨i, u⟩ := q; obtain ⟨i', u'⟩ := q'
                  obtain ⟨rfl, _, _, hil⟩ := g4
                  cases he
                  refine ⟨_, ?_, step_obj (o' := .map (eraseAt es i) c) (obj := .map (es'.eraseIdxIfInBounds i) c) hr ho ha hgr (by simp) rfl rfl rfl (w' := { w with heap := w.heap.setIfInBounds L.b (.map (es'.eraseIdxIfInBounds i) c) }) rfl rfl rfl ⟨_, setAt g1, ?_⟩⟩
                  · unfold Builtin.delete_
                    simp only [ht0, ha0, ha1, Sem.run_bind, run_und hu, Result.andThen_ok, getObj_run g1 (by simp), g6, g5, setObj_run g1 (by simp), Sem.run_pure]
                  · have : (es'.eraseIdxIfInBounds i).toList = es'.toList.eraseIdx i := by simp
                    rw [this]; exact g2.eraseAt i
end
end Go.Ev
namespace Go.Ev
open Go Go.Lib
section
variable {P : Program} {X : Env} {α : Al} {s s' : St} {w : World} {ev : Operand → AVal} {ρ : Operand → Value}
theorem clearE_run (hX : EnvOk P X) (hr : Rel X α s.heap.get w) (ho : Ok s) {ts : Array TypeId} {as : Array Value} {t rt : Nat} {x : AVal} {x' : Value} (hx : VRel α x x') (ht0 : ts[0]? = some t) (ha0 : as[0]? = some x') (he : clearE X s t x = some s') :
    ∃ w', (Builtin.clear_ ts rt as).run P w = .ok (.tuple #[]) w' ∧ Step X α α s s' w w' := by
  unfold clearE at he
  cases ht : X.ty.get t with
  | none => rw [ht] at he; cases x <;> cases he
  | some ti =>
    obtain ⟨⟨d, hu, hok, hg⟩, hs0, hz0, hc0, hzl, hsm⟩ := hX.ty t ti ht
    rw [ht] at he
    cases x <;> first | (cases he; done) | skip
    · cases hx; cases he
      exact ⟨w, by unfold Builtin.clear_; simp only [ht0, ha0, Sem.run_bind, run_und hu, Result.andThen_ok, Sem.run_pure], Step.refl hr ho⟩
    · rename_i r
      cases hx with
      | @map _ L ha =>
        have he' : clO s r (s.heap.get r) = some s' := he
        cases hgr : s.heap.get r with
        | none => rw [hgr] at he'; cases he'
        | some o =>
          rw [hgr] at he'
          cases o <;> first | (cases he'; done) | skip
          rename_i es c
          obtain ⟨es', g1, g2⟩ := hr.obj r L _ ha hgr
          cases he'
          refine ⟨_, ?_, step_obj (o' := .map [] c) (obj := .map #[] c) hr ho ha hgr (by simp) rfl rfl rfl (w' := { w with heap := w.heap.setIfInBounds L.b (.map #[] c) }) rfl rfl rfl ⟨_, setAt g1, .nil⟩⟩
          unfold Builtin.clear_
          simp only [ht0, ha0, Sem.run_bind, run_und hu, Result.andThen_ok]
          cases d <;> simp only [Sem.run_bind, getObj_run g1 (by simp : ∀ x y z, Obj.map es' c ≠ Obj.cells x y z), Result.andThen_ok, setObj_run g1 (by simp : ∀ x y z, Obj.map es' c ≠ Obj.cells x y z), Sem.run_pure]
theorem copyE_run (hX : EnvOk P X) (hr : Rel X α s.heap.get w) (ho : Ok s) {ts : Array TypeId} {as : Array Value} {t rt : Nat} {x y v : AVal} {x' y' : Value} (hx : VRel α x x') (hy : VRel α y y') (ht0 : ts[0]? = some t) (ha0 : as[0]? = some x') (ha1 : as[1]? = some y') (he : copyE X s t x y = some (v, s')) :
    Writes P X α s s' w (Builtin.copy_ ts rt as) v := by
  unfold copyE at he
  cases ht : X.ty.get t with
  | none => rw [ht] at he; cases he
  | some ti =>
    obtain ⟨⟨d, hu, hok, hg⟩, hs0, hz0, hc0, hzl, hsm⟩ := hX.ty t ti ht
    obtain ⟨td, sz, zv0, ag⟩ := ti
    simp only [ht] at he
    cases td <;> first | (cases he; done) | skip
    rename_i e esz bb
    cases d <;> first | exact hok.elim | skip
    obtain ⟨rfl, hsz, _⟩ := hok
    simp only at he
    cases x <;> first | (cases he; done) | skip
    · cases hx
      cases y <;> first | (cases he; done) | skip
      · cases hy; cases he
        refine ⟨goInt 0, w, α, ?_, Step.refl hr ho, .int _ _⟩
        unfold Builtin.copy_
        simp only [ht0, ha0, ha1, Sem.run_bind, run_und hu, Result.andThen_ok, Builtin.lenOf, Sem.run_pure, run_size hsz, Builtin.firstCells]
        rfl
      · cases hy; cases he
        refine ⟨goInt 0, w, α, ?_, Step.refl hr ho, .int _ _⟩
        unfold Builtin.copy_
        simp [ht0, ha0, ha1, run_und hu, Builtin.lenOf, run_size hsz, Builtin.firstCells, loadCells, loadCellsFrom]
    · rename_i r off m cap ex
      cases hx with
      | @sl _ _ _ _ cap' _ L a ha hxx hc hnn haa hrr =>
        cases y <;> first | (cases he; done) | skip
        · cases hy; cases he
          refine ⟨goInt 0, w, α, ?_, Step.refl hr ho, .int _ _⟩
          unfold Builtin.copy_
          simp [ht0, ha0, ha1, run_und hu, Builtin.lenOf, run_size hsz, Builtin.firstCells, storeCells]
        · rename_i q o2 n cap2 ex2
          cases hy with
          | @sl _ _ _ _ cap2' _ L2 a2 hb hxx2 hc2 hnn2 haa2 hrr2 =>
            have he' : cpV s r off (min n m) (loadN s.heap q o2 (min n m * esz)) = some (v, s') := he
            cases hl : loadN s.heap q o2 (min n m * esz) with
            | none => rw [hl] at he'; cases he'
            | some l =>
              rw [hl] at he'
              simp only [cpV, brec] at he'
              obtain ⟨l', u1, u2⟩ := loadN_all (P := P) hr hb hl
              obtain ⟨cs, q1, q2⟩ := loadN_len hl
              have hll : l.length = min n m * esz := by
                obtain ⟨a1, a2⟩ := cut_spec q2; rw [a2]; simp; omega
              cases hk : Nat.beq (min n m) 0
              · rw [hk] at he'
                have hk0 := ne_of_beq hk
                simp only [cond_false] at he'
                cases hst : storeN s r off l with
                | none => rw [hst] at he'; cases he'
                | some s1 =>
                  rw [hst] at he'; cases he'
                  obtain ⟨w', k1, k2, k3⟩ := storeN_run (P := P) hr ho ha u2 hst
                  refine ⟨goInt ((min n m : Nat) : Int), w', α, ?_, k2, .int _ _⟩
                  unfold Builtin.copy_
                  have hm : Nat.min n m = min n m := rfl
                  rw [haa2 (by omega)] at ha1
                  rw [haa (by omega)] at ha0
                  simp only [ht0, ha0, ha1, Sem.run_bind, run_und hu, Result.andThen_ok, Builtin.lenOf, Sem.run_pure, run_size hsz, Builtin.firstCells, hm, u1 w rfl, k1]
              · rw [hk] at he'
                have hk0 := Nat.eq_of_beq_eq_true hk
                cases he'
                refine ⟨goInt 0, w, α, ?_, Step.refl hr ho, .int _ _⟩
                unfold Builtin.copy_
                have hm : Nat.min n m = 0 := hk0
                simp [ht0, ha0, ha1, run_und hu, Builtin.lenOf, run_size hsz, Builtin.firstCells, hm, loadCells, loadCellsFrom, storeCells]
theorem storeA_run (hX : EnvOk P X) (hr : Rel X α s.heap.get w) (ho : Ok s) {t : Nat} {x v : AVal} {x' v' : Value} (hx : VRel α x x') (hv : VRel α v v') (he : storeA x X s t v = some s') : WritesU P X α s s' w (Instr.storeAt t x' v') := by
  cases x <;> first | (cases he; done) | skip
  rename_i r off
  cases hx with
  | @ptr _ _ L ha =>
    have he' : storeVar X s t r off v = some s' := he
    unfold storeVar at he'
    cases ht : X.ty.get t with
    | none => rw [ht] at he'; cases he'
    | some ti =>
      have hsz := (hX.ty t ti ht).size
      simp only [ht, brec] at he'
      cases hb : Nat.beq (len v.cells) ti.size
      · rw [hb] at he'; cases he'
      · rw [hb] at he'
        have hlen := Nat.eq_of_beq_eq_true hb
        simp only [cond_true] at he'
        have hbad : v ≠ .bad := by
          rintro rfl
          unfold storeN at he'
          cases hg : s.heap.get r with
          | none => rw [hg] at he'; cases he'
          | some o =>
            rw [hg] at he'
            cases o <;> first | (cases he'; done) | skip
            rename_i cs e lo sp fz anc
            cases sp <;> cases he'
        have hvc := hv.cells hbad
        obtain ⟨w', k1, k2, k3⟩ := storeN_run (P := P) hr ho ha hvc he'
        refine ⟨w', ?_, k2⟩
        have hsize : v'.cells.size = ti.size := by rw [← hlen, len_eq, hvc.length]; simp
        simp [Instr.storeAt, Instr.sureAddr, Go.storeVar, run_size hsz, hsize, k1]
theorem newObj_run (o : Obj) : (newObj o).run P w = .ok w.heap.size (pushW w o) := rfl
theorem rangeE_run (hX : EnvOk P X) (hr : Rel X α s.heap.get w) (ho : Ok s) (hf : Fresh α s.next s'.next) {t : Nat} {x v : AVal} {x' : Value} (hx : VRel α x x') (he : rangeE X s t x = some (v, s')) : Writes P X α s s' w (Instr.range t x') v := by
  unfold rangeE at he
  cases ht : X.ty.get t with
  | none => rw [ht] at he; cases he
  | some ti =>
    obtain ⟨⟨d, hu, hok, hg⟩, hs0, hz0, hc0, hzl, hsm⟩ := hX.ty t ti ht
    obtain ⟨td, sz, zv0, ag⟩ := ti
    simp only [ht] at he
    cases td <;> first | (cases x <;> cases he; done) | skip
    · cases x <;> first | (cases he; done) | skip
      cases d <;> first | exact hok.elim | skip
      cases hx with
      | @str l st hst =>
        cases he
        refine ⟨.pointer (some ⟨w.heap.size, 0, none⟩), pushW w (.stringIter st 0), _, ?_, Step.new (L := ⟨w.heap.size, 0, 0, 0⟩) (obj := .stringIter st 0) hr ho hf rfl rfl rfl rfl ⟨st, pushW_new w _, rfl, hst⟩ (fun q hq => by cases hq), .ptr (L := ⟨w.heap.size, 0, 0, 0⟩) (updA_same _ _ _)⟩
        simp [Instr.range, run_und hu]; rfl
    · cases d <;> first | exact hok.elim | skip
      cases x <;> first | (cases he; done) | skip
      · cases hx; cases he
        refine ⟨.pointer (some ⟨w.heap.size, 0, none⟩), pushW w (.mapIter none 0 #[] 0), _, ?_, Step.new (L := ⟨w.heap.size, 0, 0, 0⟩) (obj := .mapIter none 0 #[] 0) hr ho hf rfl rfl rfl rfl ⟨none, #[], pushW_new w _, rfl, rfl, rfl⟩ (fun q hq => by cases hq), .ptr (L := ⟨w.heap.size, 0, 0, 0⟩) (updA_same _ _ _)⟩
        simp [Instr.range, run_und hu]; rfl
      · rename_i m
        cases hx with
        | @map _ M hM =>
          have he' : rgO s m (s.heap.get m) = some (v, s') := he
          cases hgm : s.heap.get m with
          | none => rw [hgm] at he'; cases he'
          | some o =>
            rw [hgm] at he'
            cases o <;> first | (cases he'; done) | skip
            rename_i es c
            obtain ⟨es', g1, g2⟩ := hr.obj m M _ hM hgm
            cases he'
            have hfr := hf s.next (Nat.le_refl _) (Nat.lt_succ_self _)
            refine ⟨.pointer (some ⟨w.heap.size, 0, none⟩), pushW w (.mapIter (some M.b) c #[] c), _, ?_, Step.new (L := ⟨w.heap.size, 0, 0, 0⟩) (obj := .mapIter (some M.b) c #[] c) hr ho hf rfl rfl rfl rfl ⟨some M.b, #[], pushW_new w _, rfl, rfl, M, AlLe.upd _ hfr _ _ hM, rfl⟩ (fun q hq => by cases hq), .ptr (L := ⟨w.heap.size, 0, 0, 0⟩) (updA_same _ _ _)⟩
            simp [Instr.range, run_und hu, getObj_run g1]; rfl
theorem hasN_eq (l : List Nat) (n : Nat) : hasN l n = l.contains n := by
  induction l with
  | nil => rfl
  | cons a l ih =>
    have : hasN (a :: l) n = @Bool.rec (fun _ => Bool) (hasN l n) true (Nat.beq a n) := rfl
    rw [this, brec, List.contains_cons, ih]
    cases hb : Nat.beq a n
    · have : (n == a) = false := by simpa using Ne.symm (ne_of_beq hb)
      rw [this]; rfl
    · obtain rfl := Nat.eq_of_beq_eq_true hb
      simp
theorem ERels.left {l : List (AVal × AVal × Nat)} {m : List MapEntry} {seen : List Nat} {f : Nat → Bool} (hf : ∀ n, hasN seen n = f n) (h : ERels α l m) : ERels α (leftE seen l) (m.filter fun e => !f e.born) := by
  induction h with
  | nil => exact .nil
  | @cons k v b e l1 m1 hk hv hb t ih =>
    simp only [leftE, brec, hf]
    rw [List.filter_cons]
    subst hb
    cases f e.born
    · exact .cons hk hv rfl ih
    · exact ih
theorem ERels.allGe {l : List (AVal × AVal × Nat)} {m : List MapEntry} {last : Nat} (h : ERels α l m) : allGe last l = m.all (fun e => decide (e.born ≥ last)) := by
  induction h with
  | nil => rfl
  | @cons k v b e l1 m1 hk hv hb t ih =>
    simp only [Ev.allGe, brec, List.all_cons, ih]
    subst hb
    cases hc : Nat.ble last e.born
    · have : ¬ e.born ≥ last := fun h => by rw [Nat.ble_eq_true_of_le h] at hc; cases hc
      simp [this]
    · have := Nat.le_of_ble_eq_true hc
      simp [this]
theorem stale_eq {l : List (AVal × AVal × Nat)} {es : Array MapEntry} {last : Nat} {seen : List Nat} {sn : Array Nat} (h : ERels α l es.toList) (hs : sn.toList.reverse = seen) :
    (!sn.isEmpty && !es.isEmpty && es.all fun e => decide (e.born ≥ last)) = nxStale last seen l := by
  have h1 : sn.isEmpty = seen.isEmpty := by
    subst hs; rw [← Array.isEmpty_toList]; simp
  have h2 : es.isEmpty = l.isEmpty := by
    rw [← Array.isEmpty_toList]
    have := h.length
    cases l <;> cases hq : es.toList <;> simp_all
  have h3 : (es.all fun e => decide (e.born ≥ last)) = allGe last l := by
    rw [h.allGe, Array.all_toList]
  rw [h1, h2, h3]
  cases seen <;> cases l <;> simp [nxStale]
theorem nextE_run (hr : Rel X α s.heap.get w) (ho : Ok s) {it v : AVal} {it' : Value} {b : Bool} (rt : Nat) (hx : VRel α it it') (he : nextE s it b = some (v, s')) : Writes P X α s s' w (Instr.next it' b rt) v := by
  cases it <;> first | (cases he; done) | skip
  rename_i r off
  cases off with
  | succ n => cases he
  | zero =>
    have he' : nxO s r (s.heap.get r) b = some (v, s') := he
    cases hx with
    | @ptr _ _ L ha =>
      cases hgr : s.heap.get r with
      | none => rw [hgr] at he'; cases b <;> cases he'
      | some o =>
        rw [hgr] at he'
        cases o <;> first | (cases b <;> cases he'; done) | skip
        · rename_i m since seen last
          cases b
          · obtain ⟨m', sn, g1, g2, g3, g4⟩ := hr.obj r L _ ha hgr
            cases m with
            | none =>
              cases he'
              simp only [OptLoc] at g4
              subst g4
              refine ⟨.tuple #[.bool false], w, α, ?_, Step.refl hr ho, .tup (.cons (.bool _) .nil)⟩
              rw [g2]
              simp [Instr.next, getObj_run g1]
            | some m =>
              obtain ⟨M, hM, rfl⟩ := g4
              simp only [nxO] at he'
              cases hgm : s.heap.get m with
              | none => rw [hgm] at he'; cases he'
              | some om =>
                rw [hgm] at he'
                cases om <;> first | (cases he'; done) | skip
                rename_i es c
                obtain ⟨es', k1, k2⟩ := hr.obj m M _ hM hgm
                simp only [nxM, brec] at he'
                cases hst : nxStale last seen es
                · rw [hst] at he'
                  simp only [cond_false] at he'
                  have hstale := stale_eq (last := last) k2 g3
                  rw [hst] at hstale
                  have hhas : ∀ n, hasN seen n = sn.contains n := by
                    intro n; rw [hasN_eq, ← g3]; simp
                  have hleft := k2.left hhas
                  have hl2 : (es'.filter fun e => !sn.contains e.born).toList = es'.toList.filter fun e => !sn.contains e.born := Array.toList_filter ..
                  rw [← hl2] at hleft
                  cases hlf : leftE seen es with
                  | nil =>
                    rw [hlf] at he' hleft
                    cases he'
                    have hnil : (es'.filter fun e => !sn.contains e.born) = #[] := by
                      apply Array.toList_inj.1
                      generalize (es'.filter fun e => !sn.contains e.born).toList = q at hleft
                      cases hleft; rfl
                    refine ⟨.tuple #[.bool false], w, α, ?_, Step.refl hr ho, .tup (.cons (.bool _) .nil)⟩
                    rw [g2]
                    unfold Instr.next
                    simp only [Sem.run_bind, getObj_run g1 (by simp), getObj_run k1 (by simp), Result.andThen_ok, hstale, hnil, Bool.false_eq_true, if_false]
                    simp [choose, Sem.run, Question.forced]
                  | cons e rest =>
                    cases rest with
                    | cons e2 rest => rw [hlf] at he'; cases he'
                    | nil =>
                      rw [hlf] at he' hleft
                      simp only [nxL, brec] at he'
                      cases hb : Nat.ble (e.2.2 + 1) since
                      · rw [hb] at he'; cases he'
                      · rw [hb] at he'
                        cases he'
                        have hlt := Nat.le_of_ble_eq_true hb
                        obtain ⟨e', hone, f1, f2, f3⟩ : ∃ e', (es'.filter fun e => !sn.contains e.born) = #[e'] ∧ VRel α e.1 e'.key ∧ VRel α e.2.1 e'.val ∧ e'.born = e.2.2 := by
                          generalize hq : (es'.filter fun e => !sn.contains e.born) = q at hleft
                          obtain ⟨q⟩ := q
                          obtain ⟨k, v, b⟩ := e
                          cases hleft with
                          | @cons _ _ _ e' _ _ hk hv hb t => cases t; exact ⟨e', rfl, hk, hv, hb⟩
                        have hlt' : e'.born < since := by omega
                        refine ⟨.tuple #[.bool true, e'.key, e'.val], _, α, ?_, step_obj (o' := .miter (some m) since (e.2.2 :: seen) c) (obj := .mapIter (some M.b) since (sn.push e'.born) c) hr ho ha hgr (by simp) rfl rfl rfl (w' := { w with heap := w.heap.setIfInBounds L.b (.mapIter (some M.b) since (sn.push e'.born) c) }) rfl rfl rfl ⟨some M.b, sn.push e'.born, setAt g1, g2, ?_, M, hM, rfl⟩, .tup (.cons (.bool _) (.cons f1 (.cons f2 .nil)))⟩
                        · rw [g2]
                          unfold Instr.next
                          simp only [Sem.run_bind, getObj_run g1 (by simp), getObj_run k1 (by simp), Result.andThen_ok, hstale, hone, Bool.false_eq_true, if_false]
                          have c1 : (#[e'].filter fun x => decide (x.born < since)) = #[e'] := by simp [hlt']
                          have c2 : (#[e'].filter fun x => decide (x.born ≥ since)) = #[] := by simp; omega
                          rw [c1, c2]
                          have hch : (choose (.mapNext 1)).run P w = .ok 0 w := rfl
                          have hcs : ((if (#[e'] : Array MapEntry).isEmpty = true then #[none] else #[]) ++ (#[e'] ++ #[]).map some : Array (Option MapEntry)) = #[some e'] := by simp
                          rw [hcs]
                          simp only [show (#[some e'] : Array (Option MapEntry)).size = 1 from rfl, hch, Result.andThen_ok]
                          simp [setObj_run g1]
                        · rw [Array.toList_push, List.reverse_append, g3, f3]; rfl
                · rw [hst] at he'; cases he'
          · cases m <;> cases he'
        · rename_i a pos
          cases b
          · cases he'
          · obtain ⟨st, g1, g2, g3⟩ := hr.obj r L _ ha hgr
            have hsize := toList_rel g3
            simp only [nxO] at he'
            cases hn : nth a pos with
            | none =>
              rw [hn] at he'
              simp only [nxS, brec] at he'
              cases hb : Nat.ble (len a) pos
              · rw [hb] at he'; cases he'
              · rw [hb] at he'; cases he'
                have := Nat.le_of_ble_eq_true hb
                rw [len_eq, ← hsize] at this
                refine ⟨.tuple #[.bool false], w, α, ?_, Step.refl hr ho, .tup (.cons (.bool _) .nil)⟩
                rw [g2]
                unfold Instr.next
                simp only [Sem.run_bind, getObj_run g1 (by simp), Result.andThen_ok, if_neg (Nat.not_lt.2 this)]
                rfl
            | some c =>
              rw [hn] at he'
              simp only [nxS, brec] at he'
              cases hb : Nat.ble c 127
              · rw [hb] at he'; cases he'
              · rw [hb] at he'; cases he'
                have hc := Nat.le_of_ble_eq_true hb
                rw [nth_eq, ← g3, List.getElem?_map] at hn
                cases hq : st.data.toList[pos]? with
                | none => rw [hq] at hn; cases hn
                | some u =>
                  rw [hq] at hn; cases hn
                  have hpos : pos < st.size := by
                    have := (List.getElem?_eq_some_iff.1 hq).1
                    simpa using this
                  have hget : st.get! pos = u := by
                    obtain ⟨h1, h2⟩ := List.getElem?_eq_some_iff.1 hq
                    have : st.get! pos = st.data[pos]! := rfl
                    rw [this, getElem!_pos st.data pos (by simpa using h1)]; simpa using h2
                  have hdec : Utf8.decode st pos = (u.toNat, 1) := by
                    unfold Utf8.decode
                    simp only [Nat.add_zero, hget]
                    have hc2 : u.toNat ≤ 127 := hc
                    rw [if_pos (by omega)]
                  refine ⟨.tuple #[.bool true, goInt pos, .int .i32 u.toNat], _, α, ?_, step_obj (o' := .siter a (pos + 1)) (obj := .stringIter st (pos + 1)) hr ho ha hgr (by simp) rfl rfl rfl (w' := { w with heap := w.heap.setIfInBounds L.b (.stringIter st (pos + 1)) }) rfl rfl rfl ⟨st, setAt g1, g2, g3⟩, .tup (.cons (.bool _) (.cons (.int _ _) (.cons (.int _ _) .nil)))⟩
                  rw [g2]
                  unfold Instr.next
                  simp only [Sem.run_bind, getObj_run g1 (by simp), Result.andThen_ok, if_pos hpos, hdec, setObj_run g1 (by simp)]
                  rfl
end
end Go.Ev
namespace Go.Ev
open Go Go.Lib
/-- what an operation hands on, if it hands on a value -/
inductive NextV : Next → Value → Prop
  | value (v : Value) : NextV (.value v) v
  | skip : NextV .skip undef
def Did (P : Program) (X : Env) (α : Al) (s s' : St) (w : World) (f : Sem Next) (v : AVal) : Prop :=
  ∃ nx v' w' β, f.run P w = .ok nx w' ∧ NextV nx v' ∧ Step X α β s s' w w' ∧ VRel β v v'
section
variable {P : Program} {X : Env} {α : Al} {s s' : St} {w : World} {ev : Operand → AVal} {ρ : Operand → Value}
theorem Writes.did {f : Sem Value} {v : AVal} (h : Writes P X α s s' w f v) : Did P X α s s' w (do pure (.value (← f))) v := by
  obtain ⟨v', w', β, h1, h2, h3⟩ := h
  exact ⟨.value v', v', w', β, by simp only [Sem.run_bind, h1, Result.andThen_ok, Sem.run_pure], .value v', h2, h3⟩
theorem WritesU.did {f : Sem Unit} (h : WritesU P X α s s' w f) : Did P X α s s' w (do f; pure .skip) undefA := by
  obtain ⟨w', h1, h2⟩ := h
  exact ⟨.skip, undef, w', α, by simp only [Sem.run_bind, h1, Result.andThen_ok, Sem.run_pure], .skip, h2, .undef α⟩
theorem andS_some {v v' : AVal} {o : Option St} (h : andS v o = some (v', s')) : o = some s' ∧ v' = v := by
  cases o with
  | none => cases h
  | some s => cases h; exact ⟨rfl, rfl⟩
theorem callBw_run (hX : EnvOk P X) (hr : Rel X α s.heap.get w) (ho : Ok s) (hf : Fresh α s.next s'.next) (hev : ∀ x, VRel α (ev x) (ρ x)) {c : Call} {rt : Nat} {v : AVal} (he : callBw c.callee c.argTypes.toList (c.args.toList.map ev) X s = some (v, s')) :
    Did P X α s s' w (do let d ← resolve ρ c rt; invoke d.target d.args) v := by
  obtain ⟨callee, args, tys⟩ := c
  cases callee with
  | invoke => cases he
  | value => cases he
  | builtin b =>
    have he' : bwE b tys.toList (args.toList.map ev) X s = some (v, s') := he
    have hrel := ops_rel hev args
    have fin : ∀ {f : Sem Value}, (∀ cs, builtin b tys rt cs (args.map ρ) = (do pure (.value (← f)))) → Writes P X α s s' w f v →
        Did P X α s s' w (do let d ← resolve ρ ⟨.builtin b, args, tys⟩ rt; invoke d.target d.args) v := by
      intro f hs h
      have : (do let d ← resolve ρ ⟨.builtin b, args, tys⟩ rt; invoke d.target d.args : Sem Next) = (do pure (.value (← f))) := by
        simp only [resolve, pure_bind, invoke, hs]
      rw [this]; exact h.did
    have arg : ∀ {i : Nat} {x : AVal}, (args.toList.map ev)[i]? = some x → ∃ x', (args.map ρ)[i]? = some x' ∧ VRel α x x' := by
      intro i x hx
      obtain ⟨v', h1, h2⟩ := hrel.get hx
      exact ⟨v', by rw [← Array.getElem?_toList]; exact h1, h2⟩
    have tyi : ∀ {i t : Nat}, tys.toList[i]? = some t → tys[i]? = some t := by
      intro i t h; rw [← Array.getElem?_toList, h]
    cases b <;> first | (cases he'; done) | skip
    · generalize ht : tys.toList = ts at he'; generalize ha : args.toList.map ev = as at he'
      match ts, as, he' with
      | t :: u :: _, [x, y], he' =>
        obtain ⟨x', h1, h2⟩ := arg (i := 0) (x := x) (by rw [ha]; rfl)
        obtain ⟨y', h3, h4⟩ := arg (i := 1) (x := y) (by rw [ha]; rfl)
        exact fin (fun cs => rfl) (appE_run hX hr ho hf h2 h4 (tyi (i := 0) (by rw [ht]; rfl)) (tyi (i := 1) (by rw [ht]; rfl)) h1 h3 he')
    · generalize ht : tys.toList = ts at he'; generalize ha : args.toList.map ev = as at he'
      match ts, as, he' with
      | t :: _, [x], he' =>
        obtain ⟨x', h1, h2⟩ := arg (i := 0) (x := x) (by rw [ha]; rfl)
        obtain ⟨he2, rfl⟩ := andS_some he'
        obtain ⟨w', g1, g2⟩ := clearE_run (rt := rt) hX hr ho h2 (tyi (i := 0) (by rw [ht]; rfl)) h1 he2
        exact fin (fun cs => rfl) ⟨_, w', α, g1, g2, .undef α⟩
    · generalize ht : tys.toList = ts at he'; generalize ha : args.toList.map ev = as at he'
      match ts, as, he' with
      | t :: _, [x, y], he' =>
        obtain ⟨x', h1, h2⟩ := arg (i := 0) (x := x) (by rw [ha]; rfl)
        obtain ⟨y', h3, h4⟩ := arg (i := 1) (x := y) (by rw [ha]; rfl)
        exact fin (fun cs => rfl) (copyE_run hX hr ho h2 h4 (tyi (i := 0) (by rw [ht]; rfl)) h1 h3 he')
    · generalize ht : tys.toList = ts at he'; generalize ha : args.toList.map ev = as at he'
      match ts, as, he' with
      | t :: _, [x, y], he' =>
        obtain ⟨x', h1, h2⟩ := arg (i := 0) (x := x) (by rw [ha]; rfl)
        obtain ⟨y', h3, h4⟩ := arg (i := 1) (x := y) (by rw [ha]; rfl)
        obtain ⟨he2, rfl⟩ := andS_some he'
        obtain ⟨w', g1, g2⟩ := delE_run (rt := rt) hX hr ho h2 h4 (tyi (i := 0) (by rw [ht]; rfl)) h1 h3 he2
        exact fin (fun cs => rfl) ⟨_, w', α, g1, g2, .undef α⟩
/-- what writes, but for calls -/
theorem wr_run (hX : EnvOk P X) (hr : Rel X α s.heap.get w) (ho : Ok s) (hf : Fresh α s.next s'.next) (hev : ∀ x, VRel α (ev x) (ρ x)) {o : Oper} {v : AVal} (he : wrE o.op X ev s = some (v, s')) : Did P X α s s' w (execOp ρ o) v := by
  obtain ⟨dst, op, ty, pos, guard, after⟩ := o
  cases op <;> first | (cases he; done) | skip
  case store t a x =>
    obtain ⟨he2, rfl⟩ := andS_some he
    exact (storeA_run hX hr ho (hev a) (hev x) he2).did
  case mapUpdate t m k x =>
    obtain ⟨he2, rfl⟩ := andS_some he
    exact (updE_run hX hr ho (hev m) (hev k) (hev x) he2).did
  case insert t m k x =>
    obtain ⟨he2, rfl⟩ := andS_some he
    exact (updE_run hX hr ho (hev m) (hev k) (hev x) he2).did
  case range t x => exact (rangeE_run hX hr ho hf (hev x) he).did
  case next it b => exact (nextE_run hr ho ty (hev it) he).did
  case call c => exact callBw_run hX hr ho hf hev he
end
end Go.Ev
