/-
  Whole code and whole calls do what the evaluator says.
-/
import Derived.Test.YtjkcgaemdjjhgaaGreatDoorEvE
import Derived.Scope
namespace Go.Ev
open Go Go.Lib
section
variable {P : Program} {X : Env} {r : Rec} {ops : Array Oper} {p : Nat → TrSt} {a : Ev.Act} {s : St} {α0 : Al} {w0 : World}
/-- what has no place yet -/
def Waits (X : Env) (ops : Array Oper) (p : Nat → TrSt) (listed : Array Bool) (α : Al) (s1 : St) : Prop := ∀ i o, ops[i]? = some o → kdOf o = .al → ¬ E listed i → α (p i).nm = none ∧
  ∃ e ti, o.op = .alloc e ∧ X.ty.get e = some ti ∧ (s1.heap.get (p i).nm = some (.cells ti.zv.cells e false false false []) ∨ s1.heap.get (p i).nm = some .dead)
/-- the temporaries, where some operations have been carried out -/
def Tms (ops : Array Oper) (fin ini : Tr AVal) (listed : Array Bool) (α : Al) (T : Array Value) : Prop := ∀ t,
  ((∃ i o, E listed i ∧ ops[i]? = some o ∧ o.dst = some t) → VRel α (orUndef (fin.get t)) (T.getD t undef)) ∧
  ((∀ i o, E listed i → ops[i]? = some o → o.dst ≠ some t) → VRel α (orUndef (ini.get t)) (T.getD t undef))
structure Inv (X : Env) (ops : Array Oper) (p : Nat → TrSt) (a : Ev.Act) (s : St) (α0 : Al) (w0 : World) (listed : Array Bool) (act : Go.Act) (w : World) (α : Al) (i0 : Nat) : Prop where
  sz : listed.size = ops.size
  cl : ∀ j m, E listed j → (masks ops.toList [])[j]? = some m → ∀ b, Nat.testBit m b = true → E listed b
  le : i0 ≤ ops.size
  k : (p i0).k = cnt (fun o _ j => isW o && listed.getD j false) (zsOf ops) 0
  st : Step X α0 α s (p i0).s w0 w
  glob : Glob α
  wait : Waits X ops p listed α (p i0).s
  tn : act.tmps.size = a.N
  tm : Tms ops (p ops.size).a.tm a.tm listed α act.tmps
  df : DRels α a.defers act.defers
theorem E_set {listed : Array Bool} {i j : Nat} (hi : i < listed.size) : E (listed.setIfInBounds i true) j ↔ (E listed j ∨ j = i) := by
  unfold E
  by_cases h : j = i
  · subst h
    simp [Array.getD_eq_getD_getElem?, hi]
  · rw [getD_set_ne false (Ne.symm h)]; simp [h]
theorem getD_false {listed : Array Bool} {i : Nat} (h : listed.getD i true = false) : i < listed.size ∧ ¬ E listed i := by
  unfold E
  rw [Array.getD_eq_getD_getElem?] at h ⊢
  cases hq : listed[i]? with
  | none => rw [hq] at h; cases h
  | some b =>
    rw [hq] at h
    simp at h; subst h
    exact ⟨(Array.getElem?_eq_some_iff.1 hq).1, by simp⟩
variable {listed : Array Bool} {act : Go.Act} {w : World} {α : Al} {i0 i : Nat} {o : Oper}
theorem Inv.ahead (D : Draw P X r ops p a s) (I : Inv X ops p a s α0 w0 listed act w α i0) (hi : ops[i]? = some o) (hE : ∀ e ∈ o.after, bindsA e = true → E listed e.on) {m : Nat} (hm : (masks ops.toList [])[i]? = some m) :
    ∀ b, Nat.testBit m b = true → E listed b := fun b hb => by
  obtain ⟨e, he, h1, h2⟩ := mask_bit (by rw [Array.getElem?_toList]; exact hi) hm hb
  rcases h2 with rfl | ⟨x, h2, h3⟩
  · exact hE e he h1
  · exact I.cl _ x (hE e he h1) h2 b h3
/-- what an operation looks at that may come up is as the text's order has it -/
theorem Inv.looks (D : Draw P X r ops p a s) (I : Inv X ops p a s α0 w0 listed act w α i0) (hi : ops[i]? = some o) (hn : ¬ E listed i) (hE : ∀ e ∈ o.after, bindsA e = true → E listed e.on) :
    ∀ t, t ∈ looks ops.toList o → VRel α (orUndef ((p i).a.tm.get t)) (act.tmps.getD t undef) := fun t ht => by
  have hin : i < ops.size := (Array.getElem?_eq_some_iff.1 hi).1
  by_cases hex : ∃ (j : Nat) (y : Oper), ops[j]? = some y ∧ y.dst = some t
  · obtain ⟨j, y, hj, hy⟩ := hex
    have hjn : j < ops.size := (Array.getElem?_eq_some_iff.1 hj).1
    rcases Nat.lt_trichotomy j i with h | h | h
    · obtain ⟨m, hm, _⟩ := zs_get ops hi
      rcases (D.pair hj hi h hm).2 with hb | ⟨hb, _, _⟩
      · have hEj := I.ahead D hi hE hm j hb
        have := (I.tm t).1 ⟨j, y, hEj, hj, hy⟩
        rw [D.fin hj hy ops.size hjn (Nat.le_refl _)] at this
        rw [D.fin hj hy i h (by omega)]; exact this
      · rw [hy] at hb; exact absurd ht (notIn_spec hb)
    · subst h
      rw [D.before j (by omega) fun l o' hl ho' hd => by have := D.uniq ho' hj hd hy; omega]
      exact (I.tm t).2 fun l o' hl ho' hd => by
        have := D.uniq ho' hj hd hy; subst this; exact hn hl
    · rw [D.before i (by omega) fun l o' hl ho' hd => by have := D.uniq ho' hj hd hy; omega]
      refine (I.tm t).2 fun l o' hl ho' hd => ?_
      have := D.uniq ho' hj hd hy; subst this
      obtain ⟨m, hm, _⟩ := zs_get ops hj
      rcases (D.pair hi hj h hm).2 with hb | ⟨_, hb, _⟩
      · exact hn (I.cl _ m hl hm i hb)
      · rw [hy] at hb; exact absurd ht (notIn_spec hb)
  · have hno : ∀ (l : Nat) (o' : Oper), ops[l]? = some o' → o'.dst ≠ some t := fun l o' hl hd => hex ⟨l, o', hl, hd⟩
    rw [D.before i (by omega) fun l o' _ ho' => hno l o' ho']
    exact (I.tm t).2 fun l o' _ ho' => hno l o' ho'
/-- an operation more -/
theorem Inv.more (D : Draw P X r ops p a s) (I : Inv X ops p a s α0 w0 listed act w α i0) (hi : ops[i]? = some o) (hn : ¬ E listed i) (hE : ∀ e ∈ o.after, bindsA e = true → E listed e.on)
    {α' : Al} {i0' : Nat} {w' : World} {v : AVal} {v' : Value} (hle : AlLe α α') (h1 : i0' ≤ ops.size) (hk : (p i0').k = cnt (fun o _ j => isW o && (listed.setIfInBounds i true).getD j false) (zsOf ops) 0) (hst : Step X α0 α' s (p i0').s w0 w')
    (hw : Waits X ops p (listed.setIfInBounds i true) α' (p i0').s) (hv : VRel α' v v') (hp : putE (p i).a o.dst v = some (p (i + 1)).a) :
    Inv X ops p a s α0 w0 (listed.setIfInBounds i true) (act.put o.dst v') w' α' i0' := by
  have hin : i < ops.size := (Array.getElem?_eq_some_iff.1 hi).1
  have hil : i < listed.size := by rw [I.sz]; exact hin
  have hset : ∀ j, E (listed.setIfInBounds i true) j ↔ (E listed j ∨ j = i) := fun j => E_set hil
  have hN : (p i).a.N = a.N := by rw [← D.a0]; exact (D.path.idx i (by omega)).2.1
  refine ⟨by simp [I.sz], fun j m hj hm b hb => ?_, h1, hk, hst, I.glob.mono hle, hw, ?_, fun t => ?_, ?_⟩
  · rw [hset] at hj ⊢
    rcases hj with hj | rfl
    · exact .inl (I.cl j m hj hm b hb)
    · exact .inl (I.ahead D hi hE hm b hb)
  · cases hd : o.dst with
    | none => exact I.tn
    | some d => simp [Act.put, I.tn]
  · by_cases hd : o.dst = some t
    · have hlt : t < act.tmps.size := by
        rw [hd] at hp
        simp only [putE, brec] at hp
        cases hb : Nat.ble (t + 1) (p i).a.N
        · rw [hb] at hp; cases hp
        · have h9 := Nat.le_of_ble_eq_true hb; rw [I.tn, ← hN]; exact h9
      have hget : (act.put o.dst v').tmps.getD t undef = v' := by
        rw [hd]
        show (act.tmps.setIfInBounds t v').getD t undef = v'
        rw [Array.getD_eq_getD_getElem?, Array.getElem?_setIfInBounds_self_of_lt hlt]; rfl
      rw [hget]
      refine ⟨fun _ => ?_, fun hno => absurd hd (hno i o ((hset i).2 (.inr rfl)) hi)⟩
      rw [D.fin hi hd ops.size hin (Nat.le_refl _), put_get hp, if_pos hd]; exact hv
    · have hget : (act.put o.dst v').tmps.getD t undef = act.tmps.getD t undef := by
        cases hd2 : o.dst with
        | none => rfl
        | some d =>
          have hne : d ≠ t := fun e => hd (by rw [hd2, e])
          show (act.tmps.setIfInBounds d v').getD t undef = _
          rw [Array.getD_eq_getD_getElem?, Array.getD_eq_getD_getElem?, Array.getElem?_setIfInBounds_ne hne]
      rw [hget]
      refine ⟨fun ⟨j, y, h2, h3, h4⟩ => ?_, fun hno => ((I.tm t).2 fun j y h2 h3 => hno j y ((hset j).2 (.inl h2)) h3).mono hle⟩
      refine ((I.tm t).1 ⟨j, y, ?_, h3, h4⟩).mono hle
      rcases (hset j).1 h2 with h2 | rfl
      · exact h2
      · rw [hi] at h3; cases h3; exact absurd h4 hd
  · have : (act.put o.dst v').defers = act.defers := by cases o.dst <;> rfl
    rw [this]; exact I.df.mono hle
theorem cnt_keep (I : Inv X ops p a s α0 w0 listed act w α i0) (hi : ops[i]? = some o) (hw : isW o = false) : (p i0).k = cnt (fun o _ j => isW o && (listed.setIfInBounds i true).getD j false) (zsOf ops) 0 := by
  rw [I.k]
  refine cnt_congr fun j o' m' hj => ?_
  rw [Nat.zero_add]
  by_cases e : j = i
  · subst e
    have := (zs_of ops hj).1
    rw [hi] at this; cases this
    simp [hw]
  · rw [getD_set_ne false (Ne.symm e)]
theorem Waits.more (D : Draw P X r ops p a s) {s1 s2 : St} {α β : Al} {w1 w2 : World} (h : Waits X ops p listed α s1) (hil : i < listed.size) (ho : Ok s) (hge : (p 0).s.next ≤ s1.next) (st : Step X α β s1 s2 w1 w2) : Waits X ops p (listed.setIfInBounds i true) β s2 := fun j y hj hk hn => by
  have hn' : ¬ E listed j := fun h => hn ((E_set hil).2 (.inl h))
  obtain ⟨k1, e, ti, k2, k3, k4⟩ := h j y hj hk hn'
  obtain ⟨_, _, _, _, _, l1, l2, _⟩ := D.laid ho hj hk
  refine ⟨?_, e, ti, k2, k3, ?_⟩
  · cases hb : β (p j).nm with
    | none => rfl
    | some L =>
      rcases st.stp.new _ L hb with h | h
      · rw [k1] at h; cases h
      · omega
  · rcases st.touch (p j).nm (by omega) k1 with h | h
    · rw [h]; exact k4
    · exact .inr h
end
end Go.Ev
namespace Go.Ev
open Go Go.Lib
section
variable {P : Program} {X : Env} {r : Rec} {ops : Array Oper} {p : Nat → TrSt} {a : Ev.Act} {s : St} {α0 : Al} {w0 : World}
variable {listed : Array Bool} {act : Go.Act} {w : World} {α : Al} {i0 i : Nat} {o : Oper}
theorem kd_rd_cls (h : kdOf o = .rd) : clsO o.op = .rd ∨ clsO o.op = .rdal := by
  have ha := kd_not_al (o := o) (by rw [h]; simp)
  unfold kdOf at h
  rw [ha] at h
  simp only [kdT, clsK_eq] at h
  cases hc : clsO o.op <;> rw [hc] at h <;> first | exact .inl rfl | exact .inr rfl | cases h
theorem Inv.step (D : Draw P X r ops p a s) (ho : Ok s) (hf : Fresh α0 s.next (p ops.size).s.next) (I : Inv X ops p a s α0 w0 listed act w α i0) (hi : ops[i]? = some o) (hl : listed.getD i true = false) (hE : ∀ e ∈ o.after, bindsA e = true → E listed e.on)
    {ro : Option Nat} {K : Go.Act → World → Prop} {Q : Exit → Go.Act → World → Prop} (hK : ∀ act' w' α' i0', Inv X ops p a s α0 w0 (listed.setIfInBounds i true) act' w' α' i0' → K act' w') : wpOpIn (W ro) 0 P ops Q i K act w := by
  obtain ⟨hil, hn⟩ := getD_false hl
  have hin : i < ops.size := (Array.getElem?_eq_some_iff.1 hi).1
  have hlooks := I.looks D hi hn hE
  have hs := D.path.step i o hi
  have hmono := fun (j k : Nat) (h : j ≤ k) (hk : k ≤ ops.size) => D.path.next_mono D.mono k h hk (i := j)
  have h0 : (p 0).s.next ≤ (p i0).s.next := hmono 0 i0 (Nat.zero_le _) I.le
  obtain ⟨m, hm, hz⟩ := zs_get ops hi
  cases hk : kdOf o
  · -- what may come up whenever it likes
    obtain ⟨e, ti, hg, hop, hti, l1, l2, l3⟩ := D.laid ho hi hk
    obtain ⟨z, z1, z2, _, _⟩ := zsize D.hX hti
    obtain ⟨k1, e', ti', k2, k3, k4⟩ := I.wait i o hi hk hn
    rw [hop] at k2; cases k2
    rw [hti] at k3; cases k3
    have hwant : ∀ f, Region.wanted o f = true := fun f => by unfold Region.wanted; rw [hg]
    have hrun : (o.semAt ro act.eval).run P w = .ok (.value (.pointer (some ⟨w.heap.size, 0, none⟩))) (pushW w (.cells z.cells e)) := by
      rw [Oper.semAt_eq _ _ _ (by rw [hop]; intro c hc; cases hc)]
      unfold execOp
      rw [hop]
      simp [Instr.alloc, z1, newVar, run_newRow]
    have hwf : isW o = false := by unfold isW; rw [hk]; rfl
    unfold wpOpIn
    simp only [hi, hwant, if_true]
    refine wpIn_of_gets hrun (hK _ _ (updA α (p i).nm ⟨w.heap.size, 0, z.cells.size, 0⟩) i0 (I.more D hi hn hE (v := .ptr (p i).nm 0) (AlLe.upd _ k1) I.le (cnt_keep I hi hwf) (step_late I.st k1 l1 (by omega) k4 (z2 α)) ?_ ?_ (tr_al hk hs).1))
    · intro j y hj hkj hnj
      have hne : j ≠ i := fun e => hnj ((E_set hil).2 (.inr e))
      obtain ⟨g1, g2⟩ := I.wait j y hj hkj (fun h => hnj ((E_set hil).2 (.inl h)))
      refine ⟨?_, g2⟩
      unfold updA
      rw [if_neg (D.nm_ne hj hi hkj hk hne)]; exact g1
    · exact VRel.ptr (L := ⟨w.heap.size, 0, z.cells.size, 0⟩) (updA_same _ _ _)
  · -- a writer
    obtain ⟨hnd, ht, hk1, _⟩ := tr_wr hk hs
    have hwt : isW o = true := by unfold isW; rw [hk]; rfl
    have hki : (p i0).k = (p i).k := by
      rw [I.k, D.kcnt i (by omega)]
      refine cnt_congr fun j y my hj => ?_
      rw [Nat.zero_add]
      obtain ⟨hj1, hj2⟩ := zs_of ops hj
      cases hy : isW y
      · rfl
      · simp only [Bool.true_and]
        rw [Bool.eq_iff_iff, decide_eq_true_iff]
        constructor
        · intro hEj
          rcases Nat.lt_trichotomy j i with h | h | h
          · exact h
          · subst h; exact absurd hEj hn
          · rcases (D.pair hi hj1 h hj2).2 with hb | ⟨_, _, hb⟩
            · exact absurd (I.cl j my hEj hj2 i hb) hn
            · rw [hwt, hy] at hb; cases hb
        · intro hlt
          rcases (D.pair hj1 hi hlt hm).2 with hb | ⟨_, _, hb⟩
          · exact I.ahead D hi hE hm j hb
          · rw [hwt, hy] at hb; cases hb
    have hsame : (p i0).s = (p i).s := D.path.same I.le (by omega) hki
    have hk2 : (p (i + 1)).k = cnt (fun o _ j => isW o && (listed.setIfInBounds i true).getD j false) (zsOf ops) 0 := by
      rw [hk1, ← hki, I.k]
      refine (cnt_one (i := i) hz ?_ ?_ fun j y my hne hj => ?_).symm
      · rw [Nat.zero_add]
        have : listed.getD i false = false := by
          cases hq : listed.getD i false
          · rfl
          · exact absurd hq hn
        rw [this, Bool.and_false]
      · rw [Nat.zero_add, hwt, Bool.true_and]; exact (E_set hil).2 (.inr rfl)
      · rw [Nat.zero_add, getD_set_ne false (Ne.symm hne)]
    have hstep : ∀ {β : Al} {w' : World}, Step X α β (p i).s (p (i + 1)).s w w' → Step X α0 β s (p (i + 1)).s w0 w' ∧ Waits X ops p (listed.setIfInBounds i true) β (p (i + 1)).s := by
      intro β w' st
      have I2 := I.st
      have I3 := I.wait
      rw [hsame] at I2 I3 h0
      exact ⟨I2.trans (hf.left (hmono (i + 1) ops.size (by omega) (Nat.le_refl _))) st, I3.more D hil ho h0 st⟩
    have I2 := I.st
    rw [hsame] at I2
    rcases turn_put hnd ht with ⟨hw, v, hv, hp⟩ | ⟨hw, hss, hp⟩
    · have hwr := wanted_run (ops := ops) (tmps := act.tmps) hlooks hw
      rw [opV_congr (only_eq (o := o.op)) (p i).s] at hv
      obtain ⟨_, m2⟩ := opV_run (P := P) (ρ := act.eval) D.hX D.hc hv
      have hfr : Fresh α (p i).s.next (p (i + 1)).s.next := (I2.fresh (hf.left (hmono (i + 1) ops.size (by omega) (Nat.le_refl _))))
      obtain ⟨nx, w1, g1, g2⟩ := m2 α w ro I2.rel I.glob I2.ok hfr (only_rel (looks_rel I.glob hlooks))
      unfold wpOpIn
      simp only [hi, hwr, if_true]
      refine wpIn_of_gets g1 (g2.mono fun v' w' ⟨β, b1, b2⟩ => ?_)
      obtain ⟨c1, c2⟩ := hstep b1
      exact hK _ w' β (i + 1) (I.more D hi hn hE b1.stp.le (by omega) hk2 c1 c2 b2 hp)
    · have hwr := wanted_run (ops := ops) (tmps := act.tmps) hlooks hw
      obtain ⟨c1, c2⟩ := hstep (β := α) (w' := w) (by rw [hss]; exact Step.refl I2.rel I2.ok)
      unfold wpOpIn
      simp only [hi, hwr, Bool.false_eq_true, if_false]
      exact ⟨fun f _ => trivial, hK _ w α (i + 1) (I.more D hi hn hE (AlLe.refl α) (by omega) hk2 c1 c2 (.undef α) hp)⟩
  · -- a reader
    obtain ⟨hcase, hss, hkk, _, _, _⟩ := tr_rd hk hs
    have hwf : isW o = false := by unfold isW; rw [hk]; rfl
    have hwait : Waits X ops p (listed.setIfInBounds i true) α (p i0).s := I.wait.more D hil ho h0 (Step.refl I.st.rel I.st.ok)
    have hkeep := cnt_keep I hi hwf
    rcases hcase with ⟨hw, v, hv, hp, hns⟩ | ⟨hw, hp, _⟩
    · have hwr := wanted_run (ops := ops) (tmps := act.tmps) hlooks hw
      have hread : rdE o.op X (evalO (p i).a.tm) (p i0).s.heap = some v := by
        by_cases he : (p i0).k = (p i).k
        · rw [D.path.same I.le (by omega) he]; exact hv
        · let n : Note := { i := (p i).i, o := o, tm := (p i).a.tm, v := v, k := (p i).k }
          have hmem : n ∈ (p ops.size).ns := D.path.notes ops.size (by omega : i + 1 ≤ ops.size) (Nat.le_refl _) n (by rw [hns]; exact List.mem_cons_self)
          have hnote := notesOk_spec D.notes n hmem
          have hni : n.i = i := (D.path.idx i (by omega)).1
          rw [nth_eq, hni, hz] at hnote
          simp only [noteOk] at hnote
          refine sameFrom_spec hnote (p i0).k (p i0).s.heap ((D.path.heaps ops.size (Nat.le_refl _)).2 i0 I.le) ?_ ?_ ?_
          · rw [Nat.zero_add, I.k]
            refine cnt_le fun j y my hj hb => ?_
            rw [Nat.zero_add, Bool.and_eq_true] at hb ⊢
            exact ⟨hb.1, I.ahead D hi hE hm j hb.2⟩
          · rw [Nat.zero_add, I.k]
            refine cnt_le fun j y my hj hb => ?_
            rw [Nat.zero_add, Bool.and_eq_true] at hb
            rw [Bool.and_eq_true]
            refine ⟨hb.1, ?_⟩
            rw [hni]
            cases hq : Nat.testBit my i
            · rfl
            · exact absurd (I.cl j my hb.2 (zs_of ops hj).2 i hq) hn
          · rw [Nat.zero_add]; exact he
      rw [rdE_congr (only_eq (o := o.op))] at hread
      obtain ⟨v', r1, r2⟩ := rd_run (o := o) D.hX I.st.rel (only_rel (looks_rel I.glob hlooks)) hread
      have hnd : ∀ c, o.op ≠ .defer c := not_defer (by rcases kd_rd_cls hk with h | h <;> rw [h] <;> simp)
      unfold wpOpIn
      simp only [hi, hwr, if_true]
      refine wpIn_of_gets (nx := .value v') (by rw [Oper.semAt_eq _ _ _ hnd]; exact r1) ?_
      exact hK _ w α i0 (I.more D hi hn hE (AlLe.refl α) I.le hkeep I.st hwait r2 hp)
    · have hwr := wanted_run (ops := ops) (tmps := act.tmps) hlooks hw
      unfold wpOpIn
      simp only [hi, hwr, Bool.false_eq_true, if_false]
      exact ⟨fun f _ => trivial, hK _ w α i0 (I.more D hi hn hE (AlLe.refl α) I.le hkeep I.st hwait (.undef α) hp)⟩
end
end Go.Ev
namespace Go.Ev
open Go Go.Lib
section
variable {P : Program} {X : Env} {r : Rec} {ops : Array Oper} {p : Nat → TrSt} {a : Ev.Act} {s : St} {α0 : Al} {w0 : World}
theorem count_set {l : List Bool} {i : Nat} (h : l[i]? = some false) : (l.set i true).count false + 1 = l.count false := by
  induction l generalizing i with
  | nil => simp at h
  | cons b l ih =>
    cases i with
    | zero => simp at h; subst h; simp
    | succ i =>
      simp at h
      have := ih h
      simp only [List.set_cons_succ, List.count_cons]
      omega
theorem draw_any (D : Draw P X r ops p a s) (ho : Ok s) (hf : Fresh α0 s.next (p ops.size).s.next) {ro : Option Nat} {Q : Exit → Go.Act → World → Prop}
    (hQ : ∀ act w α, Step X α0 α s (p ops.size).s w0 w → ActRel α (p ops.size).a act → Q .normal act w) :
    ∀ (fuel : Nat) (listed : Array Bool) (act : Go.Act) (w : World) (α : Al) (i0 : Nat), Inv X ops p a s α0 w0 listed act w α i0 → listed.toList.count false ≤ fuel → wpAnyIn (W ro) 0 P .any ops Q fuel listed act w := by
  have fin : ∀ (listed : Array Bool) (act : Go.Act) (w : World) (α : Al) (i0 : Nat), Inv X ops p a s α0 w0 listed act w α i0 → Region.ready .any ops listed = [] → Q .normal act w := by
    intro listed act w α i0 I hr
    have all : ∀ i, i < ops.size → E listed i := by
      intro i
      induction i using Nat.strongRecOn with
      | _ i ih =>
        intro hi
        cases hE : listed.getD i false
        · exfalso
          have hil : i < listed.size := by rw [I.sz]; exact hi
          have hlt : listed.getD i true = false := by
            rw [Array.getD_eq_getD_getElem?, Array.getElem?_eq_getElem hil] at hE ⊢; exact hE
          have hio : ops[i]? = some ops[i] := Array.getElem?_eq_getElem hi
          have : i ∈ Region.ready .any ops listed := mem_ready.2 ⟨hlt, _, hio, fun e he hb => by
            have h1 := D.edge hio e he (by rw [bindsA_eq]; exact hb)
            exact ih e.on h1 (by omega)⟩
          rw [hr] at this; cases this
        · exact hE
    have hk : (p i0).k = (p ops.size).k := by
      rw [I.k, D.kcnt ops.size (Nat.le_refl _)]
      refine cnt_congr fun j o m hj => ?_
      rw [Nat.zero_add]
      have hjn := (Array.getElem?_eq_some_iff.1 (zs_of ops hj).1).1
      have := all j hjn
      unfold E at this
      rw [this]; simp [hjn]
    have hst := I.st
    rw [D.path.same I.le (Nat.le_refl _) hk] at hst
    refine hQ act w α hst ⟨⟨?_, fun t => ?_⟩, ?_⟩
    · rw [I.tn, ← D.a0]; exact (D.path.idx ops.size (Nat.le_refl _)).2.1.symm
    · by_cases hex : ∃ (j : Nat) (y : Oper), ops[j]? = some y ∧ y.dst = some t
      · obtain ⟨j, y, hj, hy⟩ := hex
        exact (I.tm t).1 ⟨j, y, all j (Array.getElem?_eq_some_iff.1 hj).1, hj, hy⟩
      · have hno : ∀ (l : Nat) (o' : Oper), ops[l]? = some o' → o'.dst ≠ some t := fun l o' hl hd => hex ⟨l, o', hl, hd⟩
        rw [D.before ops.size (Nat.le_refl _) fun l o' _ ho' => hno l o' ho']
        exact (I.tm t).2 fun l o' _ ho' => hno l o' ho'
    · rw [(D.path.idx ops.size (Nat.le_refl _)).2.2.2, D.a0]; exact I.df
  intro fuel
  induction fuel with
  | zero =>
    intro listed act w α i0 I hc
    have hr : Region.ready .any ops listed = [] := by
      cases hr : Region.ready .any ops listed with
      | nil => rfl
      | cons i l =>
        exfalso
        have : i ∈ Region.ready .any ops listed := by rw [hr]; exact List.mem_cons_self
        obtain ⟨h1, _⟩ := mem_ready.1 this
        have h2 : listed.toList[i]? = some false := by
          rw [Array.getElem?_toList]
          obtain ⟨hil, _⟩ := getD_false h1
          rw [Array.getD_eq_getD_getElem?, Array.getElem?_eq_getElem hil] at h1
          rw [Array.getElem?_eq_getElem hil]; simp at h1; rw [h1]
        have h3 : false ∈ listed.toList := List.mem_of_getElem? h2
        have := List.count_pos_iff.2 h3
        omega
    exact ⟨hr, fin listed act w α i0 I hr⟩
  | succ fuel ih =>
    intro listed act w α i0 I hc
    refine ⟨fun hr => fin listed act w α i0 I hr, fun i hi => ?_⟩
    obtain ⟨h1, o, hio, hall⟩ := mem_ready.1 hi
    refine I.step D ho hf hio h1 (fun e he hb => hall e he (by rw [← bindsA_eq]; exact hb)) fun act' w' α' i0' I' => ?_
    refine ih _ act' w' α' i0' I' ?_
    have h2 : listed.toList[i]? = some false := by
      rw [Array.getElem?_toList]
      obtain ⟨hil, _⟩ := getD_false h1
      rw [Array.getD_eq_getD_getElem?, Array.getElem?_eq_getElem hil] at h1
      rw [Array.getElem?_eq_getElem hil]; simp at h1; rw [h1]
    have := count_set h2
    rw [Array.toList_setIfInBounds]
    omega
theorem draw_run (hX : EnvOk P X) (hc : CallOk P X r) {id : Nat} {a a' : Ev.Act} {s' : St} (h : drawE X r ops.toList a s = some (a', s')) :
    s.next ≤ s'.next ∧ a'.N = a.N ∧ a'.rnd = a.rnd ∧ ∀ ro, ro.isSome = a.rnd → ∀ α w act, Rel X α s.heap.get w → Glob α → Ok s → Fresh α s.next s'.next → ActRel α a act →
      (Code.region id ops true).wpIn (W ro) 0 P (Post X α s s' w .normal a') act w := by
  unfold drawE at h
  simp only [drawZ, brec] at h
  cases hp : pairsOk ops.toList 0 (ops.toList.zip (masks ops.toList []))
  · rw [hp] at h; cases h
  · rw [hp] at h
    simp only [cond_true] at h
    cases hh : hoistE X ops.toList s with
    | none => rw [hh] at h; cases h
    | some s0 =>
      rw [hh] at h
      simp only [drawS] at h
      cases hfd : foldE (trStep X r ops.toList) ops.toList { a := a, s := s0, i := 0, nm := s.next, k := 0, hs := [s0.heap], ns := [] } with
      | none => rw [hfd] at h; cases h
      | some t =>
        rw [hfd] at h
        simp only [drawR, brec] at h
        cases hn : notesOk X (ops.toList.zip (masks ops.toList [])) t.hs.reverse t.ns
        · rw [hn] at h; cases h
        · rw [hn] at h; cases h
          obtain ⟨p, p0, pn, ps⟩ := foldE_path hfd
          have pn' : p ops.size = t := by rw [← pn]; simp
          have D : Draw P X r ops p a s := ⟨hX, hc, ⟨fun i o hi => ps i o (by rw [Array.getElem?_toList]; exact hi), by rw [p0], by rw [p0], by rw [p0], by rw [p0]⟩, by rw [p0], by rw [p0], by rw [p0]; exact hh, hp, by rw [pn']; exact hn⟩
          have hidx := D.path.idx ops.size (Nat.le_refl _)
          rw [pn', p0] at hidx
          have hmono := D.path.next_mono D.mono ops.size (Nat.zero_le _) (Nat.le_refl _)
          rw [pn', p0] at hmono
          have hoist0 : s.next ≤ s0.next := by
            have : ∀ (l : List Oper) (s s0 : St), hoistE X l s = some s0 → s.next ≤ s0.next := by
              intro l
              induction l with
              | nil => intro s s0 h; cases h; exact Nat.le_refl _
              | cons o l ih =>
                intro s s0 h
                simp only [hoistE] at h
                cases ha : allocT o.guard o.op with
                | none => rw [ha] at h; exact ih s s0 h
                | some e =>
                  rw [ha] at h
                  simp only [hoistA] at h
                  cases hte : X.ty.get e with
                  | none => rw [hte] at h; cases h
                  | some ti => rw [hte] at h; exact Nat.le_trans (Nat.le_succ _) (ih _ s0 h)
            exact this _ _ _ hh
          refine ⟨Nat.le_trans hoist0 hmono, hidx.2.1, hidx.2.2.1, fun ro hro α w act hr hg ho hf ha => wpIn_region_any hX.mixed ?_⟩
          have hf' : Fresh α s.next (p ops.size).s.next := by rw [pn']; exact hf
          refine draw_any (α0 := α) (w0 := w) D ho hf' (fun act w1 β st ha1 => ⟨rfl, β, by rw [pn'] at st; exact st, by rw [pn'] at ha1; exact ha1⟩) ops.size _ act _ α 0 ?_ ?_
          · have st0 : Step X α α s (p 0).s w { w with drawn := w.drawn + 1 } := by
              have h1 := step_hoist D.hoist hr ho (hf'.left (D.path.next_mono D.mono ops.size (Nat.zero_le _) (Nat.le_refl _)))
              exact h1.trans (hf'.left (D.path.next_mono D.mono ops.size (Nat.zero_le _) (Nat.le_refl _))) (Step.same h1.rel h1.ok rfl rfl rfl)
            have hE0 : ∀ j, ¬ E (Array.replicate ops.size false) j := by
              intro j hj
              unfold E at hj
              rw [Array.getD_eq_getD_getElem?, Array.getElem?_replicate] at hj
              split at hj <;> cases hj
            refine ⟨by simp, fun j m hj => absurd hj (hE0 j), Nat.zero_le _, ?_, st0, hg, fun i o hi hk _ => ?_, ha.tm.1, fun t => ⟨fun ⟨i, o, h1, _⟩ => absurd h1 (hE0 i), fun _ => ha.tm.2 t⟩, ha.df⟩
            · rw [D.kcnt 0 (Nat.zero_le _)]
              refine cnt_congr fun j o m hj => ?_
              have : (Array.replicate ops.size false).getD (0 + j) false = false := by
                cases hq : (Array.replicate ops.size false).getD (0 + j) false
                · rfl
                · exact absurd hq (hE0 _)
              rw [this]; simp
            · obtain ⟨e, ti, _, h2, h3, l1, l2, l3⟩ := D.laid ho hi hk
              refine ⟨hf' _ l1 (Nat.lt_of_lt_of_le l2 (D.path.next_mono D.mono ops.size (Nat.zero_le _) (Nat.le_refl _))), e, ti, h2, h3, .inl l3⟩
          · simp
end
end Go.Ev
namespace Go.Ev
open Go Go.Lib
section
variable {F : Fence} {n : Nat} {P : Program} {Q : Exit → Go.Act → World → Prop} {act : Go.Act} {w : World}
theorem stepR_scope {b : Frame} {c : Code} {k : List Item} {cs : List Frame} : step P (lone (b.atR act (.code (.scope c) :: k)) cs w) = .next (lone (b.atR act (.code c :: .inScope c :: k)) cs w) :=
  step_lone_go (by simp [stepG, stepG.exec, Frame.atR])
theorem stepR_inScope {b : Frame} {c : Code} {k : List Item} {cs : List Frame} : step P (lone (b.atR act (.inScope c :: k)) cs w) = .next (lone (b.atR act k) cs w) :=
  step_lone_go (by simp [stepG, stepG.exec, Frame.atR])
theorem wpIn_scope {c : Code} (h : c.wpIn F n P (Exit.noGoto Q) act w) : (Code.scope c).wpIn F n P Q act w := by
  intro b k cs hro hb hr
  have h0 : (lone (b.atR act (.code (.scope c) :: k)) cs w).fenced P F := fenced_calm hb hr rfl
  obtain ⟨e, a₁, w₁, hq, harr⟩ := h b (.inScope c :: k) cs hro hb hr
  cases e with
  | normal => exact ⟨.normal, a₁, w₁, hq, .head h0 stepR_scope (StepsIn.trans harr (.one (fenced_calm hb hr rfl) stepR_inScope))⟩
  | exit id =>
    have hx : exitTo id (.inScope c :: k) = exitTo id k := by simp [exitTo]
    exact ⟨.exit id, a₁, w₁, hq, fun k' hk => .head h0 stepR_scope (harr.1 k' (by rw [hx]; exact hk)),
      fun hr' hk => let ⟨k₁, h1, h2⟩ := harr.2 hr' (by rw [hx]; exact hk); ⟨k₁, h1, .head h0 stepR_scope h2⟩⟩
  | goto l => exact hq.elim
  | ret => exact ⟨_, a₁, w₁, hq, .of_steps (.one h0 stepR_scope) harr⟩
  | panic ch => exact ⟨_, a₁, w₁, hq, .of_steps (.one h0 stepR_scope) harr⟩
  | outgrown => exact ⟨_, a₁, w₁, hq, .of_steps (.one h0 stepR_scope) harr⟩
/-- so many rounds of a loop at most -/
def Rounds (F : Fence) (n : Nat) (P : Program) (c : Code) (Q : Exit → Go.Act → World → Prop) : Nat → Go.Act → World → Prop
  | 0 => fun a w => c.wpIn F n P (Exit.then (fun _ _ => False) Q) a w
  | j + 1 => fun a w => c.wpIn F n P (Exit.then (Rounds F n P c Q j) Q) a w
theorem least {p : Nat → Prop} (h : ∃ j, p j) : ∃ j, p j ∧ ∀ k, p k → j ≤ k := by
  obtain ⟨j, hj⟩ := h
  induction j using Nat.strongRecOn with
  | _ j ih =>
    by_cases hk : ∃ k, k < j ∧ p k
    · obtain ⟨k, h1, h2⟩ := hk; exact ih k h1 h2
    · exact ⟨j, hj, fun k h => by
        rcases Nat.lt_or_ge k j with h1 | h1
        · exact absurd ⟨k, h1, h⟩ hk
        · exact h1⟩
theorem wpIn_rounds {c : Code} (j : Nat) (h : Rounds F n P c Q j act w) : (Code.loop c).wpIn F n P Q act w := by
  classical
  let I : Go.Act → World → Prop := fun a w => ∃ j, Rounds F n P c Q j a w
  let μ : Go.Act → World → Nat := fun a w => if h : ∃ j, Rounds F n P c Q j a w then Classical.choose (least h) else 0
  have hμ : ∀ a w j, Rounds F n P c Q j a w → μ a w ≤ j := fun a w j h => by
    have hex : ∃ j, Rounds F n P c Q j a w := ⟨j, h⟩
    show (if h : ∃ j, Rounds F n P c Q j a w then Classical.choose (least h) else 0) ≤ j
    rw [dif_pos hex]; exact (Classical.choose_spec (least hex)).2 j h
  refine wpIn_loop I μ ⟨j, h⟩ fun a w hI => ?_
  have hspec : Rounds F n P c Q (μ a w) a w := by
    show Rounds F n P c Q (if h : ∃ j, Rounds F n P c Q j a w then Classical.choose (least h) else 0) a w
    rw [dif_pos hI]; exact (Classical.choose_spec (least hI)).1
  cases hm : μ a w with
  | zero =>
    rw [hm] at hspec
    refine wpIn_mono hspec fun e a' w' hq => ?_
    cases e <;> first | exact hq.elim | exact hq
  | succ k =>
    rw [hm] at hspec
    refine wpIn_mono hspec fun e a' w' hq => ?_
    cases e <;> first | exact hq | (exact ⟨⟨k, hq⟩, Nat.lt_succ_of_le (hμ a' w' k hq)⟩)
theorem Rounds.mono {c : Code} {Q' : Exit → Go.Act → World → Prop} (hq : ∀ e a w, Q e a w → Q' e a w) : ∀ (j : Nat) (a : Go.Act) (w : World), Rounds F n P c Q j a w → Rounds F n P c Q' j a w
  | 0, a, w, h => wpIn_mono h fun e a' w' hh => by cases e <;> first | exact hh.elim | exact hq _ _ _ hh
  | j + 1, a, w, h => wpIn_mono h fun e a' w' hh => by cases e <;> first | exact Rounds.mono hq j _ _ hh | exact hq _ _ _ hh
end
/-- a piece of code, and for a loop so many rounds -/
def CodeWp (ro : Option Nat) (P : Program) (j : Nat) (c : Code) (Q : Exit → Go.Act → World → Prop) (act : Go.Act) (w : World) : Prop :=
  match c with
  | .loop x => Rounds (W ro) 0 P x Q j act w
  | c => c.wpIn (W ro) 0 P Q act w
theorem CodeWp.wp {ro : Option Nat} {P : Program} {j : Nat} {c : Code} {Q : Exit → Go.Act → World → Prop} {act : Go.Act} {w : World} (h : CodeWp ro P j c Q act w) : c.wpIn (W ro) 0 P Q act w := by
  cases c <;> first | exact h | exact wpIn_rounds j h
def CodeOk (P : Program) (X : Env) (r : Rec) : Prop := ∀ c a s e a' s', r.code c a s = some (e, a', s') → s.next ≤ s'.next ∧ a'.N = a.N ∧ a'.rnd = a.rnd ∧
  ∃ j, ∀ ro, ro.isSome = a.rnd → ∀ α w act, Rel X α s.heap.get w → Glob α → Ok s → Fresh α s.next s'.next → ActRel α a act → CodeWp ro P j c (Post X α s s' w e a') act w
section
variable {P : Program} {X : Env} {r : Rec}
/-- what the evaluator's own step is to give for a piece of code -/
def Sound (P : Program) (X : Env) (r : Rec) (c : Code) : Prop := ∀ a s e a' s', evC c X r a s = some (e, a', s') → s.next ≤ s'.next ∧ a'.N = a.N ∧ a'.rnd = a.rnd ∧
  ∃ j, ∀ ro, ro.isSome = a.rnd → ∀ α w act, Rel X α s.heap.get w → Glob α → Ok s → Fresh α s.next s'.next → ActRel α a act → CodeWp ro P j c (Post X α s s' w e a') act w
/-- a post-condition behind a step -/
theorem Post.after {α β : Al} {s s1 s' : St} {w w1 : World} {e : AExit} {a' : Ev.Act} (st : Step X α β s s1 w w1) (hf : Fresh α s.next s'.next) (e1 : Exit) (act1 : Go.Act) (w2 : World) (h : Post X β s1 s' w1 e a' e1 act1 w2) : Post X α s s' w e a' e1 act1 w2 := by
  obtain ⟨h1, γ, h2, h3⟩ := h
  exact ⟨h1, γ, st.trans hf h2, h3⟩
theorem sound_seq {x y : Code} (hx : Sound P X r x) (hy : Sound P X r y) : Sound P X r (.seq x y) := fun a s e a' s' h => by
  have h' : thenO (evC y) X r (evC x X r a s) = some (e, a', s') := h
  cases hx1 : evC x X r a s with
  | none => rw [hx1] at h'; cases h'
  | some q =>
    obtain ⟨e1, a1, s1⟩ := q
    rw [hx1] at h'
    obtain ⟨m1, m2, m3, j1, m4⟩ := hx a s e1 a1 s1 hx1
    by_cases he : e1 = .normal
    · subst he
      simp only [thenO] at h'
      obtain ⟨n1, n2, n3, j2, n4⟩ := hy a1 s1 e a' s' h'
      refine ⟨Nat.le_trans m1 n1, n2.trans m2, n3.trans m3, 0, fun ro hro α w act hr hg ho hf ha => wpIn_seq ?_⟩
      refine wpIn_mono (m4 ro hro α w act hr hg ho (hf.left n1) ha).wp fun e2 act2 w2 ⟨g1, β, g2, g3⟩ => ?_
      subst g1
      exact wpIn_mono (n4 ro (hro.trans m3.symm) β w2 act2 g2.rel (hg.mono g2.stp.le) g2.ok (g2.fresh hf) g3).wp (Post.after g2 hf)
    · have h2 : some (e1, a1, s1) = some (e, a', s') := by cases e1 <;> first | exact absurd rfl he | exact h'
      cases h2
      refine ⟨m1, m2, m3, 0, fun ro hro α w act hr hg ho hf ha => wpIn_seq ?_⟩
      refine wpIn_mono (m4 ro hro α w act hr hg ho hf ha).wp fun e2 act2 w2 hp => ?_
      have hp1 := hp.1
      subst hp1
      cases e <;> first | exact absurd rfl he | exact hp
theorem sound_cond {c : Operand} {x y : Code} (hx : Sound P X r x) (hy : Sound P X r y) : Sound P X r (.cond c x y) := fun a s e a' s' h => by
  have h' : condV (evalO a.tm c) (evC x X r a s) (evC y X r a s) = some (e, a', s') := h
  cases hv : evalO a.tm c <;> rw [hv] at h' <;> first | (cases h'; done) | skip
  rename_i b
  have hb : ∀ (α : Al) (act : Go.Act), Glob α → ActRel α a act → act.eval c = .bool b := fun α act hg ha => by
    have := evalO_rel hg ha.tm.2 c
    rw [hv] at this
    generalize act.eval c = v at this
    cases this; rfl
  cases b
  · obtain ⟨m1, m2, m3, j, m4⟩ := hy a s e a' s' h'
    exact ⟨m1, m2, m3, 0, fun ro hro α w act hr hg ho hf ha => wpIn_cond_false (hb α act hg ha) (m4 ro hro α w act hr hg ho hf ha).wp⟩
  · obtain ⟨m1, m2, m3, j, m4⟩ := hx a s e a' s' h'
    exact ⟨m1, m2, m3, 0, fun ro hro α w act hr hg ho hf ha => wpIn_cond_true (hb α act hg ha) (m4 ro hro α w act hr hg ho hf ha).wp⟩
theorem sound_block {id : Nat} {x : Code} (hx : Sound P X r x) : Sound P X r (.block id x) := fun a s e a' s' h => by
  have h' : blockO id (evC x X r a s) = some (e, a', s') := h
  cases hx1 : evC x X r a s with
  | none => rw [hx1] at h'; cases h'
  | some q =>
    obtain ⟨e1, a1, s1⟩ := q
    rw [hx1] at h'
    obtain ⟨m1, m2, m3, j, m4⟩ := hx a s e1 a1 s1 hx1
    cases e1 with
    | exit i =>
      simp only [blockO, brec] at h'
      cases hb : Nat.beq i id
      · rw [hb] at h'; cases h'
        have hne := ne_of_beq hb
        refine ⟨m1, m2, m3, 0, fun ro hro α w act hr hg ho hf ha => wpIn_block (wpIn_mono (m4 ro hro α w act hr hg ho hf ha).wp fun e2 act2 w2 hp => ?_)⟩
        have hp1 := hp.1; subst hp1
        show (if i = id then _ else _)
        rw [if_neg hne]; exact hp
      · rw [hb] at h'; cases h'
        obtain rfl := Nat.eq_of_beq_eq_true hb
        refine ⟨m1, m2, m3, 0, fun ro hro α w act hr hg ho hf ha => wpIn_block (wpIn_mono (m4 ro hro α w act hr hg ho hf ha).wp fun e2 act2 w2 hp => ?_)⟩
        obtain ⟨hp1, hp2⟩ := hp; subst hp1
        show (if i = i then _ else _)
        rw [if_pos rfl]; exact ⟨rfl, hp2⟩
    | normal =>
      cases h'
      refine ⟨m1, m2, m3, 0, fun ro hro α w act hr hg ho hf ha => wpIn_block (wpIn_mono (m4 ro hro α w act hr hg ho hf ha).wp fun e2 act2 w2 hp => ?_)⟩
      have hp1 := hp.1; subst hp1; exact hp
    | goto l =>
      cases h'
      refine ⟨m1, m2, m3, 0, fun ro hro α w act hr hg ho hf ha => wpIn_block (wpIn_mono (m4 ro hro α w act hr hg ho hf ha).wp fun e2 act2 w2 hp => ?_)⟩
      have hp1 := hp.1; subst hp1; exact hp
    | ret =>
      cases h'
      refine ⟨m1, m2, m3, 0, fun ro hro α w act hr hg ho hf ha => wpIn_block (wpIn_mono (m4 ro hro α w act hr hg ho hf ha).wp fun e2 act2 w2 hp => ?_)⟩
      have hp1 := hp.1; subst hp1; exact hp
theorem sound_scope {x : Code} (hx : Sound P X r x) : Sound P X r (.scope x) := fun a s e a' s' h => by
  have h' : scopeO (evC x X r a s) = some (e, a', s') := h
  cases hx1 : evC x X r a s with
  | none => rw [hx1] at h'; cases h'
  | some q =>
    obtain ⟨e1, a1, s1⟩ := q
    rw [hx1] at h'
    obtain ⟨m1, m2, m3, j, m4⟩ := hx a s e1 a1 s1 hx1
    have h2 : some (e1, a1, s1) = some (e, a', s') ∧ ∀ l, e1 ≠ .goto l := by
      cases e1 <;> first | exact ⟨h', by simp⟩ | cases h'
    obtain ⟨h2, h3⟩ := h2
    cases h2
    refine ⟨m1, m2, m3, 0, fun ro hro α w act hr hg ho hf ha => wpIn_scope (wpIn_mono (m4 ro hro α w act hr hg ho hf ha).wp fun e2 act2 w2 hp => ?_)⟩
    have hp1 := hp.1; subst hp1
    cases e <;> first | exact absurd rfl (h3 _) | exact hp
theorem sound_loop (hr0 : CodeOk P X r) {x : Code} (hx : Sound P X r x) : Sound P X r (.loop x) := fun a s e a' s' h => by
  have h' : loopO x r (evC x X r a s) = some (e, a', s') := h
  cases hx1 : evC x X r a s with
  | none => rw [hx1] at h'; cases h'
  | some q =>
    obtain ⟨e1, a1, s1⟩ := q
    rw [hx1] at h'
    obtain ⟨m1, m2, m3, j1, m4⟩ := hx a s e1 a1 s1 hx1
    by_cases he : e1 = .normal
    · subst he
      simp only [loopO] at h'
      obtain ⟨n1, n2, n3, j2, n4⟩ := hr0 _ _ _ _ _ _ h'
      refine ⟨Nat.le_trans m1 n1, n2.trans m2, n3.trans m3, j2 + 1, fun ro hro α w act hr hg ho hf ha => ?_⟩
      show (x.wpIn (W ro) 0 P (Exit.then (Rounds (W ro) 0 P x (Post X α s s' w e a') j2) (Post X α s s' w e a')) act w)
      refine wpIn_mono (m4 ro hro α w act hr hg ho (hf.left n1) ha).wp fun e2 act2 w2 ⟨g1, β, g2, g3⟩ => ?_
      subst g1
      exact Rounds.mono (Post.after g2 hf) j2 _ _ (n4 ro (hro.trans m3.symm) β w2 act2 g2.rel (hg.mono g2.stp.le) g2.ok (g2.fresh hf) g3)
    · have h2 : some (e1, a1, s1) = some (e, a', s') := by cases e1 <;> first | exact absurd rfl he | exact h'
      cases h2
      refine ⟨m1, m2, m3, 0, fun ro hro α w act hr hg ho hf ha => ?_⟩
      show (x.wpIn (W ro) 0 P (Exit.then (fun _ _ => False) (Post X α s s' w e a')) act w)
      refine wpIn_mono (m4 ro hro α w act hr hg ho hf ha).wp fun e2 act2 w2 hp => ?_
      have hp1 := hp.1
      subst hp1
      cases e <;> first | exact absurd rfl he | exact hp
end
end Go.Ev
namespace Go.Ev
open Go Go.Lib
section
variable {P : Program} {X : Env} {r : Rec}
theorem hasBody_spec {v : AVal} (h : hasBody X v = true) : ∃ g first cap fn c, v = .func (.func g) first cap ∧ X.fn.get g = some fn ∧ fn.body = some c := by
  cases v <;> first | (cases h; done) | skip
  rename_i fn first cap
  cases fn <;> first | (cases h; done) | skip
  rename_i g
  simp only [hasBody] at h
  unfold bodyOf at h
  cases hf : X.fn.get g with
  | none => rw [hf] at h; cases h
  | some f =>
    simp only [hf] at h
    cases hb : f.body with
    | none => simp only [hb] at h; cases h
    | some c => exact ⟨g, first, cap, f, c, rfl, hf, hb⟩
theorem callFunc_enter (hX : EnvOk P X) {g : Nat} {fn : Func} {c : Code} (hf : X.fn.get g = some fn) (hb : fn.body = some c) (args : Array Value) (w : World) : (callFunc g args).run P w = .ok (.enter g args) w := by
  obtain ⟨h1, h2⟩ := hX.fn g fn hf
  have h3 : (fn.name == "runtime.NumGoroutine") = false := by simpa using h2
  unfold callFunc
  simp only [Sem.run_bind, run_program, Result.andThen_ok, h1, h3, hb, Option.isNone_some, Bool.false_eq_true, if_false, Sem.run_pure]
theorem exit_wp {ro : Option Nat} {Q : Exit → Go.Act → World → Prop} {act : Go.Act} {w : World} {pend : Option Code} {a a' : Ev.Act} {s s' : St} {e : AExit} (h : rangeEnd pend a s = some (e, a', s')) (hQ : Q (exitOf e) act w) :
    (pend = none → Q .normal act w) ∧ ∀ c, pend = some c → c.wpIn (W ro) 0 P Q act w := by
  cases pend with
  | none => cases h; exact ⟨fun _ => hQ, fun c hc => by cases hc⟩
  | some c =>
    refine ⟨fun hn => (by cases hn), fun c' hc => ?_⟩
    cases hc
    cases c <;> first | (cases h; done) | skip
    · cases h; exact wpIn_exit hQ
    · cases h; exact wpIn_goto hQ
    · cases h; exact wpIn_ret hQ
theorem rangeEnd_spec {pend : Option Code} {a a' : Ev.Act} {s s' : St} {e : AExit} (h : rangeEnd pend a s = some (e, a', s')) : a' = a ∧ s' = s := by
  cases pend with
  | none => cases h; exact ⟨rfl, rfl⟩
  | some c => cases c <;> first | (cases h; done) | (cases h; exact ⟨rfl, rfl⟩)
theorem sound_range (hX : EnvOk P X) (hc : CallOk P X r) {f : Operand} {ps : Array Tmp} {assign body : Code} : Sound P X r (.rangeFunc f ps assign body) := fun a s e a' s' h => by
  have h' : rangeO X f ps assign body r a s = some (e, a', s') := h
  simp only [rangeO, brec] at h'
  cases hb : (!a.rnd && hasBody X (evalO a.tm f))
  · rw [hb] at h'; cases h'
  · rw [hb] at h'
    rw [Bool.and_eq_true, Bool.not_eq_true'] at hb
    obtain ⟨hrnd, hbody⟩ := hb
    obtain ⟨g, first, cap, fn, c, hfv, hfn, hfb⟩ := hasBody_spec hbody
    simp only [cond_true] at h'
    generalize hs1 : alloc (alloc s (.deferred false)) (.loop a.tm a.N ps.toList assign body .ready none s.next) = s1 at h'
    have hn1 : s1.next = s.next + 2 := by subst hs1; rfl
    cases hcall : r.call (evalO a.tm f) [.yld (s.next + 1)] s1 with
    | none => rw [hcall] at h'; cases h'
    | some q =>
      obtain ⟨v, s2⟩ := q
      rw [hcall] at h'
      simp only [rangeBack] at h'
      obtain ⟨m1, m2⟩ := hc _ _ _ _ _ hcall
      cases hl : s2.heap.get (s.next + 1) with
      | none => rw [hl] at h'; cases h'
      | some lo =>
        rw [hl] at h'
        cases lo <;> first | (cases h'; done) | skip
        rename_i tm N ps2 as2 bo2 st pend db
        have hst : st ≠ .busy := by rintro rfl; cases h'
        have h'' : rangeEnd pend { a with defers := (.yld s.next, []) :: a.defers } (setObj s2 (s.next + 1) (.loop tm N ps2 as2 bo2 .exhausted pend db)) = some (e, a', s') := by
          cases st <;> first | exact h' | exact absurd rfl hst
        obtain ⟨ha', hs'⟩ := rangeEnd_spec h''
        have hnext : s'.next = s2.next := by rw [hs']; rfl
        refine ⟨by rw [hnext]; omega, by rw [ha'], by rw [ha'], 0, fun ro hro α w act hr hg ho hf ha => ?_⟩
        have hro' : ro = none := by rw [hrnd] at hro; cases ro <;> first | rfl | cases hro
        subst hro'
        refine wpIn_rangeFunc fun fnid _ => ?_
        -- the record is laid
        let b1 := w.heap.size
        let w1 := pushW w (.deferred (some []))
        let lp : Loop := { state := .ready, pending := none, fn := fnid, tmps := act.tmps, params := ps, assign := assign, body := body, defers := b1 }
        let w2 := pushW w1 (.loop lp)
        have hf1 : Fresh α s.next (s.next + 1) := hf.left (by rw [hnext]; omega)
        have st1 : Step X α (updA α s.next ⟨b1, 0, 0, 0⟩) s (alloc s (.deferred false)) w w1 :=
          Step.new (L := ⟨b1, 0, 0, 0⟩) (obj := .deferred (some [])) hr ho hf1 rfl rfl rfl rfl (by show w1.heap[b1]? = _; exact pushW_new w _) (fun q hq => by cases hq)
        have hf2 := st1.fresh hf
        have hsz1 : w1.heap.size = b1 + 1 := by simp [w1, b1, pushW]
        have st2 : Step X (updA α s.next ⟨b1, 0, 0, 0⟩) (updA (updA α s.next ⟨b1, 0, 0, 0⟩) (s.next + 1) ⟨b1 + 1, 0, 0, 0⟩) (alloc s (.deferred false)) s1 w1 w2 := by
          rw [← hs1]
          have hfr : (updA α s.next ⟨b1, 0, 0, 0⟩) (s.next + 1) = none := hf2 (s.next + 1) (Nat.le_refl _) (by rw [hnext]; omega)
          refine Step.new (L := ⟨b1 + 1, 0, 0, 0⟩) (obj := .loop lp) st1.rel st1.ok (hf2.left (by rw [hnext]; show s.next + 1 + 1 ≤ _; omega)) hsz1.symm rfl rfl rfl ?_ (fun q hq => by cases hq)
          refine ⟨lp, ?_, rfl, rfl, rfl, rfl, rfl, (ha.tm.mono st1.stp.le).mono (AlLe.upd _ hfr), ⟨b1, 0, 0, 0⟩, AlLe.upd _ hfr _ _ (updA_same _ _ _), rfl⟩
          have := pushW_new w1 (.loop lp)
          rw [hsz1] at this; exact this
        have st12 := st1.trans (by rw [hn1]; exact hf.left (by rw [hnext]; omega)) st2
        have hyl : (updA (updA α s.next ⟨b1, 0, 0, 0⟩) (s.next + 1) ⟨b1 + 1, 0, 0, 0⟩) (s.next + 1) = some ⟨b1 + 1, 0, 0, 0⟩ := updA_same _ _ _
        obtain ⟨d, nx, w3, k1, k2, k3⟩ := m2 _ w2 (act.eval f) #[.func (.yield (b1 + 1)) #[] #[]] st12.rel (hg.mono st12.stp.le) st12.ok (st12.fresh (by rw [hnext] at hf; exact hf))
          ((evalO_rel hg ha.tm.2 f).mono st12.stp.le) (.cons (VRel.yld hyl) .nil)
        -- it enters
        have hfe := evalO_rel hg ha.tm.2 f
        rw [hfv] at hfe
        generalize hfx : act.eval f = f' at hfe k1
        cases hfe with
        | @func _ _ _ f1 c1 hy hff hcc =>
          have hd : d = { target := .fn (.func g) c1, args := f1 ++ #[.func (.yield (b1 + 1)) #[] #[]] } := by
            have : (Deferred.ofValue (.func (.func g) f1 c1) #[.func (.yield (b1 + 1)) #[] #[]] : Sem Deferred) = pure { target := .fn (.func g) c1, args := f1 ++ #[.func (.yield (b1 + 1)) #[] #[]] } := rfl
            rw [this] at k1
            injection k1 with k1; exact k1.symm
          have hinv : (invoke d.target d.args).run P w2 = .ok (.enter g (d.args ++ c1)) w2 := by
            rw [hd]; exact callFunc_enter hX hfn hfb _ w2
          rw [hinv] at k2
          injection k2 with k2 k2'
          subst k2; subst k2'
          refine ⟨b1 + 1, [{ target := .collected b1, args := #[] }], w2, d, w2, g, d.args ++ c1, w2, ?_, ?_, fun _ _ => trivial, hinv, fun hd => (by cases hd), ?_⟩
          · show (Instr.enterLoop fnid act.tmps ps assign body none).run P w = _
            unfold Instr.enterLoop
            simp only [Sem.run_bind, newObj_run, Result.andThen_ok, Sem.run_pure]
            show Result.ok (w1.heap.size, _) w2 = _
            rw [hsz1]
          · show (Deferred.ofValue (act.eval f) (#[Operand.const (.func (.yield (b1 + 1)) #[] #[])].map act.eval)).run P w2 = _
            rw [hfx]
            have : (#[Operand.const (.func (.yield (b1 + 1)) #[] #[])].map act.eval) = #[.func (.yield (b1 + 1)) #[] #[]] := by simp [Act.eval]
            rw [this, k1]; rfl
          · refine (callsIn_W k3).mono fun en w4 hk => ?_
            cases en <;> first | exact hk.elim | skip
            obtain ⟨β, q1, q2⟩ := hk
            have st13 := st12.trans (by rw [hnext] at hf; exact hf) q1
            have hLl : β (s.next + 1) = some ⟨b1 + 1, 0, 0, 0⟩ := q1.stp.le _ _ hyl
            have hLd : β s.next = some ⟨b1, 0, 0, 0⟩ := st13.stp.le.trans (AlLe.refl _) |> fun _ => q1.stp.le _ _ (st2.stp.le _ _ (updA_same _ _ _))
            obtain ⟨lq, g1, g2, g3, g4, g5, g6, g7, Ld, g8, g9⟩ := q1.rel.obj (s.next + 1) _ _ hLl hl
            have g1' : w4.heap[b1 + 1]? = some (.loop lq) := g1
            have hend : (Instr.endLoop (b1 + 1)).run P w4 = .ok pend { w4 with heap := w4.heap.setIfInBounds (b1 + 1) (.loop { lq with state := .exhausted }) } := by
              unfold Instr.endLoop Instr.getLoop
              have hnb : (lq.state == .busy) = false := by
                rw [g2]; cases st <;> first | rfl | exact absurd rfl hst
              simp only [Sem.run_bind, getObj_run g1' (by simp), Result.andThen_ok, hnb, Bool.false_eq_true, if_false, setObj_run g1' (by simp), Sem.run_pure, g3]
            have st4 : Step X β β s2 (setObj s2 (s.next + 1) (.loop tm N ps2 as2 bo2 .exhausted pend db)) w4 { w4 with heap := w4.heap.setIfInBounds (b1 + 1) (.loop { lq with state := .exhausted }) } := by
              refine step_obj (o' := .loop tm N ps2 as2 bo2 .exhausted pend db) (L := ⟨b1 + 1, 0, 0, 0⟩) (obj := .loop { lq with state := .exhausted }) q1.rel q1.ok hLl hl (by simp) rfl rfl rfl rfl rfl rfl ?_
              exact ⟨_, setAt g1', rfl, g3, g4, g5, g6, g7, Ld, g8, g9⟩
            have st14 := st13.trans (by rw [hnext] at hf; exact hf) st4
            refine ⟨pend, _, hend, ?_⟩
            rw [← hs'] at st14
            have hact : ActRel β a' { act with defers := [{ target := .collected b1, args := #[] }] ++ act.defers } := by
              rw [ha']
              exact ⟨ha.tm.mono st14.stp.le, .cons (.mark hLd) (ha.df.mono st14.stp.le)⟩
            have hx := exit_wp (P := P) (ro := none) (Q := Post X α s s' w e a') h'' ⟨rfl, β, st14, hact⟩
            cases pend with
            | none => exact hx.1 rfl
            | some c => exact hx.2 c rfl
end
end Go.Ev
namespace Go.Ev
open Go Go.Lib
section
variable {P : Program} {X : Env} {r : Rec}
theorem oneOf_rel {α : Al} {l : List AVal} {vs : Array Value} (h : VRels α l vs.toList) : VRel α (oneOf l) (if h : vs.size = 1 then vs[0] else .tuple vs) := by
  have hl := h.length
  simp only [Array.length_toList] at hl
  obtain ⟨vs⟩ := vs
  cases h with
  | nil => exact .tup .nil
  | cons h1 t =>
    cases t with
    | nil => exact h1
    | cons h2 t => exact .tup (.cons h1 (.cons h2 t))
def resF (tmps : Array Value) : ResultVar → Sem Value
  | .tmp t => pure (tmps.getD t undef)
  | .cell a t => do Go.loadVar t (← asAddr (tmps.getD a undef))
theorem resE_run (hX : EnvOk P X) {α : Al} {h : Tr AObj} {w : World} {tm : Tr AVal} {tmps : Array Value} (hr : Rel X α h.get w) (ht : ∀ t, VRel α (orUndef (tm.get t)) (tmps.getD t undef)) :
    ∀ {rs : List ResultVar} {l : List AVal}, resE X h tm rs = some l → ∃ vs : List Value, (rs.mapM (resF tmps)).run P w = .ok vs w ∧ VRels α l vs
  | [], l, he => by cases he; exact ⟨[], by simp, .nil⟩
  | x :: rs, l, he => by
    simp only [resE] at he
    cases hv : resV X h tm x with
    | none => rw [hv] at he; cases he
    | some v =>
      cases hl : resE X h tm rs with
      | none => rw [hv, hl] at he; cases he
      | some l1 =>
        rw [hv, hl] at he; cases he
        obtain ⟨vs, g1, g2⟩ := resE_run hX hr ht hl
        cases x with
        | tmp t =>
          cases hv
          refine ⟨tmps.getD t undef :: vs, ?_, .cons (ht t) g2⟩
          rw [List.mapM_cons, Sem.run_bind]
          simp only [resF, Sem.run_pure, Result.andThen_ok, Sem.run_bind]
          simp only [g1, Sem.run_pure, Result.andThen_ok]
        | cell a t =>
          have hv' : loadA (orUndef (tm.get a)) X h t = some v := hv
          have hav := ht a
          cases hx : orUndef (tm.get a) <;> rw [hx] at hv' hav <;> first | (cases hv'; done) | skip
          rename_i q off
          generalize hy : tmps.getD a undef = y at hav
          cases hav with
          | @ptr _ _ L hL =>
            obtain ⟨v', k1, k2⟩ := loadVar_run hX hr hL hv'
            refine ⟨v' :: vs, ?_, .cons k2 g2⟩
            rw [List.mapM_cons, Sem.run_bind]
            simp only [resF, hy, asAddr, Sem.run_bind, Sem.run_pure, Result.andThen_ok, k1]
            simp only [g1, Sem.run_pure, Result.andThen_ok]
theorem results_run (hX : EnvOk P X) {α : Al} {h : Tr AObj} {w : World} {tm : Tr AVal} {tmps : Array Value} {fn : Func} {l : List AVal} (hr : Rel X α h.get w) (ht : ∀ t, VRel α (orUndef (tm.get t)) (tmps.getD t undef)) (he : resE X h tm fn.results.toList = some l) :
    ∃ v, (results fn tmps).run P w = .ok v w ∧ VRel α (oneOf l) v := by
  obtain ⟨vs, g1, g2⟩ := resE_run hX hr ht he
  refine ⟨_, ?_, oneOf_rel (vs := vs.toArray) (by simpa using g2)⟩
  show (do let vs ← fn.results.mapM (resF tmps); pure (if h : vs.size = 1 then vs[0] else .tuple vs) : Sem Value).run P w = _
  rw [Sem.run_bind]
  have : (fn.results.mapM (resF tmps)).run P w = .ok vs.toArray w := by
    rw [← Array.toArray_toList (xs := fn.results), List.mapM_toArray, Sem.run_map, g1]; rfl
  rw [this]; rfl
theorem bodyOf_spec {g : Nat} {fn : Func} {c : Code} (h : bodyOf X g = some (fn, c)) : X.fn.get g = some fn ∧ fn.body = some c := by
  unfold bodyOf at h
  cases hf : X.fn.get g with
  | none => rw [hf] at h; cases h
  | some f =>
    simp only [hf] at h
    cases hb : f.body with
    | none => simp only [hb] at h; cases h
    | some c' => simp only [hb] at h; cases h; exact ⟨rfl, hb⟩
theorem initTm_get : ∀ (l : List AVal) (i : Nat) (t : Tr AVal) (q : Nat), (initTm l i t).get q = if i ≤ q ∧ q < i + l.length then l[q - i]? else t.get q
  | [], i, t, q => by
    show t.get q = _
    rw [if_neg (by intro h; simp at h; omega)]
  | v :: l, i, t, q => by
    show (initTm l (i + 1) (t.set i v)).get q = _
    rw [initTm_get l (i + 1)]
    by_cases h1 : i + 1 ≤ q ∧ q < i + 1 + l.length
    · rw [if_pos h1, if_pos (by simp; omega), show q - i = (q - (i + 1)) + 1 by omega, List.getElem?_cons_succ]
    · rw [if_neg h1, Tr.get_set]
      by_cases h2 : q = i
      · subst h2; rw [if_pos rfl, if_pos (by simp)]; simp
      · rw [if_neg h2, if_neg (by simp; omega)]
theorem actOf_rel {α : Al} {args : List AVal} {args' : Array Value} {N : Nat} (h : VRels α args args'.toList) (hN : args.length ≤ N) : ActRel α (actOf args N) { tmps := args' ++ Array.replicate (N - args'.size) undef, defers := [] } := by
  have hl := h.length
  simp only [Array.length_toList] at hl
  refine ⟨⟨?_, fun t => ?_⟩, .nil⟩
  · show (args' ++ Array.replicate (N - args'.size) undef).size = N
    simp; omega
  · show VRel α (orUndef ((initTm args 0 .nil).get t)) ((args' ++ Array.replicate (N - args'.size) undef).getD t undef)
    rw [initTm_get, Array.getD_eq_getD_getElem?, Array.getElem?_append]
    by_cases ht : t < args.length
    · rw [if_pos (by omega), if_pos (by omega), Nat.sub_zero]
      have h1 : args[t]? = some args[t] := List.getElem?_eq_getElem ht
      obtain ⟨v, h2, h3⟩ := h.get h1
      rw [h1]
      have h4 : args'[t]? = some v := by rw [← Array.getElem?_toList]; exact h2
      rw [h4]; exact h3
    · rw [if_neg (by omega), if_neg (by omega)]
      have : (((Array.replicate (N - args'.size) undef)[t - args'.size]?).getD undef) = undef := by
        rw [Array.getElem?_replicate]; split <;> rfl
      rw [this]; exact .undef α
theorem leaves_run (hX : EnvOk P X) (hc : CodeOk P X r) {fn : Func} {tmps : Array Value} {R : Ending → World → Prop} : ∀ (ds : List (AVal × List AVal)) (s s' : St), runD X r ds s = some s' → s.next ≤ s'.next ∧
    ∀ α w dds, Rel X α s.heap.get w → Glob α → Ok s → Fresh α s.next s'.next → DRels α ds dds → (∀ β w2, Step X α β s s' w w2 → LeavesIn Fence.wide 0 P fn tmps R [] .returning w2) → LeavesInM Fence.wide 0 P fn tmps R dds .returning w
  | [], s, s', h => by
    cases h
    refine ⟨Nat.le_refl _, fun α w dds hr hg ho hf hd hR => ?_⟩
    cases hd
    exact hR α w (Step.refl hr ho)
  | (f, args) :: ds, s, s', h => by
    simp only [runD] at h
    cases h1 : oneD X r args s f with
    | none => rw [h1] at h; cases h
    | some s1 =>
      rw [h1] at h
      obtain ⟨n1, n2⟩ := leaves_run (fn := fn) (tmps := tmps) (R := R) hX hc ds s1 s' h
      cases f <;> first | (cases h1; done) | skip
      · rename_i fv first cap
        cases fv <;> first | (cases h1; done) | skip
        rename_i g
        have h1' : fnD r s (first ++ args ++ cap) (bodyOf X g) = some s1 := h1
        cases hb : bodyOf X g with
        | none => rw [hb] at h1'; cases h1'
        | some q =>
          obtain ⟨fn2, c⟩ := q
          rw [hb] at h1'
          obtain ⟨hf1, hf2⟩ := bodyOf_spec hb
          simp only [fnD, brec] at h1'
          cases hres : fn2.results.toList with
          | cons x l => rw [hres] at h1'; cases h1'
          | nil =>
            rw [hres] at h1'
            simp only at h1'
            cases hle : Nat.ble (len (first ++ args ++ cap)) fn2.ntmps
            · rw [hle] at h1'; cases h1'
            · rw [hle] at h1'
              have hle' := Nat.le_of_ble_eq_true hle
              rw [len_eq] at hle'
              simp only [cond_true] at h1'
              cases hcode : r.code c (actOf (first ++ args ++ cap) fn2.ntmps) s with
              | none => rw [hcode] at h1'; cases h1'
              | some q =>
                obtain ⟨e, a1, s2⟩ := q
                rw [hcode] at h1'
                obtain ⟨tm1, N1, df1, rn1⟩ := a1
                cases df1 with
                | cons x l => cases h1'
                | nil =>
                  simp only [leftD, brec] at h1'
                  cases hlv : leaves e
                  · rw [hlv] at h1'; cases h1'
                  · rw [hlv] at h1'; cases h1'
                    obtain ⟨m1, m2, m3, j, m4⟩ := hc _ _ _ _ _ _ hcode
                    refine ⟨Nat.le_trans m1 n1, fun α w dds hr hg ho hf hd hR => ?_⟩
                    cases hd with
                    | @cons _ d _ dds' hd1 hdt =>
                      cases hd1 with
                      | @fn _ _ _ _ first' cap' args' q1 q2 q3 =>
                        have hargs : VRels α (first ++ args ++ cap) ((first' ++ args') ++ cap').toList := by
                          simp only [Array.toList_append]; exact (q1.append q3).append q2
                        refine ⟨by simp, .inr ⟨fun hd => (by cases hd), .func g, cap', g, (first' ++ args') ++ cap', rfl, callFunc_enter hX hf1 hf2 _ w, fun _ _ => trivial, ?_⟩⟩
                        have hwp := (m4 none rfl α w _ hr hg ho (hf.left n1) (actOf_rel hargs hle')).wp
                        refine (callsDIn_of_wp (R := fun e w' => (∃ v, e = .returned v) ∧ ∃ β, Step X α β s s1 w w') (hX.fn g fn2 hf1).1 hf2 trivial (wpIn_mono hwp fun e1 act1 w1 hp => ?_)).mono fun en u' w' hk => ?_
                        · obtain ⟨hp1, β, hp2, hp3⟩ := hp
                          subst hp1
                          have hdf : act1.defers = [] := by have := hp3.df; cases act1; cases this; rfl
                          have hrs : (results fn2 act1.tmps).run P w1 = .ok (.tuple #[]) w1 := by
                            unfold results
                            have : fn2.results = #[] := Array.toList_inj.1 hres
                            rw [this]; simp
                          cases e <;> first | exact ⟨hdf, _, hrs, ⟨_, rfl⟩, β, hp2⟩ | cases hlv
                        · obtain ⟨rfl, ⟨v, rfl⟩, β, hst⟩ := hk
                          exact n2 β w' dds' hst.rel (hg.mono hst.stp.le) hst.ok (hst.fresh hf) (hdt.mono hst.stp.le) fun γ w2 st2 => hR γ w2 (hst.trans hf st2)
      · rename_i b
        have h1' : takeO s b (s.heap.get b) = some s1 := h1
        cases hb : s.heap.get b with
        | none => rw [hb] at h1'; cases h1'
        | some o =>
          rw [hb] at h1'
          cases o <;> first | (cases h1'; done) | skip
          rename_i tk
          cases tk
          · cases h1'
            refine ⟨n1, fun α w dds hr hg ho hf hd hR => ?_⟩
            cases hd with
            | @cons _ d _ dds' hd1 hdt =>
              cases hd1 with
              | @mark _ L hL =>
                have hob : w.heap[L.b]? = some (.deferred (some [])) := hr.obj b L _ hL hb
                have hst : Step X α α s (setObj s b (.deferred true)) w { w with heap := w.heap.setIfInBounds L.b (.deferred none) } :=
                  step_obj (o' := .deferred true) (obj := .deferred none) hr ho hL hb (by simp) rfl rfl rfl rfl rfl rfl (setAt hob)
                refine ⟨by simp, .inl ⟨L.b, { w with heap := w.heap.setIfInBounds L.b (.deferred none) }, rfl, ?_, ?_⟩⟩
                · unfold Instr.takeDeferred
                  simp only [Sem.run_bind, getObj_run hob (by simp), Result.andThen_ok, setObj_run hob (by simp), Sem.run_pure]
                · exact n2 α _ dds' hst.rel hg hst.ok (hst.fresh hf) hdt fun γ w2 st2 => hR γ w2 (hst.trans hf st2)
          · cases h1'
end
end Go.Ev
namespace Go.Ev
open Go Go.Lib
section
variable {P : Program} {X : Env} {r : Rec}
theorem fnF_run (hX : EnvOk P X) (hc : CodeOk P X r) {g : Nat} {args : List AVal} {s s' : St} {v : AVal} (h : runF X r g args s = some (v, s')) : s.next ≤ s'.next ∧ ∃ fn c, X.fn.get g = some fn ∧ fn.body = some c ∧
    ∀ α w (args' : Array Value), Rel X α s.heap.get w → Glob α → Ok s → Fresh α s.next s'.next → VRels α args args'.toList → CallsIn Fence.wide 0 P g args' w (RetK fun v' w' => ∃ β, Step X α β s s' w w' ∧ VRel β v v') := by
  unfold runF at h
  cases hb : bodyOf X g with
  | none => rw [hb] at h; cases h
  | some q =>
    obtain ⟨fn, c⟩ := q
    rw [hb] at h
    obtain ⟨hf1, hf2⟩ := bodyOf_spec hb
    simp only [fnF, brec] at h
    cases hle : Nat.ble (len args) fn.ntmps
    · rw [hle] at h; cases h
    · rw [hle] at h
      have hle' := Nat.le_of_ble_eq_true hle
      rw [len_eq] at hle'
      simp only [cond_true] at h
      cases hcode : r.code c (actOf args fn.ntmps) s with
      | none => rw [hcode] at h; cases h
      | some q =>
        obtain ⟨e, a1, s1⟩ := q
        rw [hcode] at h
        simp only [leftF, brec] at h
        cases hlv : leaves e
        · rw [hlv] at h; cases h
        · rw [hlv] at h
          simp only [cond_true] at h
          cases hd : runD X r a1.defers s1 with
          | none => rw [hd] at h; cases h
          | some s2 =>
            rw [hd] at h
            simp only [endF] at h
            cases hres : resE X s2.heap a1.tm fn.results.toList with
            | none => rw [hres] at h; cases h
            | some l =>
              rw [hres] at h
              cases h
              obtain ⟨m1, m2, m3, j, m4⟩ := hc _ _ _ _ _ _ hcode
              have n1 := (leaves_run (fn := fn) (tmps := #[]) (R := fun _ _ => True) hX hc _ _ _ hd).1
              refine ⟨Nat.le_trans m1 n1, fn, c, hf1, hf2, fun α w args' hr hg ho hf hargs => ?_⟩
              have hwp := (m4 none rfl α w _ hr hg ho (hf.left n1) (actOf_rel hargs hle')).wp
              refine callsIn_of_wp_marks (hX.fn g fn hf1).1 hf2 trivial (wpIn_mono hwp fun e1 act1 w1 hp => ?_)
              obtain ⟨hp1, β, hp2, hp3⟩ := hp
              subst hp1
              have hl : LeavesInM Fence.wide 0 P fn act1.tmps (RetK fun v' w' => ∃ β, Step X α β s s' w w' ∧ VRel β (oneOf l) v') act1.defers .returning w1 := by
                refine (leaves_run hX hc _ _ _ hd).2 β w1 act1.defers hp2.rel (hg.mono hp2.stp.le) hp2.ok (hp2.fresh hf) hp3.df fun γ w2 st2 => ?_
                obtain ⟨v', k1, k2⟩ := results_run (P := P) (fn := fn) hX st2.rel (fun t => (hp3.tm.2 t).mono st2.stp.le) hres
                exact ⟨v', k1, γ, hp2.trans hf st2, k2⟩
              cases e <;> first | exact hl | cases hlv
theorem bindPs_run {α : Al} {N : Nat} : ∀ {ps : List Nat} {vs : List AVal} {vs' : List Value} {tm tm' : Tr AVal} {tmps : Array Value}, bindPs ps vs N tm = some tm' → VRels α vs vs' → TmRel α tm N tmps →
    ps.length = vs'.length ∧ TmRel α tm' N ((ps.zip vs').foldl (fun tmps (t, a) => tmps.setIfInBounds t a) tmps)
  | [], [], _, tm, tm', tmps, h, hv, ht => by cases h; cases hv; exact ⟨rfl, ht⟩
  | [], _ :: _, _, tm, tm', tmps, h, hv, ht => by cases h
  | _ :: _, [], _, tm, tm', tmps, h, hv, ht => by cases h
  | p :: ps, v :: vs, v' :: vs', tm, tm', tmps, h, .cons h1 h2, ht => by
    simp only [bindPs, brec] at h
    cases hb : Nat.ble (p + 1) N
    · rw [hb] at h; cases h
    · rw [hb] at h
      have hlt := Nat.le_of_ble_eq_true hb
      have ht1 : TmRel α (tm.set p v) N (tmps.setIfInBounds p v') := by
        have := put_rel (a := { tm := tm, N := N, defers := [], rnd := false }) (a' := { tm := tm.set p v, N := N, defers := [], rnd := false }) (act := { tmps := tmps, defers := [] }) (d := some p) ⟨ht, .nil⟩ h1 (by simp only [putE, hb])
        exact this.tm
      obtain ⟨k1, k2⟩ := bindPs_run h h2 ht1
      exact ⟨by simp [k1], k2⟩
theorem jump_end {l : Nat} {lp : Loop} {w : World} (hg : w.heap[l]? = some (.loop lp)) (j : Option Code) : (Instr.endRound l j).run P w = .ok (.bool j.isNone) { w with heap := w.heap.setIfInBounds l (.loop { lp with state := if j.isNone then .ready else .done, pending := j }) } := by
  unfold Instr.endRound Instr.getLoop
  simp only [Sem.run_bind, getObj_run hg (by simp), Result.andThen_ok, setObj_run hg (by simp), Sem.run_pure]
theorem round_post {l : Nat} {e : AExit} {act : Go.Act} {w : World} {R : Ending → World → Prop} (h : ∃ v w', (Instr.endRound l (jumpOf e)).run P w = .ok v w' ∧ R (.returned v) w') : roundPost P l R (exitOf e) act w := by
  cases e <;> exact h
theorem yield_run (hX : EnvOk P X) (hc : CodeOk P X r) {l : Nat} {args : List AVal} {s s' : St} {v : AVal} (h : yieldE r l args s = some (v, s')) : s.next ≤ s'.next ∧
    ∀ α w (args' : Array Value) L, Rel X α s.heap.get w → Glob α → Ok s → Fresh α s.next s'.next → α l = some L → VRels α args args'.toList →
      ∃ nx, (Instr.yield L.b args').run P w = .ok nx w ∧ Gets P nx w (fun v' w' => ∃ β, Step X α β s s' w w' ∧ VRel β v v') := by
  unfold yieldE at h
  cases hl : s.heap.get l with
  | none => rw [hl] at h; cases h
  | some o =>
    rw [hl] at h
    cases o <;> first | (cases h; done) | skip
    rename_i tm N ps assign body st pend db
    simp only [yieldO] at h
    cases hb : bindPs ps args N tm with
    | none => rw [hb] at h; cases h
    | some tm' =>
      rw [hb] at h
      simp only [bindY] at h
      cases hca : r.code assign { tm := tm', N, defers := [], rnd := true } s with
      | none => rw [hca] at h; cases h
      | some q =>
        obtain ⟨e1, a1, s1⟩ := q
        rw [hca] at h
        cases e1 <;> first | (cases h; done) | skip
        simp only [asgY] at h
        cases hl1 : s1.heap.get l with
        | none => rw [hl1] at h; cases h
        | some o1 =>
          rw [hl1] at h
          cases o1 <;> first | (cases h; done) | skip
          rename_i tm1 N1 ps1 as1 bo1 st1 pend1 db1
          cases st1 <;> first | (cases h; done) | skip
          simp only [openY, thenY] at h
          cases hcb : r.code body a1 (setObj s1 l (.loop tm1 N1 ps1 as1 bo1 .busy pend1 db1)) with
          | none => rw [hcb] at h; cases h
          | some q =>
            obtain ⟨e2, a2, s2⟩ := q
            rw [hcb] at h
            obtain ⟨tm3, N3, df3, rn3⟩ := a2
            cases df3 with
            | cons x y => cases h
            | nil =>
              simp only [bodyY] at h
              cases hl2 : s2.heap.get l with
              | none => rw [hl2] at h; cases h
              | some o2 =>
                rw [hl2] at h
                cases o2 <;> first | (cases h; done) | skip
                rename_i tm2 N2 ps2 as2 bo2 st2 pend2 db2
                cases st2 <;> first | (cases h; done) | skip
                have hfin : v = .bool (jumpOf e2).isNone ∧ s' = setObj s2 l (.loop tm2 N2 ps2 as2 bo2 (if (jumpOf e2).isNone then .ready else .done) (jumpOf e2) db2) := by
                  cases e2 <;> (cases h; exact ⟨rfl, rfl⟩)
                obtain ⟨hv, hs'⟩ := hfin
                obtain ⟨m1, m2, m3, j1, m4⟩ := hc _ _ _ _ _ _ hca
                obtain ⟨n1, n2, n3, j2, n4⟩ := hc _ _ _ _ _ _ hcb
                have hnext : s'.next = s2.next := by rw [hs']; rfl
                have n1' : s1.next ≤ s2.next := n1
                refine ⟨by rw [hnext]; exact Nat.le_trans m1 n1', fun α w args' L hr hg ho hf hL hargs => ?_⟩
                obtain ⟨lp, g1, g2, g3, g4, g5, g6, g7, Ld, g8, g9⟩ := hr.obj l L _ hL hl
                obtain ⟨b1, b2⟩ := bindPs_run hb hargs g7
                have g1' : w.heap[L.b]? = some (.loop lp) := g1
                have hsize : args'.size = lp.params.size := by
                  rw [← g4] at b1; simpa using b1.symm
                refine ⟨.round L.b lp.fn ((lp.params.zip args').foldl (fun tmps (t, a) => tmps.setIfInBounds t a) lp.tmps) lp.assign lp.body, ?_, ?_⟩
                · unfold Instr.yield Instr.getLoop
                  simp only [Sem.run_bind, getObj_run g1' (by simp), Result.andThen_ok, Sem.run_pure, hsize, ne_eq, not_true_eq_false, if_false]
                · rw [g5, g6]
                  refine roundIn_of_wpIn trivial ?_
                  have htm : TmRel α tm' N ((lp.params.zip args').foldl (fun tmps (t, a) => tmps.setIfInBounds t a) lp.tmps) := by
                    rw [← Array.foldl_toList, Array.toList_zip, g4]; exact b2
                  have hwp := (m4 (some L.b) rfl α w { tmps := (lp.params.zip args').foldl (fun tmps (t, a) => tmps.setIfInBounds t a) lp.tmps, defers := [] } hr hg ho (hf.left (by rw [hnext]; exact n1')) ⟨htm, .nil⟩).wp
                  refine wpIn_mono hwp fun e1 act1 w1 ⟨p1, β, p2, p3⟩ => ?_
                  subst p1
                  have hL1 : β l = some L := p2.stp.le _ _ hL
                  obtain ⟨lp1, q1, q2, q3, q4, q5, q6, q7, Ld1, q8, q9⟩ := p2.rel.obj l L _ hL1 hl1
                  have q1' : w1.heap[L.b]? = some (.loop lp1) := q1
                  have stb : Step X β β s1 (setObj s1 l (.loop tm1 N1 ps1 as1 bo1 .busy pend1 db1)) w1 { w1 with heap := w1.heap.setIfInBounds L.b (.loop { lp1 with state := .busy }) } := by
                    refine step_obj (o' := .loop tm1 N1 ps1 as1 bo1 .busy pend1 db1) (obj := .loop { lp1 with state := .busy }) p2.rel p2.ok hL1 hl1 (by simp) rfl rfl rfl rfl rfl rfl ?_
                    exact ⟨_, setAt q1', rfl, q3, q4, q5, q6, q7, Ld1, q8, q9⟩
                  refine ⟨{ w1 with heap := w1.heap.setIfInBounds L.b (.loop { lp1 with state := .busy }) }, ?_, ?_⟩
                  · unfold Instr.beginRound Instr.getLoop
                    simp only [Sem.run_bind, getObj_run q1' (by simp), Result.andThen_ok, setObj_run q1' (by simp), Sem.run_pure, q2, lstOf]
                  · have f1 : Fresh α s.next s2.next := by rw [← hnext]; exact hf
                    have st1b := p2.trans (s2 := setObj s1 l (.loop tm1 N1 ps1 as1 bo1 .busy pend1 db1)) (f1.left n1') stb
                    have hwp2 := (n4 (some L.b) (by rw [m3]; rfl) β _ act1 stb.rel (hg.mono p2.stp.le) stb.ok (st1b.fresh f1) p3).wp
                    refine wpIn_mono hwp2 fun e3 act3 w3 ⟨r1, γ, r2, r3⟩ => ?_
                    subst r1
                    have hL2 : γ l = some L := r2.stp.le _ _ hL1
                    obtain ⟨lp2, t1, t2, t3, t4, t5, t6, t7, Ld2, t8, t9⟩ := r2.rel.obj l L _ hL2 hl2
                    have t1' : w3.heap[L.b]? = some (.loop lp2) := t1
                    refine round_post ⟨_, _, jump_end t1' (jumpOf e2), ?_⟩
                    have stc : Step X γ γ s2 s' w3 { w3 with heap := w3.heap.setIfInBounds L.b (.loop { lp2 with state := if (jumpOf e2).isNone then .ready else .done, pending := jumpOf e2 }) } := by
                      rw [hs']
                      refine step_obj (o' := .loop tm2 N2 ps2 as2 bo2 (if (jumpOf e2).isNone then .ready else .done) (jumpOf e2) db2) (obj := .loop { lp2 with state := if (jumpOf e2).isNone then .ready else .done, pending := jumpOf e2 }) r2.rel r2.ok hL2 hl2 (by simp) rfl rfl rfl rfl rfl rfl ?_
                      refine ⟨_, setAt t1', ?_, rfl, t4, t5, t6, t7, Ld2, t8, t9⟩
                      cases (jumpOf e2) <;> rfl
                    refine ⟨γ, ((st1b.trans f1 r2).trans hf stc), ?_⟩
                    rw [hv]; exact .bool _
end
end Go.Ev
namespace Go.Ev
open Go Go.Lib
/-- the functions without a Go body do what the evaluator says -/
def ExtOk (P : Program) (X : Env) (xt : Tr Ext) : Prop := ∀ g x, xt.get g = some x → ∀ args s v s', extE x args s = some (v, s') → s.next ≤ s'.next ∧
  ∀ α w (args' : Array Value), Rel X α s.heap.get w → Glob α → Ok s → Fresh α s.next s'.next → VRels α args args'.toList → ∃ v' w' β, (callFunc g args').run P w = .ok (.value v') w' ∧ Step X α β s s' w w' ∧ VRel β v v'
section
variable {P : Program} {X : Env} {r : Rec} {xt : Tr Ext}
theorem sound_code (hX : EnvOk P X) (hc : CallOk P X r) (hr : CodeOk P X r) : ∀ c : Code, Sound P X r c := by
  have leaf : ∀ (c : Code) (e : AExit) (hev : ∀ a s, evC c X r a s = some (e, a, s)) (hwp : ∀ ro (Q : Exit → Go.Act → World → Prop) act w, Q (exitOf e) act w → CodeWp ro P 0 c Q act w), Sound P X r c := by
    intro c e hev hwp a s e' a' s' h
    rw [hev] at h; cases h
    exact ⟨Nat.le_refl _, rfl, rfl, 0, fun ro hro α w act hr hg ho hf ha => hwp ro _ act w ⟨rfl, α, Step.refl hr ho, ha⟩⟩
  intro c
  induction c with
  | skip => exact leaf _ .normal (fun _ _ => rfl) fun ro Q act w h => wpIn_skip h
  | region id ops d =>
    intro a s e a' s' h
    cases d
    · have h' : outN (seqE ops.toList ops.toList X r a s) = some (e, a', s') := h
      cases hq : seqE ops.toList ops.toList X r a s with
      | none => rw [hq] at h'; cases h'
      | some q =>
        obtain ⟨a1, s1⟩ := q
        rw [hq] at h'; cases h'
        obtain ⟨m1, m2, m3, m4⟩ := region_run (P := P) (id := id) hX hc hq
        exact ⟨m1, m2, m3, 0, fun ro hro α w act hr hg ho hf ha => m4 ro hro α w act hr hg ho hf ha⟩
    · have h' : outN (drawE X r ops.toList a s) = some (e, a', s') := h
      cases hq : drawE X r ops.toList a s with
      | none => rw [hq] at h'; cases h'
      | some q =>
        obtain ⟨a1, s1⟩ := q
        rw [hq] at h'; cases h'
        obtain ⟨m1, m2, m3, m4⟩ := draw_run (P := P) (id := id) hX hc hq
        exact ⟨m1, m2, m3, 0, fun ro hro α w act hr hg ho hf ha => m4 ro hro α w act hr hg ho hf ha⟩
  | seq x y hx hy => exact sound_seq hx hy
  | cond c x y hx hy => exact sound_cond hx hy
  | block id x hx => exact sound_block hx
  | loop x hx => exact sound_loop hr hx
  | rangeFunc f ps assign body _ _ => exact sound_range hX hc
  | exit i => exact leaf _ (.exit i) (fun _ _ => rfl) fun ro Q act w h => wpIn_exit h
  | scope x hx => exact sound_scope hx
  | label l => exact leaf _ .normal (fun _ _ => rfl) fun ro Q act w h => wpIn_label h
  | goto l => exact leaf _ (.goto l) (fun _ _ => rfl) fun ro Q act w h => wpIn_goto h
  | ret => exact leaf _ .ret (fun _ _ => rfl) fun ro Q act w h => wpIn_ret h
  | refuse m => intro a s e a' s' h; cases h
theorem callOk_step (hX : EnvOk P X) (hxt : ExtOk P X xt) (hc : CallOk P X r) (hr : CodeOk P X r) : CallOk P X (stepE X xt r) := fun f args s v s' h => by
  have h' : callE X xt r f args s = some (v, s') := h
  cases f <;> first | (cases h'; done) | skip
  · rename_i fn first cap
    cases fn <;> first | (cases h'; done) | skip
    · rename_i g
      have hval : ∀ (f1 c1 args' : Array Value), (Deferred.ofValue (.func (.func g) f1 c1) args' : Sem Deferred) = pure { target := .fn (.func g) c1, args := f1 ++ args' } := fun _ _ _ => rfl
      have hrel : ∀ {α : Al} {f1 c1 args' : Array Value}, VRels α first f1.toList → VRels α cap c1.toList → VRels α args args'.toList → VRels α (first ++ args ++ cap) ((f1 ++ args') ++ c1).toList := fun h1 h2 h3 => by
        simp only [Array.toList_append]; exact (h1.append h3).append h2
      simp only [callE] at h'
      cases hx : xt.get g with
      | some e =>
        rw [hx] at h'
        obtain ⟨m1, m2⟩ := hxt g e hx _ _ _ _ h'
        refine ⟨m1, fun α w f' args' hr1 hg ho hf hfv hargs => ?_⟩
        cases hfv with
        | @func _ _ _ f1 c1 hy h1 h2 =>
          obtain ⟨v', w', β, k1, k2, k3⟩ := m2 α w ((f1 ++ args') ++ c1) hr1 hg ho hf (hrel h1 h2 hargs)
          exact ⟨_, _, w', hval f1 c1 args', k1, β, k2, k3⟩
      | none =>
        rw [hx] at h'
        obtain ⟨m1, fn, c, hf1, hf2, m2⟩ := fnF_run hX hr h'
        refine ⟨m1, fun α w f' args' hr1 hg ho hf hfv hargs => ?_⟩
        cases hfv with
        | @func _ _ _ f1 c1 hy h1 h2 =>
          exact ⟨_, _, w, hval f1 c1 args', callFunc_enter hX hf1 hf2 _ w, m2 α w ((f1 ++ args') ++ c1) hr1 hg ho hf (hrel h1 h2 hargs)⟩
    · rename_i name
      cases first with
      | nil => cases h'
      | cons recv first =>
        simp only [callE] at h'
        obtain ⟨m1, m2⟩ := callM_run hX hc h'
        refine ⟨m1, fun α w f' args' hr1 hg ho hf hfv hargs => ?_⟩
        cases hfv with
        | @func _ _ _ f1 c1 hy h1 h2 =>
          obtain ⟨f1⟩ := f1
          cases h1 with
          | @cons _ recv' _ fl hrec hfl =>
            have hval : (Deferred.ofValue (.func (.method name) (recv' :: fl).toArray c1) args' : Sem Deferred) = pure { target := .fn (.method name) c1, args := (recv' :: fl).toArray ++ args' } := rfl
            obtain ⟨nx, w1, k1, k2⟩ := m2 α w recv' (fl.toArray ++ args') hr1 hg ho hf hrec (by simp only [Array.toList_append]; exact hfl.append hargs)
            refine ⟨_, nx, w1, hval, ?_, k2⟩
            have e0 : ((recv' :: fl).toArray ++ args')[0]? = some recv' := by rw [Array.getElem?_append_left (by simp)]; simp
            have e1 : ((recv' :: fl).toArray ++ args').extract 1 ((recv' :: fl).toArray ++ args').size = fl.toArray ++ args' := by
              apply Array.toList_inj.1
              simp [List.take_of_length_le]
            simp only [invoke, e0, e1, k1]
  · rename_i l
    obtain ⟨m1, m2⟩ := yield_run hX hr h'
    refine ⟨m1, fun α w f' args' hr1 hg ho hf hfv hargs => ?_⟩
    cases hfv with
    | @yld _ L hL =>
      obtain ⟨nx, k1, k2⟩ := m2 α w args' L hr1 hg ho hf hL hargs
      refine ⟨{ target := .fn (.yield L.b) #[], args := #[] ++ args' }, nx, w, rfl, ?_, k2⟩
      simpa [invoke] using k1
theorem step_ok (hX : EnvOk P X) (hxt : ExtOk P X xt) (hc : CallOk P X r) (hr : CodeOk P X r) : CallOk P X (stepE X xt r) ∧ CodeOk P X (stepE X xt r) :=
  ⟨callOk_step hX hxt hc hr, fun c a s e a' s' h => sound_code hX hc hr c a s e a' s' h⟩
theorem evN_ok (hX : EnvOk P X) (hxt : ExtOk P X xt) : ∀ n, CallOk P X (evN X xt n) ∧ CodeOk P X (evN X xt n)
  | 0 => ⟨fun f args s v s' h => (by cases h), fun c a s e a' s' h => (by cases h)⟩
  | n + 1 => let ⟨h1, h2⟩ := evN_ok hX hxt n; step_ok hX hxt h1 h2
/-- WHAT THE EVALUATOR SAYS OF A CALL IS SO. -/
theorem evN_calls (hX : EnvOk P X) (hxt : ExtOk P X xt) {n g : Nat} {fn : Func} {c : Code} {args : List AVal} {args' : Array Value} {s s' : St} {v : AVal} {α : Al} {w : World} (hg : X.fn.get g = some fn) (hb : fn.body = some c) (h : (evN X xt n).call (.func (.func g) [] []) args s = some (v, s'))
    (hr : Rel X α s.heap.get w) (hgl : Glob α) (ho : Ok s) (hf : Fresh α s.next s'.next) (hargs : VRels α args args'.toList) :
    Calls P g args' w fun e w' => ∃ v' β, e = .returned v' ∧ VRel β v v' ∧ Step X α β s s' w w' := by
  obtain ⟨_, m⟩ := (evN_ok hX hxt n).1 _ _ _ _ _ h
  obtain ⟨d, nx, w1, k1, k2, k3⟩ := m α w (.func (.func g) #[] #[]) args' hr hgl ho hf (.func (fun l e => by cases e) .nil .nil) hargs
  have hd : d = { target := .fn (.func g) #[], args := #[] ++ args' } := by
    have : (Deferred.ofValue (.func (.func g) #[] #[]) args' : Sem Deferred) = pure { target := .fn (.func g) #[], args := #[] ++ args' } := rfl
    rw [this] at k1; injection k1 with k1; exact k1.symm
  subst hd
  have hinv : (invoke (.fn (.func g) #[]) (#[] ++ args')).run P w = .ok (.enter g args') w := by
    have := callFunc_enter hX hg hb ((#[] ++ args') ++ #[]) w
    simpa [invoke] using this
  rw [hinv] at k2
  injection k2 with k2 k2'
  subst k2; subst k2'
  refine callsIn_wide.1 (CallsIn.mono k3 fun e w' he => ?_)
  cases e <;> first | exact he.elim | skip
  obtain ⟨β, h1, h2⟩ := he
  exact ⟨_, β, rfl, h2, h1⟩
end
end Go.Ev
