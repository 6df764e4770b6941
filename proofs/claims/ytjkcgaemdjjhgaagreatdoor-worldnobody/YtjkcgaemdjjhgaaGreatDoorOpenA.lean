/-
  What the row's list and the arguments' readings give.
-/
import Derived.Test.YtjkcgaemdjjhgaaGreatDoorWalkD
import Derived.Test.YtjkcgaemdjjhgaaGreatDoorWitB
import Derived.Test.YtjkcgaemdjjhgaaGreatDoorFactF
import Derived.Deep.Slices
import Derived.WideKeyArgs
import Derived.Lib.LaidTab
set_option maxRecDepth 100000
namespace Go.Proofs.YtjkcgaemdjjhgaaGreatDoor
open Go.ChangeShapes Go.WideShapes Go.ChangeAt Go.RowKit Go.Deep
theorem own : ownKnob Tryz.prog.godebug = none := by kernel_rfl
theorem gNib : Tryz.prog.globalNamed "tender/check.nibble" = some 1 := by kernel_rfl
theorem laidOut : laidOutB Tryz.prog = true := j1
theorem cells3 : Tryz.prog.cellsOf 3 = 1 := by kernel_rfl
theorem cells9 : Tryz.prog.cellsOf 9 = 1 := by kernel_rfl
theorem cells22 : Tryz.prog.cellsOf 22 = 1 := by kernel_rfl
theorem cells23 : Tryz.prog.cellsOf 23 = 1 := by kernel_rfl
theorem cells25 : Tryz.prog.cellsOf 25 = 4 := by kernel_rfl
theorem cells26 : Tryz.prog.cellsOf 26 = 1 := by kernel_rfl
theorem cells27 : Tryz.prog.cellsOf 27 = 1 := by kernel_rfl
theorem cells29 : Tryz.prog.cellsOf 29 = 11 := by kernel_rfl
theorem cells49 : Tryz.prog.cellsOf 49 = 2 := by kernel_rfl
theorem nibTy : (Tryz.prog.globals[1]?).map (·.type) = some 385 := by kernel_rfl
theorem cells385 : Tryz.prog.cellsOf 385 = 16 := by kernel_rfl
/-- what the row's list gives -/
theorem nib_at {W : World} (h : laidMetH Tryz.prog Rows.worldNobodyRow.laid W) : NibAt W := by
  have h1 : laidMet Tryz.prog (Rows.worldNobodyRow.laid.filter fun x => x.2.handleName?.isNone) W := by
    unfold laidMetH at h
    have e : (Rows.worldNobodyRow.laid.filter fun x => x.2.handleName?.isSome) = [("errors.errorType", Rows.laid_errors_errorType)] := by kernel_rfl
    rw [e] at h
    exact h.1
  have e2 : (Rows.worldNobodyRow.laid.filter fun x => x.2.handleName?.isNone) = ("tender/check.nibble", Lib.tabData .u32 [0, 274646895, 549293790, 820201905, 1098587580, 1361435347, 1640403810, 1905808397, 2197175160, 2460548119, 2722870694, 2987750089, 3280807620, 3553878443, 3811616794, 4084100981]) :: (Rows.worldNobodyRow.laid.filter fun x => x.2.handleName?.isNone).tail := by kernel_rfl
  rw [e2] at h1
  have ht := Lib.tabIs_of_head (t := 385) (e := 22) gNib nibTy Tryz.underlying385 Tryz.underlying22 cells22 cells385 h1
  obtain ⟨ps, ⟨g, t, cs, fuel, p, q, hg, hty, hvar, hd, _, rfl⟩, _, hc⟩ := h1
  obtain rfl := Option.some.inj (gNib.symm.trans hg)
  unfold Lib.TabIs at ht
  rw [hvar] at ht
  have hcs := Option.some.inj ht
  have hmem : MemPlace.cell 1 0 ∈ MemPlace.row ⟨1, 0, none⟩ cs.size ++ p ++ q := by
    refine List.mem_append_left _ (List.mem_append_left _ (MemPlace.mem_row.2 ⟨0, ?_, rfl⟩))
    rw [hcs]; decide
  obtain ⟨⟨c, ty, hblk⟩, _⟩ := hc 1 0 hmem
  refine ⟨ty, ?_⟩
  unfold World.var? at hvar
  rw [gNib] at hvar
  simp only [Option.bind_some, hblk, Option.some.injEq] at hvar
  rw [hblk, hvar, hcs]; rfl
end Go.Proofs.YtjkcgaemdjjhgaaGreatDoor
namespace Go.Proofs.YtjkcgaemdjjhgaaGreatDoor
open Go.ChangeShapes Go.WideShapes Go.ChangeAt Go.RowKit Go.Deep
theorem same_at {W W' : World} (h : Go.Ev.Same W W') : ∀ x : MemPlace, x.block < W.heap.size → W.sameAt W' x
  | .cell b off, hx => by
    have hx : b < W.heap.size := hx
    simp only [World.sameAt, World.cell?, h.block b hx]
  | .map b, hx => h.block b hx
theorem same_kept {W W' : World} (h : Go.Ev.Same W W') (may : MemPlace → Prop) : W.keptBut W' may := by
  refine ⟨h.os, h.out, fun i hi => ?_⟩
  rw [h.block i hi]
  cases ho : W.heap[i]? with
  | none => rfl
  | some o => cases o <;> first | exact ⟨rfl, rfl, rfl, fun _ _ => rfl⟩ | exact Or.inr ⟨rfl, rfl⟩ | rfl
section
variable {H : Type} {enc : TypeId × Value → H} {W : World}
/-- a field's reading -/
theorem field_read {t : TypeId} {fs : Array Field} {fuel : Nat} {cs : List Value} {x : DataW H × List MemPlace} (ht : Tryz.prog.underlying t = some (.struct fs)) (h : DataW.trod enc Tryz.prog W 0 (fun _ => true) true fuel t cs = some x) :
    ∃ n, ∀ (i : Nat) (f : Field), fs[i]? = some f → ∃ y, DataW.trod enc Tryz.prog W 0 (fun _ => true) true n f.type ((cs.drop f.offset).take (Tryz.prog.cellsOf f.type)) = some y := by
  obtain ⟨xs, n, _, _, _, hl, hg⟩ := DataW.trod_struct ht h
  refine ⟨n, fun i f hf => ?_⟩
  have hi : i < xs.length := by rw [hl]; exact (Array.getElem?_eq_some_iff.1 hf).1
  exact ⟨xs[i], by rw [hg i f hf]; simp [hi]⟩
theorem read_slice {t e : TypeId} {fuel : Nat} {c : Value} {x : DataW H × List MemPlace} (ht : Tryz.prog.underlying t = some (.slice e)) (h : DataW.trod enc Tryz.prog W 0 (fun _ => true) true fuel t [c] = some x) : ∃ a l k, c = .slice a l k := by
  rcases open_slice ht h with ⟨h1, _⟩ | ⟨a, len, cap, _, _, _, _, h1, _⟩
  · exact ⟨_, _, _, by simpa using h1⟩
  · exact ⟨_, _, _, by simpa using h1⟩
/-- the choices -/
theorem read_choices {fuel : Nat} {c : Value} {x : DataW H × List MemPlace} (h : DataW.trod enc Tryz.prog W 0 (fun _ => true) true fuel 27 [c] = some x) :
    ∃ (a : Option Addr) (l k : Nat), c = .slice a l k ∧ ∀ k : Nat, k < l → ∃ (cb co : Nat) (s : ByteArray) (y : Int), a = some ⟨cb, co, none⟩ ∧ W.cell? ⟨cb, co + k * 2, none⟩ = some (.string s) ∧ W.cell? ⟨cb, co + k * 2 + 1, none⟩ = some (.int .i64 y) := by
  rcases open_slice Tryz.underlying27 h with ⟨h1, _⟩ | ⟨a, len, cap, m, n, D, Pl, h1, _, hl, _, hm, _, hi⟩
  · exact ⟨none, 0, 0, by simpa using h1, fun k hk => by omega⟩
  · refine ⟨some a, len, cap, by simpa using h1, fun k hk => ?_⟩
    have hm2 : m = cap := hm
    obtain ⟨cs', hc, ht⟩ := hi k (by omega)
    rw [cells49] at hc
    obtain ⟨n', hf⟩ := field_read (W := W) Tryz.underlying49 ht
    obtain ⟨_, hcl, hat⟩ := World.cells?_some hc
    match cs', hcl, hat, hf with
    | [u0, u1], _, hat, hf =>
      obtain ⟨y0, r0⟩ := hf 0 _ rfl
      obtain ⟨y1, r1⟩ := hf 1 _ rfl
      have r0 : DataW.trod enc Tryz.prog W 0 (fun _ => true) true n' 9 ([u0, u1].take (Tryz.prog.cellsOf 9)) = some y0 := r0
      have r1 : DataW.trod enc Tryz.prog W 0 (fun _ => true) true n' 3 ([u1].take (Tryz.prog.cellsOf 3)) = some y1 := r1
      rw [cells9] at r0
      rw [cells3] at r1
      obtain ⟨s, e0, _⟩ := DataW.trod_string (cs := [u0]) Tryz.underlying9 r0
      obtain ⟨y, e1, _⟩ := DataW.trod_int (cs := [u1]) Tryz.underlying3 r1
      obtain rfl : u0 = .string s := by simpa using e0
      obtain rfl : u1 = .int .i64 y := by simpa using e1
      have q0 := hat 0 (by decide)
      have q1 := hat 1 (by decide)
      obtain ⟨cb, co, spot⟩ := a
      have hspot : spot = none := by
        obtain ⟨cs0, hc0, _⟩ := hi 0 (by omega)
        rw [cells49] at hc0
        obtain ⟨_, _, hat0⟩ := World.cells?_some hc0
        have h0 : W.cell? (((⟨cb, co, spot⟩ : Addr).add (0 * 2)).add 0) = cs0[0]? := hat0 0 (by decide)
        have hs0 : ∃ v, cs0[0]? = some v := by
          obtain ⟨_, hcl0, _⟩ := World.cells?_some hc0
          cases cs0 with
          | nil => cases hcl0
          | cons v _ => exact ⟨v, rfl⟩
        obtain ⟨v, hv⟩ := hs0
        rw [hv] at h0
        simpa [Addr.add] using World.cell?_spot h0
      subst hspot
      rw [Go.Ev.addr_add, Go.Ev.addr_add] at q0 q1
      exact ⟨cb, co, s, y, rfl, q0, q1⟩
/-- the act, opened -/
theorem read_act {fuel : Nat} {cl : List Value} {x : DataW H × List MemPlace} (h : DataW.trod enc Tryz.prog W 0 (fun _ => true) true fuel 29 cl = some x) :
    ∃ (x0 x1 x2 x3 x4 x5 : Int) (p t : ByteArray) (a8 a9 a10 : Option Addr) (l8 k8 l9 k9 l10 k10 : Nat), cl = [.int .i64 x0, .int .i64 x1, .int .i64 x2, .int .i64 x3, .int .u32 x4, .int .i64 x5, .string p, .string t, .slice a8 l8 k8, .slice a9 l9 k9, .slice a10 l10 k10] ∧
      ∀ k : Nat, k < l10 → ∃ (cb co : Nat) (s : ByteArray) (y : Int), a10 = some ⟨cb, co, none⟩ ∧ W.cell? ⟨cb, co + k * 2, none⟩ = some (.string s) ∧ W.cell? ⟨cb, co + k * 2 + 1, none⟩ = some (.int .i64 y) := by
  have hlen : cl.length = 11 := by
    obtain ⟨_, _, _, _, hl, _⟩ := DataW.trod_struct Tryz.underlying29 h
    rw [hl, cells29]
  obtain ⟨n, hf⟩ := field_read Tryz.underlying29 h
  match cl, hlen, hf with
  | [c0, c1, c2, c3, c4, c5, c6, c7, c8, c9, c10], _, hf =>
    obtain ⟨y0, r0⟩ := hf 0 _ rfl
    obtain ⟨y1, r1⟩ := hf 1 _ rfl
    obtain ⟨y2, r2⟩ := hf 2 _ rfl
    obtain ⟨y3, r3⟩ := hf 3 _ rfl
    obtain ⟨y4, r4⟩ := hf 4 _ rfl
    obtain ⟨y5, r5⟩ := hf 5 _ rfl
    obtain ⟨y6, r6⟩ := hf 6 _ rfl
    obtain ⟨y7, r7⟩ := hf 7 _ rfl
    clear hf h
    have r0 : DataW.trod enc Tryz.prog W 0 (fun _ => true) true n 3 ([c0, c1, c2, c3, c4, c5, c6, c7, c8, c9, c10].take (Tryz.prog.cellsOf 3)) = some y0 := r0
    have r1 : DataW.trod enc Tryz.prog W 0 (fun _ => true) true n 3 ([c1, c2, c3, c4, c5, c6, c7, c8, c9, c10].take (Tryz.prog.cellsOf 3)) = some y1 := r1
    have r2 : DataW.trod enc Tryz.prog W 0 (fun _ => true) true n 3 ([c2, c3, c4, c5, c6, c7, c8, c9, c10].take (Tryz.prog.cellsOf 3)) = some y2 := r2
    have r3 : DataW.trod enc Tryz.prog W 0 (fun _ => true) true n 3 ([c3, c4, c5, c6, c7, c8, c9, c10].take (Tryz.prog.cellsOf 3)) = some y3 := r3
    have r4 : DataW.trod enc Tryz.prog W 0 (fun _ => true) true n 22 ([c4, c5, c6, c7, c8, c9, c10].take (Tryz.prog.cellsOf 22)) = some y4 := r4
    have r5 : DataW.trod enc Tryz.prog W 0 (fun _ => true) true n 25 ([c5, c6, c7, c8, c9, c10].take (Tryz.prog.cellsOf 25)) = some y5 := r5
    have r6 : DataW.trod enc Tryz.prog W 0 (fun _ => true) true n 26 ([c9, c10].take (Tryz.prog.cellsOf 26)) = some y6 := r6
    have r7 : DataW.trod enc Tryz.prog W 0 (fun _ => true) true n 27 ([c10].take (Tryz.prog.cellsOf 27)) = some y7 := r7
    rw [cells3] at r0 r1 r2 r3
    rw [cells22] at r4
    rw [cells25] at r5
    rw [cells26] at r6
    rw [cells27] at r7
    obtain ⟨x0, e0, _⟩ := DataW.trod_int (cs := [c0]) Tryz.underlying3 r0
    obtain ⟨x1, e1, _⟩ := DataW.trod_int (cs := [c1]) Tryz.underlying3 r1
    obtain ⟨x2, e2, _⟩ := DataW.trod_int (cs := [c2]) Tryz.underlying3 r2
    obtain ⟨x3, e3, _⟩ := DataW.trod_int (cs := [c3]) Tryz.underlying3 r3
    obtain ⟨x4, e4, _⟩ := DataW.trod_int (cs := [c4]) Tryz.underlying22 r4
    obtain ⟨m, hg⟩ := field_read (cs := [c5, c6, c7, c8]) Tryz.underlying25 r5
    obtain ⟨z0, s0⟩ := hg 0 _ rfl
    obtain ⟨z1, s1⟩ := hg 1 _ rfl
    obtain ⟨z2, s2⟩ := hg 2 _ rfl
    obtain ⟨z3, s3⟩ := hg 3 _ rfl
    clear hg
    have s0 : DataW.trod enc Tryz.prog W 0 (fun _ => true) true m 3 ([c5, c6, c7, c8].take (Tryz.prog.cellsOf 3)) = some z0 := s0
    have s1 : DataW.trod enc Tryz.prog W 0 (fun _ => true) true m 9 ([c6, c7, c8].take (Tryz.prog.cellsOf 9)) = some z1 := s1
    have s2 : DataW.trod enc Tryz.prog W 0 (fun _ => true) true m 9 ([c7, c8].take (Tryz.prog.cellsOf 9)) = some z2 := s2
    have s3 : DataW.trod enc Tryz.prog W 0 (fun _ => true) true m 23 ([c8].take (Tryz.prog.cellsOf 23)) = some z3 := s3
    rw [cells3] at s0
    rw [cells9] at s1 s2
    rw [cells23] at s3
    obtain ⟨x5, e5, _⟩ := DataW.trod_int (cs := [c5]) Tryz.underlying3 s0
    obtain ⟨p, e6, _⟩ := DataW.trod_string (cs := [c6]) Tryz.underlying9 s1
    obtain ⟨t, e7, _⟩ := DataW.trod_string (cs := [c7]) Tryz.underlying9 s2
    obtain ⟨a8, l8, k8, e8⟩ := read_slice (c := c8) Tryz.underlying23 s3
    obtain ⟨a9, l9, k9, e9⟩ := read_slice (c := c9) Tryz.underlying26 r6
    obtain ⟨a10, l10, k10, e10, hch⟩ := read_choices (c := c10) r7
    obtain rfl : c0 = .int .i64 x0 := by simpa using e0
    obtain rfl : c1 = .int .i64 x1 := by simpa using e1
    obtain rfl : c2 = .int .i64 x2 := by simpa using e2
    obtain rfl : c3 = .int .i64 x3 := by simpa using e3
    obtain rfl : c4 = .int .u32 x4 := by simpa using e4
    obtain rfl : c5 = .int .i64 x5 := by simpa using e5
    obtain rfl : c6 = .string p := by simpa using e6
    obtain rfl : c7 = .string t := by simpa using e7
    subst e8; subst e9; subst e10
    exact ⟨x0, x1, x2, x3, x4, x5, p, t, a8, a9, a10, l8, k8, l9, k9, l10, k10, rfl, hch⟩
end
end Go.Proofs.YtjkcgaemdjjhgaaGreatDoor
