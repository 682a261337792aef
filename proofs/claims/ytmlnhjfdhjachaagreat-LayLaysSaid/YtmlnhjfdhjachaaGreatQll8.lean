import Derived.Deep.RegionWith
import Derived.Test.YtmlnhjfdhjachaaGreatQll7
/-
  The control block: what stands in its cells, and what acts on it do (the plain law); fresh fields. No condition.
-/
namespace Go.Proofs.YtmlnhjfdhjachaaGreat
set_option linter.unusedVariables false
open Go.ChangeShapes Go.WideShapes Go.ChangeAt Go.RowKit
open Go.ChangeMaps (setBlock)

/-- In the control block cell i holds x. -/
def CtlAt (S : PHeap) (i : Nat) (x : Int) : Prop := ∃ b, S.find 1 = some b ∧ i < b.cells.length ∧ b.nth i = x
theorem CtlAt.code {S : PHeap} {i : Nat} {x : Int} (h : CtlAt S i x) : S.code 1 i = 0 := by
  obtain ⟨b, h1, h2, h3⟩ := h
  exact code_hit h1 ⟨by omega, by omega⟩
theorem CtlAt.word {S : PHeap} {i : Nat} {x : Int} (h : CtlAt S i x) : S.word 1 i = x := by
  obtain ⟨b, h1, h2, h3⟩ := h
  rw [word_eq h1]
  simpa using h3
theorem CtlAt.same {S : PHeap} {i : Nat} {x : Int} (h : CtlAt S i x) (v : Int) : CtlAt (S.set 1 i v) i v := by
  obtain ⟨b, h1, h2, h3⟩ := h
  refine ⟨{ b with cells := b.cells.set i v }, ?_, by simpa using h2, ?_⟩
  · rw [set_find, h1]
    simp [(find_mem h1).2]
  · show (b.cells.set i v).getD i 0 = v
    rw [List.getD_eq_getElem?_getD, List.getElem?_set_self h2]
    rfl
theorem CtlAt.other {S : PHeap} {i j : Nat} {x : Int} (h : CtlAt S i x) (v : Int) (hne : j ≠ i) : CtlAt (S.set 1 j v) i x := by
  obtain ⟨b, h1, h2, h3⟩ := h
  refine ⟨{ b with cells := b.cells.set j v }, ?_, by simpa using h2, ?_⟩
  · rw [set_find, h1]
    simp [(find_mem h1).2]
  · show (b.cells.set j v).getD i 0 = x
    rw [List.getD_eq_getElem?_getD, List.getElem?_set_ne hne, ← List.getD_eq_getElem?_getD]
    exact h3
theorem right_load (i : Nat) : PAct.right ⟨1, 1, i, 0, 0, ByteArray.empty⟩ = true := by simp [PAct.right, PAct.fit]
theorem right_swap (i : Nat) (o n : Int) : PAct.right ⟨3, 1, i, o, n, ByteArray.empty⟩ = true := by simp [PAct.right, PAct.fit]
theorem right_store (i : Nat) (n : Int) : PAct.right ⟨2, 1, i, 0, n, ByteArray.empty⟩ = true := by simp [PAct.right, PAct.fit]
theorem CtlAt.load {S : PHeap} {i : Nat} {x : Int} (h : CtlAt S i x) (r : Nat) : S.act ⟨1, 1, i, 0, 0, ByteArray.empty⟩ r = (⟨x, ByteArray.empty⟩, S) := by
  simp [PHeap.act, right_load, PHeap.load, h.code, h.word]
theorem CtlAt.swap {S : PHeap} {i : Nat} {x : Int} (h : CtlAt S i x) (o n : Int) (r : Nat) : S.act ⟨3, 1, i, o, n, ByteArray.empty⟩ r = (⟨x, ByteArray.empty⟩, if x = o then S.set 1 i n else S) := by
  simp [PHeap.act, right_swap, PHeap.swap, h.code, h.word]
theorem CtlAt.store {S : PHeap} {i : Nat} {x : Int} (h : CtlAt S i x) (n : Int) (r : Nat) : S.act ⟨2, 1, i, 0, n, ByteArray.empty⟩ r = (⟨0, ByteArray.empty⟩, S.set 1 i n) := by
  simp [PHeap.act, right_store, PHeap.store, h.code]
theorem ready_load (S : PHeap) (i : Nat) : S.ready ⟨1, 1, i, 0, 0, ByteArray.empty⟩ = true := by simp [PHeap.ready, right_load]
theorem ready_swap (S : PHeap) (i : Nat) (o n : Int) : S.ready ⟨3, 1, i, o, n, ByteArray.empty⟩ = true := by simp [PHeap.ready, right_swap]
theorem ready_store (S : PHeap) (i : Nat) (n : Int) : S.ready ⟨2, 1, i, 0, n, ByteArray.empty⟩ = true := by simp [PHeap.ready, right_store]
/-- A fresh field: a heap whose first block is a config's control block. -/
def ctlSize (c : PCfg) : Nat := (3 + c.pins + c.cap + 2 * c.shelves).toNat
def fieldS (c : PCfg) (r : Nat) : PHeap := ⟨[⟨1, r, List.replicate (ctlSize c) 0, ByteArray.empty⟩], 1, false, 0⟩
theorem field_ctl (c : PCfg) (r i : Nat) (hi : i < ctlSize c) : CtlAt (fieldS c r) i 0 := ⟨_, rfl, by simpa using hi, by simp [PBlk.nth, hi]⟩
theorem ctlSize_eq {c : PCfg} (h : c.Right) : ((ctlSize c : Nat) : Int) = 3 + c.pins + c.cap + 2 * c.shelves ∧ 7 ≤ ctlSize c ∧ ctlSize c ≤ 171 := by
  have := h.pins
  have := h.cap
  have := h.shelves
  unfold ctlSize
  omega
set_option maxHeartbeats 1000000 in
theorem field_any (c : PCfg) (h : c.Right) (w : World) : Calls Tryz.prog 16 #[c.val] w fun e w' => ∃ hb r, e = .returned (.pointer (some ⟨hb, 0, none⟩)) ∧ Sess w hb (fieldS c r) w' := by
  have hP := fun W => planSize_any c h W
  have hE := ctlSize_eq h
  have hF : ∀ r, fieldS c r = { (⟨[], 0, false, 0⟩ : PHeap) with blocks := (⟨[], 0, false, 0⟩ : PHeap).blocks ++ [⟨(0 : Int) + 1, r, List.replicate (ctlSize c) 0, ByteArray.empty⟩], last := (0 : Int) + 1 } := fun r => rfl
  rw [← hE.1] at hP
  generalize ctlSize c = n at *
  generalize hFS : (fun r => fieldS c r) = FS at *
  replace hF : ∀ r, FS r = { (⟨[], 0, false, 0⟩ : PHeap) with blocks := (⟨[], 0, false, 0⟩ : PHeap).blocks ++ [⟨(0 : Int) + 1, r, List.replicate n 0, ByteArray.empty⟩], last := (0 : Int) + 1 } := fun r => by rw [← hFS]; exact hF r
  have hFS' : ∀ r, fieldS c r = FS r := fun r => by rw [← hFS]
  clear hFS
  suffices hS : Calls Tryz.prog 16 #[c.val] w fun e w' => ∃ hb r, e = .returned (.pointer (some ⟨hb, 0, none⟩)) ∧ Sess w hb (FS r) w' by
    refine hS.mono fun e w' ⟨hb, r, he, hs⟩ => ⟨hb, r, he, by rw [hFS']; exact hs⟩
  clear hFS' h
  obtain ⟨a, b, s, q, t, z⟩ := c
  rw [show PCfg.val ⟨a, b, s, q, t, z⟩ = .agg #[.int .i64 a, .int .i64 b, .int .i64 s, .int .i64 q, .int .i64 t, .int .u64 z] from rfl] at *
  have B1 := Blk.new w 24 #[.int .i64 a, .int .i64 b, .int .i64 s, .int .i64 q, .int .i64 t, .int .u64 z]
  have hz : Below w.heap.size w (w.alloc (.cells #[.int .i64 a, .int .i64 b, .int .i64 s, .int .i64 q, .int .i64 t, .int .u64 z] 24)) := (Below.refl _ _).alloc (Nat.le_refl _) _
  replace B1 := Lib.hid B1
  replace hz := Lib.hid hz
  replace hP := Lib.hid hP
  replace hF := Lib.hid hF
  replace hE := Lib.hid hE
  go_enter Tryz.func16, Tryz.ntmps16
  go_wp2_with fail
  refine (new_sess _).mono ?_; rintro e w1 ⟨hb, rfl, s1⟩
  have B2 := B1.out.below s1.below (by simp)
  have d0 := B2.cell 0
  have d1 := B2.cell 1
  have d2 := B2.cell 2
  have d3 := B2.cell 3
  have d4 := B2.cell 4
  have d5 := B2.cell 5
  replace B2 := Lib.hid B2
  replace s1 := Lib.hid s1
  go_wp2_with fail
  refine (hP.out _).mono ?_; rintro e w2 ⟨rfl, hb2⟩
  have s2 := s1.out.keep hb2
  clear hb2
  replace s2 := Lib.hid s2
  go_wp2_with fail
  refine (make_sess s2.out n (by have := hE.out; omega) ByteArray.empty (by decide)).mono ?_; rintro e w3 ⟨rfl, r, s3⟩
  rw [← hF.out r] at s3
  replace s3 := Lib.hid s3
  go_wp2_with fail
  go_ret
  obtain ⟨F, h1, h2, h3⟩ := s3.out
  have hsz := hz.out.size
  exact ⟨hb, r, rfl, F, h1, fun k hk => Nat.le_trans hsz (h2 k hk), hz.out.trans (h3.mono hsz)⟩
def tinyC : PCfg := ⟨2, 2, 3, 2, 1, 0⟩
theorem tiny_right : tinyC.Right := ⟨by decide, by decide, by decide, by decide, by decide⟩
theorem tiny_any (w : World) : Calls Tryz.prog 36 #[] w fun e w' => e = .returned (.agg #[.int .i64 2, .int .i64 2, .int .i64 3, .int .i64 2, .int .i64 1, .int .u64 0]) ∧ Below w.heap.size w w' := by
  go_enter Tryz.func36, Tryz.ntmps36
  go_wp2_with fail
  refine bodyPost_ret (v := .agg #[.int .i64 2, .int .i64 2, .int .i64 3, .int .i64 2, .int .i64 1, .int .u64 0]) (by simp [results, Tryz.results36, go_sem]) rfl ⟨rfl, ?_⟩
  (repeat first | exact Below.refl _ _ | assumption | refine Below.drew ?_ | refine below_drewN ?_ _ | refine Below.more_ ?_ _ | refine Below.setCell ?_ (by first | exact Nat.le_refl _ | (simp; done) | (simp; omega)) _)
end Go.Proofs.YtmlnhjfdhjachaaGreat

/-
  A heap of the call's own, its memory told; a routine that was made behind it goes alone. No condition.
-/
namespace Go.Proofs.YtmlnhjfdhjachaaGreat
set_option linter.unusedVariables false
open Go.ChangeShapes Go.WideShapes Go.ChangeAt Go.RowKit
open Go.ChangeMaps (setBlock)

structure Own (w0 : World) (hb : Nat) (S : PHeap) (F : Nat → Prop) (w : World) : Prop where
  heap : HeapIn w hb S F
  new : ∀ k, F k → w0.heap.size ≤ k
  below : Below w0.heap.size w0 w
theorem Own.of_sess {w0 w : World} {hb : Nat} {S : PHeap} (s : Sess w0 hb S w) : ∃ F, Own w0 hb S F w := by
  obtain ⟨F, h1, h2, h3⟩ := s
  exact ⟨F, h1, h2, h3⟩
theorem Own.keep {w0 w w' : World} {hb : Nat} {S : PHeap} {F : Nat → Prop} (s : Own w0 hb S F w) (hb1 : Below w.heap.size w w') : Own w0 hb S F w' := ⟨s.heap.below hb1, s.new, Below.next_ s.below hb1⟩
theorem Own.alloc {w0 w : World} {hb : Nat} {S : PHeap} {F : Nat → Prop} (s : Own w0 hb S F w) (o : Obj) : Own w0 hb S F (w.alloc o) := s.keep (Below.more_ (Below.refl _ _) o)
theorem Own.off {w0 w w' : World} {hb : Nat} {S : PHeap} {F D : Nat → Prop} (s : Own w0 hb S F w) (hc : Chg D w w') (hD : Off D F) (hw : ∀ k, D k → w0.heap.size ≤ k) : Own w0 hb S F w' :=
  ⟨s.heap.off hc hD, s.new, s.below.trans (hc.below hw s.below.size)⟩
theorem Own.turned {w0 w w' : World} {hb : Nat} {S S' : PHeap} {F : Nat → Prop} (s : Own w0 hb S F w) (t : Turned F hb S' w w') : Own w0 hb S' (nw F w w') w' :=
  ⟨t.1, fun k hk => by
    rcases hk with hk | hk
    · exact s.new k hk
    · exact Nat.le_trans s.below.size hk.1, s.below.trans (t.2.below s.new s.below.size)⟩
def OwnPost {σ : Type} (Rt : Rout σ) (w0 w2 : World) (F D : Nat → Prop) (hb b : Nat) (most : Int) (S : PHeap) (s : σ) (e : Ending) (w' : World) : Prop :=
  ∃ xs S' s' F' D', Runs Rt S s xs S' s' ∧ (most ≤ (xs.length : Nat) ∨ Rt.can S' s' = false) ∧ (((xs.length : Nat) : Int) ≤ most ∨ xs = []) ∧
    e = .returned (.tuple #[.int .i64 (xs.length : Nat), .bool (!(Rt.act s').2)]) ∧ Own w0 hb S' F' w' ∧ Rt.R w' D' b s' ∧ (∀ k, F' k ∨ D' k → F k ∨ D k ∨ w2.heap.size ≤ k) ∧ Chg (fun k => F k ∨ D k) w2 w' ∧ Off F' D'
theorem alone_own {σ : Type} (Rt : Rout σ) {w0 w2 : World} {hb b : Nat} {S : PHeap} {s : σ} {F D : Nat → Prop} (s1 : Own w0 hb S F w2) (hR : Rt.R w2 D b s) (off : Off F D) (hD : ∀ k, D k → w0.heap.size ≤ k)
    (hf : S.faults ≤ 1000000000) (hla : S.last ≤ 1000000000) (most : Int) (hm : most ≤ 1000000) :
    Calls Tryz.prog 20 #[.pointer (some ⟨hb, 0, none⟩), .iface Rt.T (.pointer (some ⟨b, 0, none⟩)), .int .i64 most] w2 (OwnPost Rt w0 w2 F D hb b most S s) := by
  refine (alone_any Rt s1.heap hR off hf hla most hm).mono fun e w' ⟨xs, S', s', h1, h2, h3, h4, h5⟩ => ?_
  obtain ⟨⟨F', D', k1, k2, k3, k4⟩, k5⟩ := h5
  refine ⟨xs, S', s', F', D', h1, h2, h3, h4, ⟨k1, fun k hk => ?_, s1.below.trans (k5.below (fun k hk => ?_) s1.below.size)⟩, k2, fun k hk => ?_, k5, k3⟩
  · rcases k4 k (.inl hk) with (hk | hk) | hk
    · exact s1.new k hk
    · exact hD k hk
    · have := s1.below.size; omega
  · rcases hk with hk | hk
    · exact s1.new k hk
    · exact hD k hk
  · rcases k4 k hk with (hk | hk) | hk
    · exact .inl hk
    · exact .inr (.inl hk)
    · exact .inr (.inr hk)
end Go.Proofs.YtmlnhjfdhjachaaGreat

/-
  The control block's cells: Load and Store of them. No condition.
-/
namespace Go.Proofs.YtmlnhjfdhjachaaGreat
set_option linter.unusedVariables false
open Go.ChangeShapes Go.WideShapes Go.ChangeAt Go.RowKit
open Go.ChangeMaps (setBlock)

theorem ctl_load {w : World} {hb : Nat} {S : PHeap} {F : Nat → Prop} (h : HeapIn w hb S F) {i : Nat} {x : Int} (hc : CtlAt S i x) :
    Calls Tryz.prog 27 #[.pointer (some ⟨hb, 0, none⟩), .int .u64 1, .int .i64 i] w fun e w' => e = .returned (.tuple #[.int .u64 x, .int .i64 0]) ∧ Turned F hb S w w' := by
  obtain ⟨b, q1, q2, q3⟩ := hc
  have := load_hit h q1 i q2
  rwa [q3] at this
end Go.Proofs.YtmlnhjfdhjachaaGreat

/-
  Freeing a pin; pinning where there is none to pin (layer 25). No condition.
-/
namespace Go.Proofs.YtmlnhjfdhjachaaGreat
set_option linter.unusedVariables false
open Go.ChangeShapes Go.WideShapes Go.ChangeAt Go.RowKit
open Go.ChangeMaps (setBlock)

set_option maxHeartbeats 1000000 in
theorem free_any (c : PCfg) (h : c.Right) (i : Int) (hi : 0 ≤ i ∧ i < c.pins) (w : World) : Calls Tryz.prog 41 #[c.val, .int .i64 i] w fun e w' => e = .returned (.agg #[.int .i64 2, .int .u64 1, .int .i64 (3 + i), .int .u64 0, .int .u64 0, .string ⟨#[]⟩]) ∧ Below w.heap.size w w' := by
  have hP := fun W => planPin_any c h i hi W
  obtain ⟨a, b, s, q, t, z⟩ := c
  rw [show PCfg.val ⟨a, b, s, q, t, z⟩ = .agg #[.int .i64 a, .int .i64 b, .int .i64 s, .int .i64 q, .int .i64 t, .int .u64 z] from rfl] at *
  simp only at hi
  have d0 : decide (0 ≤ 3 + i) = true := by simp; omega
  have B1 := (Blk.new w 24 #[.int .i64 a, .int .i64 b, .int .i64 s, .int .i64 q, .int .i64 t, .int .u64 z]).alloc (.cells #[.int .i64 0, .int .u64 0, .int .i64 0, .int .u64 0, .int .u64 0, .string ⟨#[]⟩] 31)
  have R1 := Blk.new (w.alloc (.cells #[.int .i64 a, .int .i64 b, .int .i64 s, .int .i64 q, .int .i64 t, .int .u64 z] 24)) 31 #[.int .i64 0, .int .u64 0, .int .i64 0, .int .u64 0, .int .u64 0, .string ⟨#[]⟩]
  simp only [World.size_alloc] at R1
  have hz : Below w.heap.size w ((w.alloc (.cells #[.int .i64 a, .int .i64 b, .int .i64 s, .int .i64 q, .int .i64 t, .int .u64 z] 24)).alloc (.cells #[.int .i64 0, .int .u64 0, .int .i64 0, .int .u64 0, .int .u64 0, .string ⟨#[]⟩] 31)) := ((Below.refl _ _).alloc (Nat.le_refl _) _).alloc (by simp) _
  replace B1 := Lib.hid B1
  replace R1 := Lib.hid R1
  replace hz := Lib.hid hz
  replace hP := Lib.hid hP
  clear hi h
  go_enter Tryz.func41, Tryz.ntmps41
  go_wp2_with fail
  refine (hP.out _).mono ?_; rintro e w1 ⟨rfl, hb⟩
  have hz1 := nx hz.out (Nat.le_refl _) hb
  have R2 := R1.out.below hb (by simp)
  have f0 := R2.frozen 0
  have g0 := R2.cell 0
  have f1 := R2.frozen 1
  have g1 := R2.cell 1
  have f2 := R2.frozen 2
  have g2 := R2.cell 2
  have f3 := R2.frozen 3
  have g3 := R2.cell 3
  have f4 := R2.frozen 4
  have g4 := R2.cell 4
  have f5 := R2.frozen 5
  have g5 := R2.cell 5
  replace R2 := Lib.hid R2
  replace hz1 := Lib.hid hz1
  clear hb
  go_wp2_with fail
  refine gen_world (α := fun W' => bodyPost _ _ _ _ _ W') (fun W' => Blk W' (w.heap.size + 1) 31 #[.int .i64 2, .int .u64 1, .int .i64 (3 + i), .int .u64 0, .int .u64 0, .string ⟨#[]⟩] ∧ Below w.heap.size w W') ⟨?_, ?_⟩ ?_
  · exact Blk.eq_cs ((((((R2.out.set_ 0 _).set_ 1 _).set_ 2 _).set_ 3 _).set_ 4 _).set_ 5 _) rfl
  · repeat (refine Below.setCell ?_ (by show w.heap.size ≤ w.heap.size + 1; omega) _)
    exact hz1.out
  rintro W' ⟨q1, q2⟩
  have e0 := q1.cell 0
  have e1 := q1.cell 1
  have e2 := q1.cell 2
  have e3 := q1.cell 3
  have e4 := q1.cell 4
  have e5 := q1.cell 5
  exact bodyPost_ret (v := .agg #[.int .i64 2, .int .u64 1, .int .i64 (3 + i), .int .u64 0, .int .u64 0, .string ⟨#[]⟩]) (by simp [results, Tryz.results41, go_sem, e0, e1, e2, e3, e4, e5]) rfl ⟨rfl, q2⟩
end Go.Proofs.YtmlnhjfdhjachaaGreat

/-
  drive.Next on a heap of the call's own. No condition.
-/
namespace Go.Proofs.YtmlnhjfdhjachaaGreat
set_option linter.unusedVariables false
open Go.ChangeShapes Go.WideShapes Go.ChangeAt Go.RowKit
open Go.ChangeMaps (setBlock)

structure NextP {σ : Type} (Rt : Rout σ) (w0 w : World) (F D : Nat → Prop) (hb b : Nat) (S : PHeap) (s : σ) (S' : PHeap) (s' : σ) (F' D' : Nat → Prop) (is : Bool) (w' : World) : Prop where
  own : Own w0 hb S' F' w'
  rt : Rt.R w' D' b s'
  off : Off F' D'
  sub : ∀ k, F' k ∨ D' k → F k ∨ D k ∨ w.heap.size ≤ k
  chg : Chg (fun k => F k ∨ D k) w w'
  did : (is = false ∧ Rt.can S s = false ∧ S' = S ∧ s' = s) ∨ (is = true ∧ Rt.can S s = true ∧ ∃ r, S' = (S.act (Rt.act s).1 r).2 ∧ s' = Rt.take s (S.act (Rt.act s).1 r).1)
end Go.Proofs.YtmlnhjfdhjachaaGreat

/-
  A routine that lies in memory of the call's own. No condition.
-/
namespace Go.Proofs.YtmlnhjfdhjachaaGreat
set_option linter.unusedVariables false
open Go.ChangeShapes Go.WideShapes Go.ChangeAt Go.RowKit
open Go.ChangeMaps (setBlock)

section
variable {σ : Type} {Rt : Rout σ} {B b : Nat} {W W' : World} {s : σ}
def RAt (Rt : Rout σ) (B : Nat) (W : World) (b : Nat) (s : σ) : Prop := ∃ Q, Rt.R W Q b s ∧ ∀ k, Q k → B ≤ k
theorem RAt.far (h : RAt Rt B W b s) (hs : W.heap.size ≤ W'.heap.size) (hk : ∀ k, k < W.heap.size → W'.heap[k]? = W.heap[k]?) : RAt Rt B W' b s := by
  obtain ⟨Q, h1, h2⟩ := h
  exact ⟨Q, Rt.keep h1 hs fun k hk' => hk k (Rt.own h1 k hk'), h2⟩
theorem RAt.below (h : RAt Rt B W b s) (hb : Below W.heap.size W W') : RAt Rt B W' b s := h.far hb.size fun k hk => hb.block k hk
theorem RAt.lt (h : RAt Rt B W b s) : b < W.heap.size ∧ B ≤ b := by
  obtain ⟨Q, h1, h2⟩ := h
  exact ⟨Rt.own h1 _ (Rt.hG h1), h2 _ (Rt.hG h1)⟩
theorem RAt.act (h : RAt Rt B W b s) : Calls Tryz.prog Rt.fAct #[.pointer (some ⟨b, 0, none⟩)] W fun e w' => e = .returned (.tuple #[(Rt.act s).1.val, .bool (Rt.act s).2]) ∧ Below W.heap.size W w' := by
  obtain ⟨Q, h1, _⟩ := h
  exact Rt.cAct h1
theorem RAt.take (h : RAt Rt B W b s) (hB : B ≤ W.heap.size) (g : PGot) (hg : g.Ok) (hm : (Rt.act s).2 = true) : Calls Tryz.prog Rt.fTake #[.pointer (some ⟨b, 0, none⟩), g.val] W fun e w' => e = .returned (.tuple #[]) ∧ RAt Rt B w' b (Rt.take s g) ∧ Chg (fun k => B ≤ k) W w' := by
  obtain ⟨Q, h1, h2⟩ := h
  refine (Rt.cTake g h1 hg hm).mono ?_
  rintro e w' ⟨he, h3, h4⟩
  refine ⟨he, ⟨_, h3, fun k hk => ?_⟩, h4.mono h2⟩
  rcases hk with hk | hk
  · exact h2 k hk
  · omega
end
end Go.Proofs.YtmlnhjfdhjachaaGreat

/-
  Several threads, and how they lie in memory: for any kind of routine that is one block. No condition.
-/
namespace Go.Proofs.YtmlnhjfdhjachaaGreat
set_option linter.unusedVariables false
open Go.ChangeShapes Go.WideShapes Go.ChangeAt Go.RowKit
open Go.ChangeMaps (setBlock)

/-- A thing that lies in one block. -/
structure Lie (σ : Type) where
  T : TypeId
  L : World → Nat → σ → Prop
  lt : ∀ {w b s}, L w b s → b < w.heap.size
  keep : ∀ {w w' b s}, L w b s → w'.heap[b]? = w.heap[b]? → L w' b s
theorem Lie.below {σ : Type} (Y : Lie σ) {w w' : World} {b : Nat} {s : σ} (h : Y.L w b s) (hb : Below w.heap.size w w') : Y.L w' b s := Y.keep h (hb.block _ (Y.lt h))
def ptrsL (bs : List Nat) : List Value := bs.map fun b => .pointer (some ⟨b, 0, none⟩)
section
variable {σ : Type} {Y : Lie σ}
/-- The heap, the threads, and the row in which they stand. -/
structure Mob (Y : Lie σ) (w1 : World) (hb : Nat) (S : PHeap) (F : Nat → Prop) (bs : List Nat) (ss : Nat → σ) (v : Value) (wr : World) : Prop where
  own : Own w1 hb S F wr
  each : ∀ (j : Nat) b, bs[j]? = some b → Y.L wr b (ss j) ∧ ¬ F b ∧ w1.heap.size ≤ b
  nodup : bs.Nodup
  row : wr.ownsRow w1.heap.size Y.T 1 v bs.length (ptrsL bs)
  off : ∀ g, v.ownBlock = some g → ¬ F g ∧ g ∉ bs
theorem Mob.keep {w1 wr w' : World} {hb : Nat} {S : PHeap} {F : Nat → Prop} {bs : List Nat} {ss : Nat → σ} {v : Value} (h : Mob Y w1 hb S F bs ss v wr) (hb' : Below wr.heap.size wr w') : Mob Y w1 hb S F bs ss v w' :=
  ⟨h.own.keep hb', fun j b hj => ⟨Y.below (h.each j b hj).1 hb', (h.each j b hj).2⟩, h.nodup, ⟨h.row.1, h.row.2.imp id fun ⟨g, cap, cur, e1, e2, e3, r⟩ => ⟨g, cap, cur, e1, e2, (hb'.block g (Array.getElem?_eq_some_iff.1 e3).1).trans e3, r⟩⟩, h.off⟩
theorem Mob.cell {w1 wr : World} {hb : Nat} {S : PHeap} {F : Nat → Prop} {bs : List Nat} {ss : Nat → σ} {g cap j b : Nat} (h : Mob Y w1 hb S F bs ss (.slice (some ⟨g, 0, none⟩) bs.length cap) wr) (hj : bs[j]? = some b) : wr.cell? ⟨g, j, none⟩ = some (.pointer (some ⟨b, 0, none⟩)) := by
  have := h.row.cells (g := g) rfl j (.pointer (some ⟨b, 0, none⟩)) (by simp [ptrsL, hj])
  have e2 : (⟨g, 0, none⟩ : Addr).add j = ⟨g, j, none⟩ := by unfold Addr.add; split <;> simp_all
  rw [e2] at this
  exact this
/-- One thread has gone on. -/
theorem Mob.next {Rt : Rout σ} (hRL : ∀ w D b s, Rt.R w D b s → D b ∧ Y.L w b s) {w1 wr w' : World} {hb : Nat} {S S' : PHeap} {F F' D' : Nat → Prop} {bs : List Nat} {ss : Nat → σ} {v : Value} {j0 b0 : Nat} {s' : σ} {is : Bool} (h : Mob Y w1 hb S F bs ss v wr) (hj0 : bs[j0]? = some b0)
    (hP : NextP Rt w1 wr F (fun k => k = b0) hb b0 S (ss j0) S' s' F' D' is w') : Mob Y w1 hb S' F' bs (fun j => if j = j0 then s' else ss j) v w' := by
  obtain ⟨po, pr, pof, ps, pc, _⟩ := hP
  obtain ⟨pr1, pr2⟩ := hRL _ _ _ _ pr
  have inj : ∀ j b, bs[j]? = some b → j ≠ j0 → b ≠ b0 := by
    intro j b hj hne e
    subst e
    exact hne <| (List.getElem?_inj (List.getElem?_eq_some_iff.mp hj).1 h.nodup).1 (hj.trans hj0.symm)
  have keepB : ∀ k, k < wr.heap.size → ¬ F k → k ≠ b0 → w'.heap[k]? = wr.heap[k]? ∧ ¬ F' k := by
    intro k hk hF hne
    refine ⟨pc.block k hk (fun h => h.elim hF hne), fun hF' => ?_⟩
    rcases ps k (.inl hF') with h1 | h1 | h1
    · exact hF h1
    · exact hne h1
    · omega
  refine ⟨po, fun j b hj => ?_, h.nodup, ?_, fun g hg => ?_⟩
  · obtain ⟨e1, e2, e3⟩ := h.each j b hj
    by_cases hjj : j = j0
    · subst hjj
      have : b = b0 := by rw [hj] at hj0; injection hj0
      subst this
      rw [if_pos rfl]
      exact ⟨pr2, fun hF' => pof b hF' pr1, e3⟩
    · rw [if_neg hjj]
      obtain ⟨k1, k2⟩ := keepB b (Y.lt e1) e2 (inj j b hj hjj)
      exact ⟨Y.keep e1 k1, k2, e3⟩
  · refine ⟨h.row.1, h.row.2.imp id fun ⟨g, cap, cur, e1, e2, e3, r⟩ => ⟨g, cap, cur, e1, e2, ?_, r⟩⟩
    obtain ⟨k1, k2⟩ := h.off g (by rw [e1]; rfl)
    exact (keepB g (Array.getElem?_eq_some_iff.1 e3).1 k1 (fun e => k2 (e ▸ List.mem_of_getElem? hj0))).1.trans e3
  · obtain ⟨k1, k2⟩ := h.off g hg
    exact ⟨(keepB g (World.ownsRow.lt h.row g hg).2 k1 (fun e => k2 (e ▸ List.mem_of_getElem? hj0))).2, k2⟩
/-- The heap has turned by itself. -/
theorem Mob.turned {w1 wr w' : World} {hb : Nat} {S S' : PHeap} {F : Nat → Prop} {bs : List Nat} {ss : Nat → σ} {v : Value} (h : Mob Y w1 hb S F bs ss v wr) (t : Turned F hb S' wr w') : Mob Y w1 hb S' (nw F wr w') bs ss v w' := by
  have keepB : ∀ k, k < wr.heap.size → ¬ F k → w'.heap[k]? = wr.heap[k]? ∧ ¬ nw F wr w' k := by
    intro k hk hF
    refine ⟨t.2.block k hk hF, fun hF' => ?_⟩
    rcases hF' with h1 | h1
    · exact hF h1
    · omega
  refine ⟨h.own.turned t, fun j b hj => ?_, h.nodup, ?_, fun g hg => ?_⟩
  · obtain ⟨e1, e2, e3⟩ := h.each j b hj
    obtain ⟨k1, k2⟩ := keepB b (Y.lt e1) e2
    exact ⟨Y.keep e1 k1, k2, e3⟩
  · refine ⟨h.row.1, h.row.2.imp id fun ⟨g, cap, cur, e1, e2, e3, r⟩ => ⟨g, cap, cur, e1, e2, ?_, r⟩⟩
    exact (keepB g (Array.getElem?_eq_some_iff.1 e3).1 (h.off g (by rw [e1]; rfl)).1).1.trans e3
  · exact ⟨(keepB g (World.ownsRow.lt h.row g hg).2 (h.off g hg).1).2, (h.off g hg).2⟩
/-- One thread more. -/
theorem Mob.more {w1 wr w2 w' : World} {hb : Nat} {S : PHeap} {F : Nat → Prop} {bs : List Nat} {ss : Nat → σ} {v v' : Value} {b : Nat} {s : σ} (h : Mob Y w1 hb S F bs ss v wr) (hb2 : Below wr.heap.size wr w2) (hN : Y.L w2 b s) (hbb : wr.heap.size ≤ b)
    (hown : w'.ownsRow w1.heap.size Y.T 1 v' (bs.length + 1) (ptrsL (bs ++ [b]))) (hg : w2.grownBy w' v.ownBlock) (hloc : v'.ownBlock = v.ownBlock ∨ v'.ownBlock = some w2.heap.size) :
    Mob Y w1 hb S F (bs ++ [b]) (fun j => if j = bs.length then s else ss j) v' w' := by
  have h2 := h.keep hb2
  have hlt := h.own.heap.own
  have hlt2 := h2.own.heap.own
  have hs := hb2.size
  have hw := h.own.below.size
  have hFb : ¬ F b := fun hF => by have := hlt b hF; omega
  have inB : ∀ x ∈ bs, x < wr.heap.size := fun x hx => by
    obtain ⟨j, hj, rfl⟩ := List.getElem_of_mem hx
    exact Y.lt (h.each j _ (List.getElem?_eq_getElem hj)).1
  have vlt : ∀ g, v.ownBlock = some g → w1.heap.size ≤ g ∧ g < wr.heap.size := fun g hg => World.ownsRow.lt h.row g hg
  have keepB : ∀ k, k < w2.heap.size → some k ≠ v.ownBlock → w'.heap[k]? = w2.heap[k]? := fun k hk hne => hg.block k hk hne
  have hbl : b < w2.heap.size := Y.lt hN
  refine ⟨⟨h2.own.heap.keep hg.size fun k hk => keepB k (hlt2 k hk) (fun e => (h.off k e.symm).1 hk), h.own.new, ?_⟩, fun j b' hj => ?_, ?_, by rw [List.length_append]; exact hown, fun g hg' => ?_⟩
  · refine ⟨hg.os.trans h2.own.below.os, hg.tape.trans h2.own.below.tape, hg.output.trans h2.own.below.output, Nat.le_trans h2.own.below.size hg.size, fun k hk => (keepB k (Nat.lt_of_lt_of_le hk h2.own.below.size) fun e => ?_).trans (h2.own.below.block k hk)⟩
    have := (vlt k e.symm).1
    omega
  · rcases Nat.lt_or_ge j bs.length with hl | hl
    · rw [List.getElem?_append_left hl] at hj
      rw [if_neg (by omega)]
      obtain ⟨e1, e2, e3⟩ := h2.each j b' hj
      exact ⟨Y.keep e1 (keepB b' (Y.lt e1) fun e => (h.off b' e.symm).2 (List.mem_of_getElem? hj)), e2, e3⟩
    · rw [List.getElem?_append_right hl] at hj
      have hj0 : j = bs.length := by
        have := (List.getElem?_eq_some_iff.mp hj).1
        simp at this
        omega
      subst hj0
      simp at hj
      subst hj
      rw [if_pos rfl]
      exact ⟨Y.keep hN (keepB b hbl fun e => by have := (vlt b e.symm).2; omega), hFb, by omega⟩
  · rw [List.nodup_append]
    refine ⟨h.nodup, by simp, fun a ha b' hb' e => ?_⟩
    simp at hb'
    subst hb'
    have := inB a ha
    omega
  · rcases hloc with e | e
    · rw [e] at hg'
      refine ⟨(h.off g hg').1, fun hm => ?_⟩
      rcases List.mem_append.1 hm with hm | hm
      · exact (h.off g hg').2 hm
      · simp at hm
        have := (vlt g hg').2
        omega
    · rw [e] at hg'
      injection hg' with hg'
      refine ⟨fun hF => by have := hlt g hF; omega, fun hm => ?_⟩
      rcases List.mem_append.1 hm with hm | hm
      · have := inB g hm; omega
      · simp at hm
        omega
end
end Go.Proofs.YtmlnhjfdhjachaaGreat

/-
  Several threads, each with memory of its own: how they lie in memory. No condition.
-/
namespace Go.Proofs.YtmlnhjfdhjachaaGreat
set_option linter.unusedVariables false
open Go.ChangeShapes Go.WideShapes Go.ChangeAt Go.RowKit
open Go.ChangeMaps (setBlock)

section
variable {σ : Type} {Rt : Rout σ}
/-- The heap, the threads, and the row in which they stand. -/
structure Crew (Rt : Rout σ) (w1 : World) (hb : Nat) (S : PHeap) (F : Nat → Prop) (bs : List Nat) (ss : Nat → σ) (v : Value) (D : Nat → Nat → Prop) (wr : World) : Prop where
  own : Own w1 hb S F wr
  each : ∀ (j : Nat) b, bs[j]? = some b → Rt.R wr (D j) b (ss j) ∧ Off F (D j) ∧ ∀ k, D j k → w1.heap.size ≤ k
  apart : ∀ i j, i < bs.length → j < bs.length → i ≠ j → Off (D i) (D j)
  row : wr.ownsRow w1.heap.size Rt.T 1 v bs.length (ptrsL bs)
  off : ∀ g, v.ownBlock = some g → ¬ F g ∧ ∀ j, j < bs.length → ¬ D j g
variable {w1 wr w2 w' : World} {hb : Nat} {S S' : PHeap} {F F' : Nat → Prop} {bs : List Nat} {ss : Nat → σ} {v v' : Value} {D : Nat → Nat → Prop} {D' : Nat → Prop}
theorem row_keep {e : TypeId} {size n B : Nat} {xs : List Value} (h : wr.ownsRow B e size v n xs) (hk : ∀ g, v.ownBlock = some g → w'.heap[g]? = wr.heap[g]?) : w'.ownsRow B e size v n xs :=
  ⟨h.1, h.2.imp id fun ⟨g, cap, cur, e1, e2, e3, r⟩ => ⟨g, cap, cur, e1, e2, (hk g (by rw [e1]; rfl)).trans e3, r⟩⟩
theorem Crew.keep (h : Crew Rt w1 hb S F bs ss v D wr) (hb' : Below wr.heap.size wr w') : Crew Rt w1 hb S F bs ss v D w' :=
  ⟨h.own.keep hb', fun j b hj => ⟨Rt.below (h.each j b hj).1 hb', (h.each j b hj).2⟩, h.apart, row_keep h.row fun g hg => hb'.block g (World.ownsRow.lt h.row g hg).2, h.off⟩
theorem Crew.cell {g cap j b : Nat} (h : Crew Rt w1 hb S F bs ss (.slice (some ⟨g, 0, none⟩) bs.length cap) D wr) (hj : bs[j]? = some b) : wr.cell? ⟨g, j, none⟩ = some (.pointer (some ⟨b, 0, none⟩)) := by
  have := h.row.cells (g := g) rfl j (.pointer (some ⟨b, 0, none⟩)) (by simp [ptrsL, hj])
  have e2 : (⟨g, 0, none⟩ : Addr).add j = ⟨g, j, none⟩ := by unfold Addr.add; split <;> simp_all
  rw [e2] at this
  exact this
theorem lt_of_get {l : List Nat} {j b : Nat} (h : l[j]? = some b) : j < l.length := (List.getElem?_eq_some_iff.1 h).1
/-- One thread has gone on. -/
theorem Crew.step {j0 b0 : Nat} {s' : σ} (h : Crew Rt w1 hb S F bs ss v D wr) (hj0 : bs[j0]? = some b0) (po : Own w1 hb S' F' w') (pr : Rt.R w' D' b0 s') (pof : Off F' D') (ps : ∀ k, F' k ∨ D' k → F k ∨ D j0 k ∨ wr.heap.size ≤ k) (pc : Chg (fun k => F k ∨ D j0 k) wr w') :
    Crew Rt w1 hb S' F' bs (fun j => if j = j0 then s' else ss j) v (fun j => if j = j0 then D' else D j) w' := by
  have hl0 := lt_of_get hj0
  have keepB : ∀ k, k < wr.heap.size → ¬ F k → ¬ D j0 k → w'.heap[k]? = wr.heap[k]? ∧ ¬ F' k ∧ ¬ D' k := by
    intro k hk hF hD
    have hno : ¬ (F' k ∨ D' k) := fun hh => by
      rcases ps k hh with h1 | h1 | h1
      · exact hF h1
      · exact hD h1
      · omega
    exact ⟨pc.block k hk (fun hh => hh.elim hF hD), fun hh => hno (.inl hh), fun hh => hno (.inr hh)⟩
  have kD : ∀ j b, bs[j]? = some b → j ≠ j0 → ∀ k, D j k → w'.heap[k]? = wr.heap[k]? ∧ ¬ F' k ∧ ¬ D' k := fun j b hj hne k hk =>
    keepB k (Rt.own (h.each j b hj).1 k hk) (fun hF => (h.each j b hj).2.1 k hF hk) (fun hD => h.apart j j0 (lt_of_get hj) hl0 hne k hk hD)
  have get : ∀ j, j < bs.length → ∃ b, bs[j]? = some b := fun j hj => ⟨_, List.getElem?_eq_getElem hj⟩
  refine ⟨po, fun j b hj => ?_, fun i j hi hj hne => ?_, row_keep h.row fun g hg => ?_, fun g hg => ?_⟩
  · by_cases hjj : j = j0
    · subst hjj
      have : b = b0 := by rw [hj] at hj0; injection hj0
      subst this
      rw [if_pos rfl, if_pos rfl]
      refine ⟨pr, pof, fun k hk => ?_⟩
      rcases ps k (.inr hk) with h1 | h1 | h1
      · exact h.own.new k h1
      · exact (h.each j b hj).2.2 k h1
      · have := h.own.below.size; omega
    · rw [if_neg hjj, if_neg hjj]
      exact ⟨Rt.keep (h.each j b hj).1 pc.size fun k hk => (kD j b hj hjj k hk).1, fun k hF hk => (kD j b hj hjj k hk).2.1 hF, (h.each j b hj).2.2⟩
  · obtain ⟨bi, hbi⟩ := get i hi
    obtain ⟨bj, hbj⟩ := get j hj
    by_cases hi0 : i = j0
    · subst hi0
      rw [if_pos rfl, if_neg (fun e => hne e.symm)]
      exact fun k h1 h2 => (kD j bj hbj (fun e => hne e.symm) k h2).2.2 h1
    · rw [if_neg hi0]
      by_cases hj0' : j = j0
      · subst hj0'
        rw [if_pos rfl]
        exact fun k h1 h2 => (kD i bi hbi hi0 k h1).2.2 h2
      · rw [if_neg hj0']
        exact h.apart i j hi hj hne
  · have ho := h.off g hg
    exact (keepB g (World.ownsRow.lt h.row g hg).2 ho.1 (ho.2 j0 hl0)).1
  · have ho := h.off g hg
    have hk := keepB g (World.ownsRow.lt h.row g hg).2 ho.1 (ho.2 j0 hl0)
    refine ⟨hk.2.1, fun j hj => ?_⟩
    by_cases hjj : j = j0
    · rw [if_pos hjj]; exact hk.2.2
    · rw [if_neg hjj]; exact ho.2 j hj
/-- The heap has turned by itself. -/
theorem Crew.turned (h : Crew Rt w1 hb S F bs ss v D wr) (t : Turned F hb S' wr w') : Crew Rt w1 hb S' (nw F wr w') bs ss v D w' := by
  have keepB : ∀ k, k < wr.heap.size → ¬ F k → w'.heap[k]? = wr.heap[k]? ∧ ¬ nw F wr w' k := by
    intro k hk hF
    refine ⟨t.2.block k hk hF, fun hF' => ?_⟩
    rcases hF' with h1 | h1
    · exact hF h1
    · omega
  refine ⟨h.own.turned t, fun j b hj => ?_, h.apart, row_keep h.row fun g hg => ?_, fun g hg => ?_⟩
  · obtain ⟨e1, e2, e3⟩ := h.each j b hj
    have hk : ∀ k, D j k → w'.heap[k]? = wr.heap[k]? ∧ ¬ nw F wr w' k := fun k hk => keepB k (Rt.own e1 k hk) fun hF => e2 k hF hk
    exact ⟨Rt.keep e1 t.2.size fun k hD => (hk k hD).1, fun k hF hD => (hk k hD).2 hF, e3⟩
  · exact (keepB g (World.ownsRow.lt h.row g hg).2 (h.off g hg).1).1
  · exact ⟨(keepB g (World.ownsRow.lt h.row g hg).2 (h.off g hg).1).2, (h.off g hg).2⟩
/-- One thread more. -/
theorem Crew.more {b : Nat} {s : σ} (h : Crew Rt w1 hb S F bs ss v D wr) (hb2 : Below wr.heap.size wr w2) (hN : RAt Rt wr.heap.size w2 b s)
    (hown : w'.ownsRow w1.heap.size Rt.T 1 v' (bs.length + 1) (ptrsL (bs ++ [b]))) (hg : w2.grownBy w' v.ownBlock) (hloc : v'.ownBlock = v.ownBlock ∨ v'.ownBlock = some w2.heap.size) :
    ∃ D'', Crew Rt w1 hb S F (bs ++ [b]) (fun j => if j = bs.length then s else ss j) v' D'' w' := by
  obtain ⟨Dn, hN, hDn⟩ := hN
  have h2 := h.keep hb2
  have hlt := h.own.heap.own
  have hlt2 := h2.own.heap.own
  have hs := hb2.size
  have hw := h.own.below.size
  have vlt : ∀ g, v.ownBlock = some g → w1.heap.size ≤ g ∧ g < wr.heap.size := fun g hg => World.ownsRow.lt h.row g hg
  have keepB : ∀ k, k < w2.heap.size → some k ≠ v.ownBlock → w'.heap[k]? = w2.heap[k]? := fun k hk hne => hg.block k hk hne
  have Dlt : ∀ j, j < bs.length → ∀ k, D j k → k < wr.heap.size := fun j hj k hk => Rt.own (h.each j _ (List.getElem?_eq_getElem hj)).1 k hk
  have Nlt : ∀ k, Dn k → k < w2.heap.size := fun k hk => Rt.own hN k hk
  refine ⟨fun j => if j = bs.length then Dn else D j, ⟨h2.own.heap.keep hg.size fun k hk => keepB k (hlt2 k hk) (fun e => (h.off k e.symm).1 hk), h.own.new, ?_⟩, fun j b' hj => ?_, fun i j hi hj hne => ?_, by rw [List.length_append]; exact hown, fun g hg' => ?_⟩
  · refine ⟨hg.os.trans h2.own.below.os, hg.tape.trans h2.own.below.tape, hg.output.trans h2.own.below.output, Nat.le_trans h2.own.below.size hg.size, fun k hk => (keepB k (Nat.lt_of_lt_of_le hk h2.own.below.size) fun e => ?_).trans (h2.own.below.block k hk)⟩
    have := (vlt k e.symm).1
    omega
  · rcases Nat.lt_or_ge j bs.length with hl | hl
    · rw [List.getElem?_append_left hl] at hj
      rw [if_neg (by omega), if_neg (by omega)]
      obtain ⟨e1, e2, e3⟩ := h2.each j b' hj
      exact ⟨Rt.keep e1 hg.size fun k hk => keepB k (Rt.own e1 k hk) fun e => (h.off k e.symm).2 j hl hk, e2, e3⟩
    · rw [List.getElem?_append_right hl] at hj
      have hj0 : j = bs.length := by
        have := (List.getElem?_eq_some_iff.mp hj).1
        simp at this
        omega
      subst hj0
      simp at hj
      subst hj
      rw [if_pos rfl, if_pos rfl]
      exact ⟨Rt.keep hN hg.size fun k hk => keepB k (Nlt k hk) fun e => by have := (vlt k e.symm).2; have := hDn k hk; omega, fun k hF hk => by have := hlt k hF; have := hDn k hk; omega, fun k hk => by have := hDn k hk; omega⟩
  · rw [List.length_append, List.length_singleton] at hi hj
    by_cases hi0 : i = bs.length
    · rw [if_pos hi0, if_neg (by omega)]
      exact fun k h1 h3 => by have := hDn k h1; have := Dlt j (by omega) k h3; omega
    · rw [if_neg hi0]
      by_cases hj0 : j = bs.length
      · rw [if_pos hj0]
        exact fun k h1 h3 => by have := hDn k h3; have := Dlt i (by omega) k h1; omega
      · rw [if_neg hj0]
        exact h.apart i j (by omega) (by omega) hne
  · rw [List.length_append, List.length_singleton]
    rcases hloc with e | e
    · rw [e] at hg'
      refine ⟨(h.off g hg').1, fun j hj => ?_⟩
      by_cases hj0 : j = bs.length
      · rw [if_pos hj0]
        exact fun hk => by have := hDn g hk; have := (vlt g hg').2; omega
      · rw [if_neg hj0]
        exact (h.off g hg').2 j (by omega)
    · rw [e] at hg'
      injection hg' with hg'
      refine ⟨fun hF => by have := hlt g hF; omega, fun j hj => ?_⟩
      by_cases hj0 : j = bs.length
      · rw [if_pos hj0]
        exact fun hk => by have := Nlt g hk; omega
      · rw [if_neg hj0]
        exact fun hk => by have := Dlt j (by omega) g hk; omega
end
end Go.Proofs.YtmlnhjfdhjachaaGreat

/-
  Making a version on a heap (layer 22): the plain law. No condition.
-/
namespace Go.Proofs.YtmlnhjfdhjachaaGreat
set_option linter.unusedVariables false
open Go.ChangeShapes Go.WideShapes Go.ChangeAt Go.RowKit
open Go.ChangeMaps (setBlock)

/-- A heap that has one block more than another one, and is else the same. -/
structure VS (S0 S : PHeap) (nb : Int) (r : Nat) (cells : List Int) (t : ByteArray) : Prop where
  new : S.find nb = some ⟨nb, r, cells, t⟩
  old : ∀ k, k ≠ nb → S.find k = S0.find k
  last : S.last = S0.last + 1
  faults : S.faults = S0.faults
  keys : ∀ x ∈ S.blocks, x.key ≤ S.last
  len : S.blocks.length = S0.blocks.length + 1
theorem VS.store {S0 S : PHeap} {nb : Int} {r : Nat} {cells : List Int} {t : ByteArray} (h : VS S0 S nb r cells t) (i : Nat) (v : Int) : VS S0 (S.set nb i v) nb r (cells.set i v) t := by
  refine ⟨?_, fun k hk => ?_, h.last, h.faults, fun x hx => ?_, by rw [← h.len]; simp [PHeap.set]⟩
  · rw [set_find, h.new]
    simp
  · rw [find_other _ _ _ _ _ (fun e => hk e.symm)]
    exact h.old k hk
  · obtain ⟨y, hy, rfl⟩ := List.mem_map.1 hx
    have := h.keys y hy
    show (if y.key = nb then ({ y with cells := y.cells.set i v } : PBlk) else y).key ≤ S.last
    split <;> exact this
theorem VS.make {S : PHeap} (hk : ∀ x ∈ S.blocks, x.key ≤ S.last) (r n : Nat) (t : ByteArray) : VS S { S with blocks := S.blocks ++ [⟨S.last + 1, r, List.replicate n 0, t⟩], last := S.last + 1 } (S.last + 1) r (List.replicate n 0) t := by
  have hnone : S.blocks.find? (fun b => b.key == S.last + 1) = none := by
    rw [List.find?_eq_none]
    intro x hx
    have := hk x hx
    simp
    omega
  refine ⟨?_, fun k hne => ?_, rfl, rfl, fun x hx => ?_, by simp⟩
  · unfold PHeap.find
    rw [List.find?_append, hnone]
    simp
  · unfold PHeap.find
    rw [List.find?_append]
    have : ([⟨S.last + 1, r, List.replicate n 0, t⟩] : List PBlk).find? (fun b => b.key == k) = none := by
      simp
      omega
    rw [this]
    simp
  · show x.key ≤ S.last + 1
    rcases List.mem_append.1 hx with hx | hx
    · have := hk x hx
      omega
    · simp at hx
      rw [hx]
      exact Int.le_refl _
def stA (i : Nat) (v : Int) : PAct := ⟨2, 0, i, 0, v, ByteArray.empty⟩
theorem right_storeB (b : Int) (i : Nat) (v : Int) : PAct.right ⟨2, b, i, 0, v, ByteArray.empty⟩ = true := by simp [PAct.right, PAct.fit]
theorem ready_storeB (S : PHeap) (b : Int) (i : Nat) (v : Int) : S.ready ⟨2, b, i, 0, v, ByteArray.empty⟩ = true := by simp [PHeap.ready, right_storeB]
theorem act_storeB {S : PHeap} {b : Int} {x : PBlk} (h : S.find b = some x) (i : Nat) (hi : i < x.cells.length) (v : Int) (r : Nat) : S.act ⟨2, b, i, 0, v, ByteArray.empty⟩ r = (⟨0, ByteArray.empty⟩, S.set b i v) := by
  simp [PHeap.act, right_storeB, PHeap.store, code_hit h ⟨(by omega : (0 : Int) ≤ (i : Int)), (by omega : (i : Int) < x.cells.length)⟩]
def verText (c : PChange) : ByteArray := if c.has then c.value else ByteArray.empty
end Go.Proofs.YtmlnhjfdhjachaaGreat
