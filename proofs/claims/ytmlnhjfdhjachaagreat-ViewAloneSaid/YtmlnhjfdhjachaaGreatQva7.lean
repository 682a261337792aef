import Derived.BigQuiet
import Derived.Deep.RegionWith
import Derived.Test.YtmlnhjfdhjachaaGreatQva6
/-
  The control block: what stands in its cells, and what acts on it do (the plain law); fresh fields. No condition.
-/
namespace Go.Proofs.YtmlnhjfdhjachaaGreat
set_option linter.unusedVariables false
open Go.ChangeShapes Go.WideShapes Go.ChangeAt Go.RowKit
open Go.ChangeMaps (setBlock)

/-- In the control block cell i holds x. -/
def CtlAt (S : PHeap) (i : Nat) (x : Int) : Prop := ∃ b, S.find 1 = some b ∧ i < b.cells.length ∧ b.nth i = x
theorem CtlAt.code {S : PHeap} {i : Nat} {x : Int} (h : CtlAt S i x) : S.code 1 i = 0 := by
  obtain ⟨b, h1, h2, h3⟩ := h
  exact code_hit h1 ⟨by omega, by omega⟩
theorem CtlAt.word {S : PHeap} {i : Nat} {x : Int} (h : CtlAt S i x) : S.word 1 i = x := by
  obtain ⟨b, h1, h2, h3⟩ := h
  rw [word_eq h1]
  simpa using h3
theorem CtlAt.same {S : PHeap} {i : Nat} {x : Int} (h : CtlAt S i x) (v : Int) : CtlAt (S.set 1 i v) i v := by
  obtain ⟨b, h1, h2, h3⟩ := h
  refine ⟨{ b with cells := b.cells.set i v }, ?_, by simpa using h2, ?_⟩
  · rw [set_find, h1]
    simp [(find_mem h1).2]
  · show (b.cells.set i v).getD i 0 = v
    rw [List.getD_eq_getElem?_getD, List.getElem?_set_self h2]
    rfl
theorem CtlAt.other {S : PHeap} {i j : Nat} {x : Int} (h : CtlAt S i x) (v : Int) (hne : j ≠ i) : CtlAt (S.set 1 j v) i x := by
  obtain ⟨b, h1, h2, h3⟩ := h
  refine ⟨{ b with cells := b.cells.set j v }, ?_, by simpa using h2, ?_⟩
  · rw [set_find, h1]
    simp [(find_mem h1).2]
  · show (b.cells.set j v).getD i 0 = x
    rw [List.getD_eq_getElem?_getD, List.getElem?_set_ne hne, ← List.getD_eq_getElem?_getD]
    exact h3
theorem right_load (i : Nat) : PAct.right ⟨1, 1, i, 0, 0, ByteArray.empty⟩ = true := by simp [PAct.right, PAct.fit]
theorem right_swap (i : Nat) (o n : Int) : PAct.right ⟨3, 1, i, o, n, ByteArray.empty⟩ = true := by simp [PAct.right, PAct.fit]
theorem right_store (i : Nat) (n : Int) : PAct.right ⟨2, 1, i, 0, n, ByteArray.empty⟩ = true := by simp [PAct.right, PAct.fit]
theorem CtlAt.load {S : PHeap} {i : Nat} {x : Int} (h : CtlAt S i x) (r : Nat) : S.act ⟨1, 1, i, 0, 0, ByteArray.empty⟩ r = (⟨x, ByteArray.empty⟩, S) := by
  simp [PHeap.act, right_load, PHeap.load, h.code, h.word]
theorem CtlAt.swap {S : PHeap} {i : Nat} {x : Int} (h : CtlAt S i x) (o n : Int) (r : Nat) : S.act ⟨3, 1, i, o, n, ByteArray.empty⟩ r = (⟨x, ByteArray.empty⟩, if x = o then S.set 1 i n else S) := by
  simp [PHeap.act, right_swap, PHeap.swap, h.code, h.word]
theorem CtlAt.store {S : PHeap} {i : Nat} {x : Int} (h : CtlAt S i x) (n : Int) (r : Nat) : S.act ⟨2, 1, i, 0, n, ByteArray.empty⟩ r = (⟨0, ByteArray.empty⟩, S.set 1 i n) := by
  simp [PHeap.act, right_store, PHeap.store, h.code]
theorem ready_load (S : PHeap) (i : Nat) : S.ready ⟨1, 1, i, 0, 0, ByteArray.empty⟩ = true := by simp [PHeap.ready, right_load]
theorem ready_swap (S : PHeap) (i : Nat) (o n : Int) : S.ready ⟨3, 1, i, o, n, ByteArray.empty⟩ = true := by simp [PHeap.ready, right_swap]
theorem ready_store (S : PHeap) (i : Nat) (n : Int) : S.ready ⟨2, 1, i, 0, n, ByteArray.empty⟩ = true := by simp [PHeap.ready, right_store]
/-- A fresh field: a heap whose first block is a config's control block. -/
def ctlSize (c : PCfg) : Nat := (3 + c.pins + c.cap + 2 * c.shelves).toNat
def fieldS (c : PCfg) (r : Nat) : PHeap := ⟨[⟨1, r, List.replicate (ctlSize c) 0, ByteArray.empty⟩], 1, false, 0⟩
theorem field_ctl (c : PCfg) (r i : Nat) (hi : i < ctlSize c) : CtlAt (fieldS c r) i 0 := ⟨_, rfl, by simpa using hi, by simp [PBlk.nth, hi]⟩
theorem ctlSize_eq {c : PCfg} (h : c.Right) : ((ctlSize c : Nat) : Int) = 3 + c.pins + c.cap + 2 * c.shelves ∧ 7 ≤ ctlSize c ∧ ctlSize c ≤ 171 := by
  have := h.pins
  have := h.cap
  have := h.shelves
  unfold ctlSize
  omega
set_option maxHeartbeats 1000000 in
theorem field_any (c : PCfg) (h : c.Right) (w : World) : Calls Tryz.prog 16 #[c.val] w fun e w' => ∃ hb r, e = .returned (.pointer (some ⟨hb, 0, none⟩)) ∧ Sess w hb (fieldS c r) w' := by
  have hP := fun W => planSize_any c h W
  have hE := ctlSize_eq h
  have hF : ∀ r, fieldS c r = { (⟨[], 0, false, 0⟩ : PHeap) with blocks := (⟨[], 0, false, 0⟩ : PHeap).blocks ++ [⟨(0 : Int) + 1, r, List.replicate (ctlSize c) 0, ByteArray.empty⟩], last := (0 : Int) + 1 } := fun r => rfl
  rw [← hE.1] at hP
  generalize ctlSize c = n at *
  generalize hFS : (fun r => fieldS c r) = FS at *
  replace hF : ∀ r, FS r = { (⟨[], 0, false, 0⟩ : PHeap) with blocks := (⟨[], 0, false, 0⟩ : PHeap).blocks ++ [⟨(0 : Int) + 1, r, List.replicate n 0, ByteArray.empty⟩], last := (0 : Int) + 1 } := fun r => by rw [← hFS]; exact hF r
  have hFS' : ∀ r, fieldS c r = FS r := fun r => by rw [← hFS]
  clear hFS
  suffices hS : Calls Tryz.prog 16 #[c.val] w fun e w' => ∃ hb r, e = .returned (.pointer (some ⟨hb, 0, none⟩)) ∧ Sess w hb (FS r) w' by
    refine hS.mono fun e w' ⟨hb, r, he, hs⟩ => ⟨hb, r, he, by rw [hFS']; exact hs⟩
  clear hFS' h
  obtain ⟨a, b, s, q, t, z⟩ := c
  rw [show PCfg.val ⟨a, b, s, q, t, z⟩ = .agg #[.int .i64 a, .int .i64 b, .int .i64 s, .int .i64 q, .int .i64 t, .int .u64 z] from rfl] at *
  have B1 := Blk.new w 24 #[.int .i64 a, .int .i64 b, .int .i64 s, .int .i64 q, .int .i64 t, .int .u64 z]
  have hz : Below w.heap.size w (w.alloc (.cells #[.int .i64 a, .int .i64 b, .int .i64 s, .int .i64 q, .int .i64 t, .int .u64 z] 24)) := (Below.refl _ _).alloc (Nat.le_refl _) _
  replace B1 := Lib.hid B1
  replace hz := Lib.hid hz
  replace hP := Lib.hid hP
  replace hF := Lib.hid hF
  replace hE := Lib.hid hE
  go_enter Tryz.func16, Tryz.ntmps16
  go_wp2_with fail
  refine (new_sess _).mono ?_; rintro e w1 ⟨hb, rfl, s1⟩
  have B2 := B1.out.below s1.below (by simp)
  have d0 := B2.cell 0
  have d1 := B2.cell 1
  have d2 := B2.cell 2
  have d3 := B2.cell 3
  have d4 := B2.cell 4
  have d5 := B2.cell 5
  replace B2 := Lib.hid B2
  replace s1 := Lib.hid s1
  go_wp2_with fail
  refine (hP.out _).mono ?_; rintro e w2 ⟨rfl, hb2⟩
  have s2 := s1.out.keep hb2
  clear hb2
  replace s2 := Lib.hid s2
  go_wp2_with fail
  refine (make_sess s2.out n (by have := hE.out; omega) ByteArray.empty (by decide)).mono ?_; rintro e w3 ⟨rfl, r, s3⟩
  rw [← hF.out r] at s3
  replace s3 := Lib.hid s3
  go_wp2_with fail
  go_ret
  obtain ⟨F, h1, h2, h3⟩ := s3.out
  have hsz := hz.out.size
  exact ⟨hb, r, rfl, F, h1, fun k hk => Nat.le_trans hsz (h2 k hk), hz.out.trans (h3.mono hsz)⟩
def tinyC : PCfg := ⟨2, 2, 3, 2, 1, 0⟩
theorem tiny_right : tinyC.Right := ⟨by decide, by decide, by decide, by decide, by decide⟩
theorem tiny_any (w : World) : Calls Tryz.prog 36 #[] w fun e w' => e = .returned (.agg #[.int .i64 2, .int .i64 2, .int .i64 3, .int .i64 2, .int .i64 1, .int .u64 0]) ∧ Below w.heap.size w w' := by
  go_enter Tryz.func36, Tryz.ntmps36
  go_wp2_with fail
  refine bodyPost_ret (v := .agg #[.int .i64 2, .int .i64 2, .int .i64 3, .int .i64 2, .int .i64 1, .int .u64 0]) (by simp [results, Tryz.results36, go_sem]) rfl ⟨rfl, ?_⟩
  (repeat first | exact Below.refl _ _ | assumption | refine Below.drew ?_ | refine below_drewN ?_ _ | refine Below.more_ ?_ _ | refine Below.setCell ?_ (by first | exact Nat.le_refl _ | (simp; done) | (simp; omega)) _)
end Go.Proofs.YtmlnhjfdhjachaaGreat

/-
  A heap of the call's own, its memory told; a routine that was made behind it goes alone. No condition.
-/
namespace Go.Proofs.YtmlnhjfdhjachaaGreat
set_option linter.unusedVariables false
open Go.ChangeShapes Go.WideShapes Go.ChangeAt Go.RowKit
open Go.ChangeMaps (setBlock)

structure Own (w0 : World) (hb : Nat) (S : PHeap) (F : Nat → Prop) (w : World) : Prop where
  heap : HeapIn w hb S F
  new : ∀ k, F k → w0.heap.size ≤ k
  below : Below w0.heap.size w0 w
theorem Own.of_sess {w0 w : World} {hb : Nat} {S : PHeap} (s : Sess w0 hb S w) : ∃ F, Own w0 hb S F w := by
  obtain ⟨F, h1, h2, h3⟩ := s
  exact ⟨F, h1, h2, h3⟩
theorem Own.keep {w0 w w' : World} {hb : Nat} {S : PHeap} {F : Nat → Prop} (s : Own w0 hb S F w) (hb1 : Below w.heap.size w w') : Own w0 hb S F w' := ⟨s.heap.below hb1, s.new, Below.next_ s.below hb1⟩
theorem Own.alloc {w0 w : World} {hb : Nat} {S : PHeap} {F : Nat → Prop} (s : Own w0 hb S F w) (o : Obj) : Own w0 hb S F (w.alloc o) := s.keep (Below.more_ (Below.refl _ _) o)
theorem Own.off {w0 w w' : World} {hb : Nat} {S : PHeap} {F D : Nat → Prop} (s : Own w0 hb S F w) (hc : Chg D w w') (hD : Off D F) (hw : ∀ k, D k → w0.heap.size ≤ k) : Own w0 hb S F w' :=
  ⟨s.heap.off hc hD, s.new, s.below.trans (hc.below hw s.below.size)⟩
theorem Own.turned {w0 w w' : World} {hb : Nat} {S S' : PHeap} {F : Nat → Prop} (s : Own w0 hb S F w) (t : Turned F hb S' w w') : Own w0 hb S' (nw F w w') w' :=
  ⟨t.1, fun k hk => by
    rcases hk with hk | hk
    · exact s.new k hk
    · exact Nat.le_trans s.below.size hk.1, s.below.trans (t.2.below s.new s.below.size)⟩
def OwnPost {σ : Type} (Rt : Rout σ) (w0 w2 : World) (F D : Nat → Prop) (hb b : Nat) (most : Int) (S : PHeap) (s : σ) (e : Ending) (w' : World) : Prop :=
  ∃ xs S' s' F' D', Runs Rt S s xs S' s' ∧ (most ≤ (xs.length : Nat) ∨ Rt.can S' s' = false) ∧ (((xs.length : Nat) : Int) ≤ most ∨ xs = []) ∧
    e = .returned (.tuple #[.int .i64 (xs.length : Nat), .bool (!(Rt.act s').2)]) ∧ Own w0 hb S' F' w' ∧ Rt.R w' D' b s' ∧ (∀ k, F' k ∨ D' k → F k ∨ D k ∨ w2.heap.size ≤ k) ∧ Chg (fun k => F k ∨ D k) w2 w' ∧ Off F' D'
theorem alone_own {σ : Type} (Rt : Rout σ) {w0 w2 : World} {hb b : Nat} {S : PHeap} {s : σ} {F D : Nat → Prop} (s1 : Own w0 hb S F w2) (hR : Rt.R w2 D b s) (off : Off F D) (hD : ∀ k, D k → w0.heap.size ≤ k)
    (hf : S.faults ≤ 1000000000) (hla : S.last ≤ 1000000000) (most : Int) (hm : most ≤ 1000000) :
    Calls Tryz.prog 20 #[.pointer (some ⟨hb, 0, none⟩), .iface Rt.T (.pointer (some ⟨b, 0, none⟩)), .int .i64 most] w2 (OwnPost Rt w0 w2 F D hb b most S s) := by
  refine (alone_any Rt s1.heap hR off hf hla most hm).mono fun e w' ⟨xs, S', s', h1, h2, h3, h4, h5⟩ => ?_
  obtain ⟨⟨F', D', k1, k2, k3, k4⟩, k5⟩ := h5
  refine ⟨xs, S', s', F', D', h1, h2, h3, h4, ⟨k1, fun k hk => ?_, s1.below.trans (k5.below (fun k hk => ?_) s1.below.size)⟩, k2, fun k hk => ?_, k5, k3⟩
  · rcases k4 k (.inl hk) with (hk | hk) | hk
    · exact s1.new k hk
    · exact hD k hk
    · have := s1.below.size; omega
  · rcases hk with hk | hk
    · exact s1.new k hk
    · exact hD k hk
  · rcases k4 k hk with (hk | hk) | hk
    · exact .inl hk
    · exact .inr (.inl hk)
    · exact .inr (.inr hk)
end Go.Proofs.YtmlnhjfdhjachaaGreat

/-
  The control block's cells: Load and Store of them. No condition.
-/
namespace Go.Proofs.YtmlnhjfdhjachaaGreat
set_option linter.unusedVariables false
open Go.ChangeShapes Go.WideShapes Go.ChangeAt Go.RowKit
open Go.ChangeMaps (setBlock)

theorem ctl_load {w : World} {hb : Nat} {S : PHeap} {F : Nat → Prop} (h : HeapIn w hb S F) {i : Nat} {x : Int} (hc : CtlAt S i x) :
    Calls Tryz.prog 27 #[.pointer (some ⟨hb, 0, none⟩), .int .u64 1, .int .i64 i] w fun e w' => e = .returned (.tuple #[.int .u64 x, .int .i64 0]) ∧ Turned F hb S w w' := by
  obtain ⟨b, q1, q2, q3⟩ := hc
  have := load_hit h q1 i q2
  rwa [q3] at this
theorem ctl_store {w : World} {hb : Nat} {S : PHeap} {F : Nat → Prop} (h : HeapIn w hb S F) {i : Nat} {x : Int} (hc : CtlAt S i x) (v : Int) (hv : 0 ≤ v ∧ v ≤ 18446744073709551615) :
    Calls Tryz.prog 18 #[.pointer (some ⟨hb, 0, none⟩), .int .u64 1, .int .i64 i, .int .u64 v] w fun e w' => e = .returned (.int .i64 0) ∧ Turned F hb (S.set 1 i v) w w' := by
  obtain ⟨b, q1, q2, q3⟩ := hc
  exact store_hit h q1 i q2 hv
end Go.Proofs.YtmlnhjfdhjachaaGreat

/-
  The routine that reads a chain of versions (layer 24): what each of its functions does. No condition.
-/
namespace Go.Proofs.YtmlnhjfdhjachaaGreat
set_option linter.unusedVariables false
open Go.ChangeShapes Go.WideShapes Go.ChangeAt Go.RowKit
open Go.ChangeMaps (setBlock)

structure PChain where
  cell : Int
  epoch : Int
  block : Int
  part : Int
  has : Bool
  text : ByteArray
  vblock : Int
  passed : Int
def PChain.cells (s : PChain) : Array Value := #[.int .i64 s.cell, .int .u64 s.epoch, .int .u64 s.block, .int .i64 s.part, .bool s.has, .string s.text, .int .u64 s.vblock, .int .i64 s.passed]
structure ChainIn (w : World) (b : Nat) (s : PChain) : Prop where
  blk : Blk w b 151 s.cells
  cell : -9223372036854775808 ≤ s.cell ∧ s.cell ≤ 9223372036854775807
  epoch : 0 ≤ s.epoch ∧ s.epoch ≤ 18446744073709551615
  block : 0 ≤ s.block ∧ s.block ≤ 18446744073709551615
  part : 0 ≤ s.part ∧ s.part ≤ 6
theorem ChainIn.keep {w w' : World} {b : Nat} {s : PChain} (h : ChainIn w b s) (hb : w'.heap[b]? = w.heap[b]?) : ChainIn w' b s := ⟨h.blk.keep hb, h.cell, h.epoch, h.block, h.part⟩
theorem ChainIn.below {w w' : World} {b : Nat} {s : PChain} (h : ChainIn w b s) (hb : Below w.heap.size w w') : ChainIn w' b s := h.keep (hb.block _ h.blk.lt)
/-- What it does next. -/
def PChain.act (s : PChain) : PAct × Bool :=
  if s.part = 1 then (⟨1, 1, s.cell, 0, 0, ByteArray.empty⟩, true)
  else if s.part = 2 then (⟨1, s.block, 0, 0, 0, ByteArray.empty⟩, true)
  else if s.part = 3 then (⟨1, s.block, 1, 0, 0, ByteArray.empty⟩, true)
  else if s.part = 4 then (⟨1, s.block, 2, 0, 0, ByteArray.empty⟩, true)
  else if s.part = 5 then (⟨6, s.block, 0, 0, 0, ByteArray.empty⟩, true)
  else (noAct, false)
/-- What was read is put down. -/
def PChain.done_ (s : PChain) (has : Bool) (t : ByteArray) : PChain := { s with has := has, text := t, vblock := s.block, part := 6 }
def PChain.down (s : PChain) (x : Int) : PChain := if x = 0 then PChain.done_ { s with block := x, part := 2 } false ByteArray.empty else { s with block := x, part := 2 }
/-- What it takes. -/
def PChain.take (s : PChain) (g : PGot) : PChain :=
  if s.part = 1 then s.down g.word
  else if s.part = 2 then (if s.epoch < g.word then { s with part := 3 } else { s with part := 4 })
  else if s.part = 3 then PChain.down { s with passed := IntKind.i64.wrap (s.passed + 1) } g.word
  else if s.part = 4 then (if g.word = 0 then PChain.done_ { s with part := 5 } false ByteArray.empty else { s with part := 5 })
  else if s.part = 5 then s.done_ true g.text
  else s
def PChain.result (s : PChain) : (Bool × ByteArray × Int) × Bool := if s.part = 6 then ((s.has, s.text, s.vblock), true) else ((false, ByteArray.empty, 0), false)
set_option maxHeartbeats 1000000 in
theorem chainResult_any {w : World} {b : Nat} {s : PChain} (h : ChainIn w b s) : Calls Tryz.prog 84 #[.pointer (some ⟨b, 0, none⟩)] w fun e w' => e = .returned (.tuple #[.agg #[.bool s.result.1.1, .string s.result.1.2.1, .int .u64 s.result.1.2.2], .bool s.result.2]) ∧ Below w.heap.size w w' := by
  have hr : s.result = if s.part = 6 then ((s.has, s.text, s.vblock), true) else ((false, ByteArray.empty, 0), false) := rfl
  rw [hr]
  clear hr
  obtain ⟨cell, epoch, block, part, has, text, vblock, passed⟩ := s
  have hB : Blk w b 151 #[.int .i64 cell, .int .u64 epoch, .int .u64 block, .int .i64 part, .bool has, .string text, .int .u64 vblock, .int .i64 passed] := h.blk
  have c3 := hB.cell 3
  have c4 := hB.cell 4
  have c5 := hB.cell 5
  have c6 := hB.cell 6
  have hlt := hB.lt
  replace h := Lib.hid h
  replace hB := Lib.hid hB
  by_cases hp : part = 6
  · subst hp
    go_enter Tryz.func84, Tryz.ntmps84
    go_wp2_with fail
    refine bodyPost_ret (v := .tuple #[.agg #[.bool has, .string text, .int .u64 vblock], .bool true]) (by simp [results, Tryz.results84, go_sem]) rfl ⟨by simp, ?_⟩
    (repeat first | exact Below.refl _ _ | assumption | refine Below.drew ?_ | refine below_drewN ?_ _ | refine Below.more_ ?_ _ | refine Below.setCell ?_ (by first | exact Nat.le_refl _ | (simp; done) | (simp; omega)) _)
  · have d1 : (part == 6) = false := by simp [hp]
    simp only [hp, if_false]
    replace hp' := Lib.hid hp
    go_enter Tryz.func84, Tryz.ntmps84
    go_wp2_with fail
    refine bodyPost_ret (v := .tuple #[.agg #[.bool false, .string ⟨#[]⟩, .int .u64 0], .bool false]) (by simp [results, Tryz.results84, go_sem]) rfl ⟨rfl, ?_⟩
    (repeat first | exact Below.refl _ _ | assumption | refine Below.drew ?_ | refine below_drewN ?_ _ | refine Below.more_ ?_ _ | refine Below.setCell ?_ (by first | exact Nat.le_refl _ | (simp; done) | (simp; omega)) _)
set_option maxRecDepth 100000 in
set_option maxHeartbeats 8000000 in
theorem chainAct_any {w : World} {b : Nat} {s : PChain} (h : ChainIn w b s) : Calls Tryz.prog 40 #[.pointer (some ⟨b, 0, none⟩)] w fun e w' => e = .returned (.tuple #[s.act.1.val, .bool s.act.2]) ∧ Below w.heap.size w w' := by
  have hA : s.act = if s.part = 1 then (⟨1, 1, s.cell, 0, 0, ByteArray.empty⟩, true) else if s.part = 2 then (⟨1, s.block, 0, 0, 0, ByteArray.empty⟩, true) else if s.part = 3 then (⟨1, s.block, 1, 0, 0, ByteArray.empty⟩, true) else if s.part = 4 then (⟨1, s.block, 2, 0, 0, ByteArray.empty⟩, true) else if s.part = 5 then (⟨6, s.block, 0, 0, 0, ByteArray.empty⟩, true) else (noAct, false) := rfl
  have hp5 := h.part
  rw [hA]
  clear hA
  obtain ⟨cell, epoch, block, part, has, text, vblock, passed⟩ := s
  simp only at hp5 ⊢
  have hB : Blk w b 151 #[.int .i64 cell, .int .u64 epoch, .int .u64 block, .int .i64 part, .bool has, .string text, .int .u64 vblock, .int .i64 passed] := h.blk
  have c0 := hB.cell 0
  have c2 := hB.cell 2
  have c3 := hB.cell 3
  have hlt := hB.lt
  replace h := Lib.hid h
  replace hB := Lib.hid hB
  have hcase : part = 0 ∨ part = 1 ∨ part = 2 ∨ part = 3 ∨ part = 4 ∨ part = 5 ∨ part = 6 := by omega
  rcases hcase with rfl | rfl | rfl | rfl | rfl | rfl | rfl
  · as_aux_lemma =>
      simp (config := { decide := true }) only [if_false]
      change Calls Tryz.prog _ _ _ (fun e w' => e = .returned (.tuple #[.agg #[.int .i64 0, .int .u64 0, .int .i64 0, .int .u64 0, .int .u64 0, .string ⟨#[]⟩], .bool false]) ∧ _)
      go_enter Tryz.func40, Tryz.ntmps40
      go_wp2_with fail
      refine bodyPost_ret (v := .tuple #[.agg #[.int .i64 0, .int .u64 0, .int .i64 0, .int .u64 0, .int .u64 0, .string ⟨#[]⟩], .bool false]) (by simp [results, Tryz.results40, go_sem]) rfl ⟨rfl, ?_⟩
      (repeat first | exact Below.refl _ _ | assumption | refine Below.drew ?_ | refine below_drewN ?_ _ | refine Below.more_ ?_ _ | refine Below.setCell ?_ (by first | exact Nat.le_refl _ | (simp; done) | (simp; omega)) _)
  · as_aux_lemma =>
      simp (config := { decide := true }) only [if_true, if_false]
      change Calls Tryz.prog _ _ _ (fun e w' => e = .returned (.tuple #[.agg #[.int .i64 1, .int .u64 1, .int .i64 cell, .int .u64 0, .int .u64 0, .string ⟨#[]⟩], .bool true]) ∧ _)
      go_enter Tryz.func40, Tryz.ntmps40
      go_wp2_with fail
      go_region
      go_wp2_with fail
      refine bodyPost_ret (v := .tuple #[.agg #[.int .i64 1, .int .u64 1, .int .i64 cell, .int .u64 0, .int .u64 0, .string ⟨#[]⟩], .bool true]) (by simp [results, Tryz.results40, go_sem]) rfl ⟨rfl, ?_⟩
      (repeat first | exact Below.refl _ _ | assumption | refine Below.drew ?_ | refine below_drewN ?_ _ | refine Below.more_ ?_ _ | refine Below.setCell ?_ (by first | exact Nat.le_refl _ | (simp; done) | (simp; omega)) _)
  · as_aux_lemma =>
      simp (config := { decide := true }) only [if_true, if_false]
      change Calls Tryz.prog _ _ _ (fun e w' => e = .returned (.tuple #[.agg #[.int .i64 1, .int .u64 block, .int .i64 0, .int .u64 0, .int .u64 0, .string ⟨#[]⟩], .bool true]) ∧ _)
      go_enter Tryz.func40, Tryz.ntmps40
      go_wp2_with fail
      refine bodyPost_ret (v := .tuple #[.agg #[.int .i64 1, .int .u64 block, .int .i64 0, .int .u64 0, .int .u64 0, .string ⟨#[]⟩], .bool true]) (by simp [results, Tryz.results40, go_sem]) rfl ⟨rfl, ?_⟩
      (repeat first | exact Below.refl _ _ | assumption | refine Below.drew ?_ | refine below_drewN ?_ _ | refine Below.more_ ?_ _ | refine Below.setCell ?_ (by first | exact Nat.le_refl _ | (simp; done) | (simp; omega)) _)
  · as_aux_lemma =>
      simp (config := { decide := true }) only [if_true, if_false]
      change Calls Tryz.prog _ _ _ (fun e w' => e = .returned (.tuple #[.agg #[.int .i64 1, .int .u64 block, .int .i64 1, .int .u64 0, .int .u64 0, .string ⟨#[]⟩], .bool true]) ∧ _)
      go_enter Tryz.func40, Tryz.ntmps40
      go_wp2_with fail
      refine bodyPost_ret (v := .tuple #[.agg #[.int .i64 1, .int .u64 block, .int .i64 1, .int .u64 0, .int .u64 0, .string ⟨#[]⟩], .bool true]) (by simp [results, Tryz.results40, go_sem]) rfl ⟨rfl, ?_⟩
      (repeat first | exact Below.refl _ _ | assumption | refine Below.drew ?_ | refine below_drewN ?_ _ | refine Below.more_ ?_ _ | refine Below.setCell ?_ (by first | exact Nat.le_refl _ | (simp; done) | (simp; omega)) _)
  · as_aux_lemma =>
      simp (config := { decide := true }) only [if_true, if_false]
      change Calls Tryz.prog _ _ _ (fun e w' => e = .returned (.tuple #[.agg #[.int .i64 1, .int .u64 block, .int .i64 2, .int .u64 0, .int .u64 0, .string ⟨#[]⟩], .bool true]) ∧ _)
      go_enter Tryz.func40, Tryz.ntmps40
      go_wp2_with fail
      refine bodyPost_ret (v := .tuple #[.agg #[.int .i64 1, .int .u64 block, .int .i64 2, .int .u64 0, .int .u64 0, .string ⟨#[]⟩], .bool true]) (by simp [results, Tryz.results40, go_sem]) rfl ⟨rfl, ?_⟩
      (repeat first | exact Below.refl _ _ | assumption | refine Below.drew ?_ | refine below_drewN ?_ _ | refine Below.more_ ?_ _ | refine Below.setCell ?_ (by first | exact Nat.le_refl _ | (simp; done) | (simp; omega)) _)
  · as_aux_lemma =>
      simp (config := { decide := true }) only [if_true, if_false]
      change Calls Tryz.prog _ _ _ (fun e w' => e = .returned (.tuple #[.agg #[.int .i64 6, .int .u64 block, .int .i64 0, .int .u64 0, .int .u64 0, .string ⟨#[]⟩], .bool true]) ∧ _)
      go_enter Tryz.func40, Tryz.ntmps40
      go_wp2_with fail
      refine bodyPost_ret (v := .tuple #[.agg #[.int .i64 6, .int .u64 block, .int .i64 0, .int .u64 0, .int .u64 0, .string ⟨#[]⟩], .bool true]) (by simp [results, Tryz.results40, go_sem]) rfl ⟨rfl, ?_⟩
      (repeat first | exact Below.refl _ _ | assumption | refine Below.drew ?_ | refine below_drewN ?_ _ | refine Below.more_ ?_ _ | refine Below.setCell ?_ (by first | exact Nat.le_refl _ | (simp; done) | (simp; omega)) _)
  · as_aux_lemma =>
      simp (config := { decide := true }) only [if_false]
      change Calls Tryz.prog _ _ _ (fun e w' => e = .returned (.tuple #[.agg #[.int .i64 0, .int .u64 0, .int .i64 0, .int .u64 0, .int .u64 0, .string ⟨#[]⟩], .bool false]) ∧ _)
      go_enter Tryz.func40, Tryz.ntmps40
      go_wp2_with fail
      refine bodyPost_ret (v := .tuple #[.agg #[.int .i64 0, .int .u64 0, .int .i64 0, .int .u64 0, .int .u64 0, .string ⟨#[]⟩], .bool false]) (by simp [results, Tryz.results40, go_sem]) rfl ⟨rfl, ?_⟩
      (repeat first | exact Below.refl _ _ | assumption | refine Below.drew ?_ | refine below_drewN ?_ _ | refine Below.more_ ?_ _ | refine Below.setCell ?_ (by first | exact Nat.le_refl _ | (simp; done) | (simp; omega)) _)
end Go.Proofs.YtmlnhjfdhjachaaGreat

/-
  The routine that reads a chain of versions (layer 24): what it takes. No condition.
-/
namespace Go.Proofs.YtmlnhjfdhjachaaGreat
set_option linter.unusedVariables false
open Go.ChangeShapes Go.WideShapes Go.ChangeAt Go.RowKit
open Go.ChangeMaps (setBlock)

theorem chg_setCell {w W : World} {b : Nat} (h : Chg (fun k => k = b) w W) (i : Nat) (v : Value) : Chg (fun k => k = b) w (W.setCell ⟨b, i, none⟩ v) := Chg.setCell h (by left; rfl) v
set_option maxRecDepth 100000 in
set_option maxHeartbeats 2000000 in
theorem end_any {w : World} {b : Nat} {cell epoch block part vblock passed : Int} {has : Bool} {text : ByteArray} (hB : Blk w b 151 #[.int .i64 cell, .int .u64 epoch, .int .u64 block, .int .i64 part, .bool has, .string text, .int .u64 vblock, .int .i64 passed]) (hs : Bool) (t : ByteArray) : Calls Tryz.prog 83 #[.pointer (some ⟨b, 0, none⟩), .bool hs, .string t] w fun e w' => e = .returned (.tuple #[]) ∧ Blk w' b 151 #[.int .i64 cell, .int .u64 epoch, .int .u64 block, .int .i64 6, .bool hs, .string t, .int .u64 block, .int .i64 passed] ∧ Chg (fun k => k = b) w w' := by
  have c2 := hB.cell 2
  have c3 := hB.cell 3
  have c4 := hB.cell 4
  have c5 := hB.cell 5
  have c6 := hB.cell 6
  have f3 := hB.frozen 3
  have f4 := hB.frozen 4
  have f5 := hB.frozen 5
  have f6 := hB.frozen 6
  have hlt := hB.lt
  replace hB := Lib.hid hB
  go_enter Tryz.func83, Tryz.ntmps83
  go_wp2_with fail
  refine gen_world (α := fun W' => bodyPost _ _ _ _ _ W') (fun W' => Blk W' b 151 #[.int .i64 cell, .int .u64 epoch, .int .u64 block, .int .i64 6, .bool hs, .string t, .int .u64 block, .int .i64 passed] ∧ Chg (fun k => k = b) w W') ⟨?_, ?_⟩ ?_
  · exact Blk.eq_cs ((((hB.out.set_ 4 _).set_ 5 _).set_ 6 _).set_ 3 _) rfl
  · exact chg_setCell (chg_setCell (chg_setCell (chg_setCell (Chg.refl _ _) _ _) _ _) _ _) _ _
  rintro W' ⟨g1, g2⟩
  exact bodyPost_end (v := .tuple #[]) (results_none (by kernel_rfl) _ _ _) rfl ⟨rfl, g1, g2⟩
set_option maxRecDepth 100000 in
set_option maxHeartbeats 16000000 in
theorem chainTake_any {w : World} {b : Nat} {s : PChain} (h : ChainIn w b s) (g : PGot) (hg : g.Ok) : Calls Tryz.prog 53 #[.pointer (some ⟨b, 0, none⟩), g.val] w fun e w' => e = .returned (.tuple #[]) ∧ ChainIn w' b (s.take g) ∧ Chg (fun k => k = b) w w' := by
  obtain ⟨gw, gt⟩ := g
  rw [show PGot.val ⟨gw, gt⟩ = .agg #[.int .u64 gw, .string gt] from rfl]
  have hT : s.take ⟨gw, gt⟩ = if s.part = 1 then s.down gw else if s.part = 2 then (if s.epoch < gw then { s with part := 3 } else { s with part := 4 }) else if s.part = 3 then PChain.down { s with passed := IntKind.i64.wrap (s.passed + 1) } gw else if s.part = 4 then (if gw = 0 then PChain.done_ { s with part := 5 } false ByteArray.empty else { s with part := 5 }) else if s.part = 5 then s.done_ true gt else s := rfl
  rw [hT]
  clear hT
  have hz : Below w.heap.size w (w.alloc (.cells #[.int .u64 gw, .string gt] 52)) := (Below.refl _ _).alloc (Nat.le_refl _) _
  have hp := h.part
  have hcl := h.cell
  have hep := h.epoch
  have hbl := h.block
  obtain ⟨cell, epoch, block, part, has, text, vblock, passed⟩ := s
  simp only at hp hcl hep hbl ⊢
  have hB : Blk w b 151 #[.int .i64 cell, .int .u64 epoch, .int .u64 block, .int .i64 part, .bool has, .string text, .int .u64 vblock, .int .i64 passed] := h.blk
  have c1 := hB.cell 1
  have c2 := hB.cell 2
  have c3 := hB.cell 3
  have c7 := hB.cell 7
  have f2 := hB.frozen 2
  have f3 := hB.frozen 3
  have f7 := hB.frozen 7
  have hlt := hB.lt
  generalize hpw : IntKind.i64.wrap (passed + 1) = pw at *
  have hpw2 : wrap64 (passed + 1) = pw := by rw [← IntWalk.i64_left]; exact hpw
  replace hpw := Lib.hid hpw
  have hg0 : 0 ≤ gw ∧ gw ≤ 18446744073709551615 := hg
  replace h := Lib.hid h
  replace hB := Lib.hid hB
  replace hz := Lib.hid hz
  have hcase : part = 0 ∨ part = 1 ∨ part = 2 ∨ part = 3 ∨ part = 4 ∨ part = 5 ∨ part = 6 := by omega
  rcases hcase with rfl | rfl | rfl | rfl | rfl | rfl | rfl
  · simp (config := { decide := true }) only [if_false]
    as_aux_lemma =>
      go_enter Tryz.func53, Tryz.ntmps53
      go_wp2_with fail
      exact bodyPost_end (v := .tuple #[]) (results_none (by kernel_rfl) _ _ _) rfl ⟨rfl, h.out.below hz.out, Chg.of_below hz.out _⟩
  · simp (config := { decide := true }) only [if_true, if_false]
    by_cases hc : gw = 0
    · subst hc
      rw [show PChain.down _ 0 = _ from if_pos rfl]
      as_aux_lemma =>
        go_enter Tryz.func53, Tryz.ntmps53
        go_wp2_with fail
        refine (end_any (cell := cell) (epoch := epoch) (block := 0) (part := 2) (vblock := vblock) (passed := passed) (has := has) (text := text) ?_ false ⟨#[]⟩).mono ?_
        · refine Blk.eq_cs (cs := (((#[.int .i64 cell, .int .u64 epoch, .int .u64 block, .int .i64 1, .bool has, .string text, .int .u64 vblock, .int .i64 passed] : Array Value).setIfInBounds 2 (.int .u64 0)).setIfInBounds 3 (.int .i64 2))) ?_ rfl
          have hB := hB.out
          (repeat first | with_reducible exact hB | with_reducible refine Blk.drewN ?_ _ | with_reducible refine Blk.drew ?_ | with_reducible refine Blk.alloc ?_ _ | with_reducible refine Blk.set_ ?_ _ _ | refine Blk.far ?_ (by simp; omega) _)
        rintro e w1 ⟨rfl, g1, g2⟩
        have g3 : Chg (fun k => k = b) w w1 := Chg.trans (by
          have hC := Chg.refl (fun k => k = b) w
          repeat first | with_reducible exact hC | with_reducible refine Chg.drew ?_ | with_reducible refine Chg.drewN ?_ _ | with_reducible refine Chg.alloc ?_ _ | refine Chg.setCell ?_ (by left; rfl) _) g2 fun i hi => Or.inl hi
        clear g2
        replace g1 := Lib.hid g1
        replace g3 := Lib.hid g3
        go_wp2_with fail
        exact bodyPost_end (v := .tuple #[]) (results_none (by kernel_rfl) _ _ _) rfl ⟨rfl, ⟨g1.out, hcl, hep, by show (0 : Int) ≤ 0 ∧ (0 : Int) ≤ 18446744073709551615; decide, by show (0 : Int) ≤ 6 ∧ (6 : Int) ≤ 6; decide⟩, g3.out⟩
    · rw [show PChain.down _ gw = _ from if_neg hc]
      have d1 : (gw == 0) = false := by simp [hc]
      replace hc := Lib.hid hc
      as_aux_lemma =>
        go_enter Tryz.func53, Tryz.ntmps53
        go_wp2_with fail
        refine gen_world (α := fun W' => bodyPost _ _ _ _ _ W') (fun W' => Blk W' b 151 #[.int .i64 cell, .int .u64 epoch, .int .u64 gw, .int .i64 2, .bool has, .string text, .int .u64 vblock, .int .i64 passed] ∧ Chg (fun k => k = b) w W') ⟨?_, ?_⟩ ?_
        · refine Blk.eq_cs (cs := (((#[.int .i64 cell, .int .u64 epoch, .int .u64 block, .int .i64 1, .bool has, .string text, .int .u64 vblock, .int .i64 passed] : Array Value).setIfInBounds 2 (.int .u64 gw)).setIfInBounds 3 (.int .i64 2))) ?_ rfl
          have hB := hB.out
          (repeat first | with_reducible exact hB | with_reducible refine Blk.drewN ?_ _ | with_reducible refine Blk.drew ?_ | with_reducible refine Blk.alloc ?_ _ | with_reducible refine Blk.set_ ?_ _ _ | refine Blk.far ?_ (by simp; omega) _)
        · have hC := Chg.refl (fun k => k = b) w
          repeat first | with_reducible exact hC | with_reducible refine Chg.drew ?_ | with_reducible refine Chg.drewN ?_ _ | with_reducible refine Chg.alloc ?_ _ | refine Chg.setCell ?_ (by left; rfl) _
        rintro W' ⟨g1, g2⟩
        exact bodyPost_end (v := .tuple #[]) (results_none (by kernel_rfl) _ _ _) rfl ⟨rfl, ⟨g1, hcl, hep, hg0, by show (0 : Int) ≤ 2 ∧ (2 : Int) ≤ 6; decide⟩, g2⟩
  · simp (config := { decide := true }) only [if_true, if_false]
    by_cases hc : epoch < gw
    · rw [if_pos hc]
      have d1 : decide (epoch < gw) = true := by simp [hc]
      replace hc := Lib.hid hc
      as_aux_lemma =>
        go_enter Tryz.func53, Tryz.ntmps53
        go_wp2_with fail
        go_quiet (fail)
        go_wp2_with fail
        refine gen_world (α := fun W' => bodyPost _ _ _ _ _ W') (fun W' => Blk W' b 151 #[.int .i64 cell, .int .u64 epoch, .int .u64 block, .int .i64 3, .bool has, .string text, .int .u64 vblock, .int .i64 passed] ∧ Chg (fun k => k = b) w W') ⟨?_, ?_⟩ ?_
        · refine Blk.eq_cs (cs := (((#[.int .i64 cell, .int .u64 epoch, .int .u64 block, .int .i64 2, .bool has, .string text, .int .u64 vblock, .int .i64 passed] : Array Value).setIfInBounds 3 (.int .i64 4)).setIfInBounds 3 (.int .i64 3))) ?_ rfl
          have hB := hB.out
          (repeat first | with_reducible exact hB | with_reducible refine Blk.drewN ?_ _ | with_reducible refine Blk.drew ?_ | with_reducible refine Blk.alloc ?_ _ | with_reducible refine Blk.set_ ?_ _ _ | refine Blk.far ?_ (by simp; omega) _)
        · have hC := Chg.refl (fun k => k = b) w
          repeat first | with_reducible exact hC | with_reducible refine Chg.drew ?_ | with_reducible refine Chg.drewN ?_ _ | with_reducible refine Chg.alloc ?_ _ | refine Chg.setCell ?_ (by left; rfl) _
        rintro W' ⟨g1, g2⟩
        exact bodyPost_end (v := .tuple #[]) (results_none (by kernel_rfl) _ _ _) rfl ⟨rfl, ⟨g1, hcl, hep, hbl, by show (0 : Int) ≤ 3 ∧ (3 : Int) ≤ 6; decide⟩, g2⟩
    · rw [if_neg hc]
      have d1 : decide (epoch < gw) = false := by simp [hc]
      replace hc := Lib.hid hc
      as_aux_lemma =>
        go_enter Tryz.func53, Tryz.ntmps53
        go_wp2_with fail
        go_quiet (fail)
        go_wp2_with fail
        refine gen_world (α := fun W' => bodyPost _ _ _ _ _ W') (fun W' => Blk W' b 151 #[.int .i64 cell, .int .u64 epoch, .int .u64 block, .int .i64 4, .bool has, .string text, .int .u64 vblock, .int .i64 passed] ∧ Chg (fun k => k = b) w W') ⟨?_, ?_⟩ ?_
        · refine Blk.eq_cs (cs := ((#[.int .i64 cell, .int .u64 epoch, .int .u64 block, .int .i64 2, .bool has, .string text, .int .u64 vblock, .int .i64 passed] : Array Value).setIfInBounds 3 (.int .i64 4))) ?_ rfl
          have hB := hB.out
          (repeat first | with_reducible exact hB | with_reducible refine Blk.drewN ?_ _ | with_reducible refine Blk.drew ?_ | with_reducible refine Blk.alloc ?_ _ | with_reducible refine Blk.set_ ?_ _ _ | refine Blk.far ?_ (by simp; omega) _)
        · have hC := Chg.refl (fun k => k = b) w
          repeat first | with_reducible exact hC | with_reducible refine Chg.drew ?_ | with_reducible refine Chg.drewN ?_ _ | with_reducible refine Chg.alloc ?_ _ | refine Chg.setCell ?_ (by left; rfl) _
        rintro W' ⟨g1, g2⟩
        exact bodyPost_end (v := .tuple #[]) (results_none (by kernel_rfl) _ _ _) rfl ⟨rfl, ⟨g1, hcl, hep, hbl, by show (0 : Int) ≤ 4 ∧ (4 : Int) ≤ 6; decide⟩, g2⟩
  · simp (config := { decide := true }) only [if_true, if_false]
    by_cases hc : gw = 0
    · subst hc
      rw [show PChain.down _ 0 = _ from if_pos rfl]
      as_aux_lemma =>
        go_enter Tryz.func53, Tryz.ntmps53
        go_wp2_with fail
        refine (end_any (cell := cell) (epoch := epoch) (block := 0) (part := 2) (vblock := vblock) (passed := pw) (has := has) (text := text) ?_ false ⟨#[]⟩).mono ?_
        · refine Blk.eq_cs (cs := ((((#[.int .i64 cell, .int .u64 epoch, .int .u64 block, .int .i64 3, .bool has, .string text, .int .u64 vblock, .int .i64 passed] : Array Value).setIfInBounds 7 (.int .i64 pw)).setIfInBounds 2 (.int .u64 0)).setIfInBounds 3 (.int .i64 2))) ?_ rfl
          have hB := hB.out
          (repeat first | with_reducible exact hB | with_reducible refine Blk.drewN ?_ _ | with_reducible refine Blk.drew ?_ | with_reducible refine Blk.alloc ?_ _ | with_reducible refine Blk.set_ ?_ _ _ | refine Blk.far ?_ (by simp; omega) _)
        rintro e w1 ⟨rfl, g1, g2⟩
        have g3 : Chg (fun k => k = b) w w1 := Chg.trans (by
          have hC := Chg.refl (fun k => k = b) w
          repeat first | with_reducible exact hC | with_reducible refine Chg.drew ?_ | with_reducible refine Chg.drewN ?_ _ | with_reducible refine Chg.alloc ?_ _ | refine Chg.setCell ?_ (by left; rfl) _) g2 fun i hi => Or.inl hi
        clear g2
        replace g1 := Lib.hid g1
        replace g3 := Lib.hid g3
        go_wp2_with fail
        exact bodyPost_end (v := .tuple #[]) (results_none (by kernel_rfl) _ _ _) rfl ⟨rfl, ⟨g1.out, hcl, hep, by show (0 : Int) ≤ 0 ∧ (0 : Int) ≤ 18446744073709551615; decide, by show (0 : Int) ≤ 6 ∧ (6 : Int) ≤ 6; decide⟩, g3.out⟩
    · rw [show PChain.down _ gw = _ from if_neg hc]
      have d1 : (gw == 0) = false := by simp [hc]
      replace hc := Lib.hid hc
      as_aux_lemma =>
        go_enter Tryz.func53, Tryz.ntmps53
        go_wp2_with fail
        refine gen_world (α := fun W' => bodyPost _ _ _ _ _ W') (fun W' => Blk W' b 151 #[.int .i64 cell, .int .u64 epoch, .int .u64 gw, .int .i64 2, .bool has, .string text, .int .u64 vblock, .int .i64 pw] ∧ Chg (fun k => k = b) w W') ⟨?_, ?_⟩ ?_
        · refine Blk.eq_cs (cs := ((((#[.int .i64 cell, .int .u64 epoch, .int .u64 block, .int .i64 3, .bool has, .string text, .int .u64 vblock, .int .i64 passed] : Array Value).setIfInBounds 7 (.int .i64 pw)).setIfInBounds 2 (.int .u64 gw)).setIfInBounds 3 (.int .i64 2))) ?_ rfl
          have hB := hB.out
          (repeat first | with_reducible exact hB | with_reducible refine Blk.drewN ?_ _ | with_reducible refine Blk.drew ?_ | with_reducible refine Blk.alloc ?_ _ | with_reducible refine Blk.set_ ?_ _ _ | refine Blk.far ?_ (by simp; omega) _)
        · have hC := Chg.refl (fun k => k = b) w
          repeat first | with_reducible exact hC | with_reducible refine Chg.drew ?_ | with_reducible refine Chg.drewN ?_ _ | with_reducible refine Chg.alloc ?_ _ | refine Chg.setCell ?_ (by left; rfl) _
        rintro W' ⟨g1, g2⟩
        exact bodyPost_end (v := .tuple #[]) (results_none (by kernel_rfl) _ _ _) rfl ⟨rfl, ⟨g1, hcl, hep, hg0, by show (0 : Int) ≤ 2 ∧ (2 : Int) ≤ 6; decide⟩, g2⟩
  · simp (config := { decide := true }) only [if_true, if_false]
    by_cases hc : gw = 0
    · subst hc
      simp only [if_true]
      as_aux_lemma =>
        go_enter Tryz.func53, Tryz.ntmps53
        go_wp2_with fail
        refine (end_any (cell := cell) (epoch := epoch) (block := block) (part := 5) (vblock := vblock) (passed := passed) (has := has) (text := text) ?_ false ⟨#[]⟩).mono ?_
        · refine Blk.eq_cs (cs := ((#[.int .i64 cell, .int .u64 epoch, .int .u64 block, .int .i64 4, .bool has, .string text, .int .u64 vblock, .int .i64 passed] : Array Value).setIfInBounds 3 (.int .i64 5))) ?_ rfl
          have hB := hB.out
          (repeat first | with_reducible exact hB | with_reducible refine Blk.drewN ?_ _ | with_reducible refine Blk.drew ?_ | with_reducible refine Blk.alloc ?_ _ | with_reducible refine Blk.set_ ?_ _ _ | refine Blk.far ?_ (by simp; omega) _)
        rintro e w1 ⟨rfl, g1, g2⟩
        have g3 : Chg (fun k => k = b) w w1 := Chg.trans (by
          have hC := Chg.refl (fun k => k = b) w
          repeat first | with_reducible exact hC | with_reducible refine Chg.drew ?_ | with_reducible refine Chg.drewN ?_ _ | with_reducible refine Chg.alloc ?_ _ | refine Chg.setCell ?_ (by left; rfl) _) g2 fun i hi => Or.inl hi
        clear g2
        replace g1 := Lib.hid g1
        replace g3 := Lib.hid g3
        go_wp2_with fail
        exact bodyPost_end (v := .tuple #[]) (results_none (by kernel_rfl) _ _ _) rfl ⟨rfl, ⟨g1.out, hcl, hep, hbl, by show (0 : Int) ≤ 6 ∧ (6 : Int) ≤ 6; decide⟩, g3.out⟩
    · rw [if_neg hc]
      have d1 : (gw == 0) = false := by simp [hc]
      replace hc := Lib.hid hc
      as_aux_lemma =>
        go_enter Tryz.func53, Tryz.ntmps53
        go_wp2_with fail
        refine gen_world (α := fun W' => bodyPost _ _ _ _ _ W') (fun W' => Blk W' b 151 #[.int .i64 cell, .int .u64 epoch, .int .u64 block, .int .i64 5, .bool has, .string text, .int .u64 vblock, .int .i64 passed] ∧ Chg (fun k => k = b) w W') ⟨?_, ?_⟩ ?_
        · refine Blk.eq_cs (cs := ((#[.int .i64 cell, .int .u64 epoch, .int .u64 block, .int .i64 4, .bool has, .string text, .int .u64 vblock, .int .i64 passed] : Array Value).setIfInBounds 3 (.int .i64 5))) ?_ rfl
          have hB := hB.out
          (repeat first | with_reducible exact hB | with_reducible refine Blk.drewN ?_ _ | with_reducible refine Blk.drew ?_ | with_reducible refine Blk.alloc ?_ _ | with_reducible refine Blk.set_ ?_ _ _ | refine Blk.far ?_ (by simp; omega) _)
        · have hC := Chg.refl (fun k => k = b) w
          repeat first | with_reducible exact hC | with_reducible refine Chg.drew ?_ | with_reducible refine Chg.drewN ?_ _ | with_reducible refine Chg.alloc ?_ _ | refine Chg.setCell ?_ (by left; rfl) _
        rintro W' ⟨g1, g2⟩
        exact bodyPost_end (v := .tuple #[]) (results_none (by kernel_rfl) _ _ _) rfl ⟨rfl, ⟨g1, hcl, hep, hbl, by show (0 : Int) ≤ 5 ∧ (5 : Int) ≤ 6; decide⟩, g2⟩
  · simp (config := { decide := true }) only [if_true, if_false]
    as_aux_lemma =>
      go_enter Tryz.func53, Tryz.ntmps53
      go_wp2_with fail
      refine (end_any (cell := cell) (epoch := epoch) (block := block) (part := 5) (vblock := vblock) (passed := passed) (has := has) (text := text) ?_ true gt).mono ?_
      · refine Blk.eq_cs (cs := (#[.int .i64 cell, .int .u64 epoch, .int .u64 block, .int .i64 5, .bool has, .string text, .int .u64 vblock, .int .i64 passed] : Array Value)) ?_ rfl
        have hB := hB.out
        (repeat first | with_reducible exact hB | with_reducible refine Blk.drewN ?_ _ | with_reducible refine Blk.drew ?_ | with_reducible refine Blk.alloc ?_ _ | with_reducible refine Blk.set_ ?_ _ _ | refine Blk.far ?_ (by simp; omega) _)
      rintro e w1 ⟨rfl, g1, g2⟩
      have g3 : Chg (fun k => k = b) w w1 := Chg.trans (by
        have hC := Chg.refl (fun k => k = b) w
        repeat first | with_reducible exact hC | with_reducible refine Chg.drew ?_ | with_reducible refine Chg.drewN ?_ _ | with_reducible refine Chg.alloc ?_ _ | refine Chg.setCell ?_ (by left; rfl) _) g2 fun i hi => Or.inl hi
      clear g2
      replace g1 := Lib.hid g1
      replace g3 := Lib.hid g3
      go_wp2_with fail
      exact bodyPost_end (v := .tuple #[]) (results_none (by kernel_rfl) _ _ _) rfl ⟨rfl, ⟨g1.out, hcl, hep, hbl, by show (0 : Int) ≤ 6 ∧ (6 : Int) ≤ 6; decide⟩, g3.out⟩
  · simp (config := { decide := true }) only [if_false]
    as_aux_lemma =>
      go_enter Tryz.func53, Tryz.ntmps53
      go_wp2_with fail
      exact bodyPost_end (v := .tuple #[]) (results_none (by kernel_rfl) _ _ _) rfl ⟨rfl, h.out.below hz.out, Chg.of_below hz.out _⟩
end Go.Proofs.YtmlnhjfdhjachaaGreat

/-
  The routine that reads a chain of versions (layer 24): how it is made; as a routine. No condition.
-/
namespace Go.Proofs.YtmlnhjfdhjachaaGreat
set_option linter.unusedVariables false
open Go.ChangeShapes Go.WideShapes Go.ChangeAt Go.RowKit
open Go.ChangeMaps (setBlock)

def newChain (cell epoch : Int) : PChain := ⟨cell, epoch, 0, 1, false, ByteArray.empty, 0, 0⟩
set_option maxRecDepth 100000 in
set_option maxHeartbeats 2000000 in
theorem chainNew_any (c : PCfg) (hc : c.Right) (sh : Int) (hsh : 0 ≤ sh ∧ sh < c.shelves) (epoch : Int) (he : 0 ≤ epoch ∧ epoch ≤ 18446744073709551615) (w : World) :
    Calls Tryz.prog 52 #[c.val, .int .i64 sh, .int .u64 epoch] w fun e w' => ∃ b, e = .returned (.pointer (some ⟨b, 0, none⟩)) ∧ ChainIn w' b (newChain (3 + c.pins + c.cap + 2 * sh + 1) epoch) ∧ w.heap.size ≤ b ∧ Below w.heap.size w w' := by
  have hH := fun W => planHead_any c hc sh hsh W
  have h1 := hc.pins
  have h2 := hc.cap
  have h3 := hc.shelves
  generalize hce : 3 + c.pins + c.cap + 2 * sh + 1 = ce at *
  have hce0 : 0 ≤ ce ∧ ce ≤ 1000 := by omega
  have hd0 : decide (0 ≤ ce) = true := by simp; omega
  replace hce := Lib.hid hce
  have fin : ∀ (W : World) (b : Nat), Blk W b 151 #[.int .i64 ce, .int .u64 epoch, .int .u64 0, .int .i64 1, .bool false, .string ⟨#[]⟩, .int .u64 0, .int .i64 0] → ChainIn W b (newChain ce epoch) := fun W b h =>
    ⟨h, by show -9223372036854775808 ≤ ce ∧ ce ≤ 9223372036854775807; omega, he, by show (0 : Int) ≤ 0 ∧ (0 : Int) ≤ 18446744073709551615; decide, by show (0 : Int) ≤ 1 ∧ (1 : Int) ≤ 6; decide⟩
  clear hc
  obtain ⟨a, p, s, q, t, z⟩ := c
  rw [show PCfg.val ⟨a, p, s, q, t, z⟩ = .agg #[.int .i64 a, .int .i64 p, .int .i64 s, .int .i64 q, .int .i64 t, .int .u64 z] from rfl] at *
  have hz : Below w.heap.size w (w.alloc (.cells #[.int .i64 a, .int .i64 p, .int .i64 s, .int .i64 q, .int .i64 t, .int .u64 z] 24)) := (Below.refl _ _).alloc (Nat.le_refl _) _
  replace hz := Lib.hid hz
  replace hH := Lib.hid hH
  replace fin := Lib.hid fin
  go_enter Tryz.func52, Tryz.ntmps52
  go_wp2_with fail
  refine (hH.out _).mono ?_; rintro e w1 ⟨rfl, hb⟩
  have hb' := nx hz.out (Nat.le_refl _) hb
  clear hb
  replace hb' := Lib.hid hb'
  go_wp2_with fail
  go_ret
  exact ⟨w1.heap.size, rfl, fin.out _ _ (Blk.new w1 _ _), hb'.out.size, hb'.out.alloc hb'.out.size _⟩
def ChainR (w : World) (Q : Nat → Prop) (b : Nat) (s : PChain) : Prop := In Q w ∧ Q b ∧ ChainIn w b s
theorem chainAct_ok {w : World} {b : Nat} {s : PChain} (h : ChainIn w b s) : (s.act).1.Ok := by
  have k0 : (-9223372036854775808 : Int) ≤ 0 ∧ (0 : Int) ≤ 9223372036854775807 := by decide
  have k1 : (-9223372036854775808 : Int) ≤ 1 ∧ (1 : Int) ≤ 9223372036854775807 := by decide
  have k2 : (-9223372036854775808 : Int) ≤ 2 ∧ (2 : Int) ≤ 9223372036854775807 := by decide
  have k6 : (-9223372036854775808 : Int) ≤ 6 ∧ (6 : Int) ≤ 9223372036854775807 := by decide
  have z : (0 : Int) ≤ 0 ∧ (0 : Int) ≤ 18446744073709551615 := by decide
  have z1 : (0 : Int) ≤ 1 ∧ (1 : Int) ≤ 18446744073709551615 := by decide
  have hE : ByteArray.empty.size ≤ 9223372036854775807 := by decide
  unfold PChain.act
  split
  · exact ⟨k1, z1, h.cell, z, z, hE⟩
  split
  · exact ⟨k1, h.block, k0, z, z, hE⟩
  split
  · exact ⟨k1, h.block, k1, z, z, hE⟩
  split
  · exact ⟨k1, h.block, k2, z, z, hE⟩
  split
  · exact ⟨k6, h.block, k0, z, z, hE⟩
  · exact ⟨k0, z, k0, z, z, hE⟩
def chainRout : Rout PChain where
  T := 94
  fAct := 40
  fTake := 53
  mAct := fun _ _ => by kernel_rfl
  mTake := fun _ _ => by kernel_rfl
  nAct := fun _ _ => by kernel_rfl
  nTake := fun _ _ => by kernel_rfl
  eAct := fun _ _ => by kernel_rfl
  eTake := fun _ _ => by kernel_rfl
  R := ChainR
  own := fun h => h.1
  hG := fun h => h.2.1
  keep := fun ⟨h1, h2, h3⟩ hs hk => ⟨h1.mono hs, h2, h3.keep (hk _ h2)⟩
  act := PChain.act
  take := PChain.take
  okA := fun h => chainAct_ok h.2.2
  cAct := fun ⟨_, _, h⟩ => chainAct_any h
  cTake := fun {w G b s} g ⟨h1, h2, h3⟩ hg _ => (chainTake_any h3 g hg).mono fun e w' ⟨he, hv, hc⟩ => ⟨he, ⟨h1.nw hc.size, .inl h2, hv⟩, hc.mono fun i hi => by rw [hi]; exact h2⟩
end Go.Proofs.YtmlnhjfdhjachaaGreat

/-
  Reading a chain of versions (layer 24): the plain law. No condition.
-/
namespace Go.Proofs.YtmlnhjfdhjachaaGreat
set_option linter.unusedVariables false
open Go.ChangeShapes Go.WideShapes Go.ChangeAt Go.RowKit
open Go.ChangeMaps (setBlock)

structure PVersion where
  blk : Int
  epoch : Int
  has : Bool
  text : ByteArray
/-- From a block on a row of versions lies in the heap, the newest first. -/
def Chained (S : PHeap) : Int → List PVersion → Prop
  | x, [] => x = 0
  | x, v :: l => x = v.blk ∧ 2 ≤ v.blk ∧ ∃ b, S.find v.blk = some b ∧ b.cells.length = 3 ∧ b.nth 0 = v.epoch ∧ b.nth 2 = (if v.has then 1 else 0) ∧ (v.has = true → b.text = v.text) ∧ Chained S (b.nth 1) l
theorem Chained.mono {S S' : PHeap} (h : ∀ k x, 2 ≤ k → S.find k = some x → S'.find k = some x) : ∀ {l : List PVersion} {x : Int}, Chained S x l → Chained S' x l
  | [], x, hc => hc
  | v :: l, x, hc => by
    obtain ⟨h1, h2, b, h3, h4, h5, h6, h7, h8⟩ := hc
    exact ⟨h1, h2, b, h _ _ h2 h3, h4, h5, h6, h7, Chained.mono h h8⟩
/-- What is read at an epoch; how many are passed; in how many acts. -/
def readV (e : Int) : List PVersion → Int → (Bool × ByteArray × Int) × Int × Nat
  | [], p => ((false, ByteArray.empty, 0), p, 0)
  | v :: l, p => if e < v.epoch then ((readV e l (p + 1)).1, (readV e l (p + 1)).2.1, (readV e l (p + 1)).2.2 + 2) else if v.has then ((true, v.text, v.blk), p, 3) else ((false, ByteArray.empty, v.blk), p, 2)
theorem readV_le (e : Int) : ∀ (l : List PVersion) (p : Int), (readV e l p).2.2 ≤ 2 * l.length + 1
  | [], p => by show (0 : Nat) ≤ _; omega
  | v :: l, p => by
    have h := readV_le e l (p + 1)
    unfold readV
    split
    · simp only [List.length_cons]; omega
    · split <;> simp only [List.length_cons] <;> omega
theorem right_loadB (b : Int) (i : Nat) : PAct.right ⟨1, b, i, 0, 0, ByteArray.empty⟩ = true := by simp [PAct.right, PAct.fit]
theorem act_loadB {S : PHeap} {b : Int} {x : PBlk} (h : S.find b = some x) (i : Nat) (hi : i < x.cells.length) (r : Nat) : S.act ⟨1, b, i, 0, 0, ByteArray.empty⟩ r = (⟨x.nth i, ByteArray.empty⟩, S) := by
  simp [PHeap.act, right_loadB, PHeap.load, code_hit h ⟨(by omega : (0 : Int) ≤ (i : Int)), (by omega : (i : Int) < x.cells.length)⟩, word_eq h]
theorem ready_loadB (S : PHeap) (b : Int) (i : Nat) : S.ready ⟨1, b, i, 0, 0, ByteArray.empty⟩ = true := by simp [PHeap.ready, right_loadB]
theorem right_wordsB (b : Int) : PAct.right ⟨6, b, 0, 0, 0, ByteArray.empty⟩ = true := by simp [PAct.right, PAct.fit]
theorem act_wordsB {S : PHeap} {b : Int} {x : PBlk} (h : S.find b = some x) (r : Nat) : S.act ⟨6, b, 0, 0, 0, ByteArray.empty⟩ r = (⟨0, x.text⟩, S) := by
  simp [PHeap.act, right_wordsB, PHeap.words, h]
theorem ready_wordsB (S : PHeap) (b : Int) : S.ready ⟨6, b, 0, 0, 0, ByteArray.empty⟩ = true := by simp [PHeap.ready, right_wordsB]
/-- One step of a run that is not at its end. -/
theorem chain_one {S S' : PHeap} {s s' : PChain} {xs : List (PAct × PGot)} {m : Int} {x : PAct} {g : PGot} (ha : s.act = (x, true)) (hr : S.ready x = true) (hx : ∀ r, S.act x r = (g, S)) (h : Runs chainRout S s xs S' s') (hst : m ≤ (xs.length : Nat) ∨ chainRout.can S' s' = false) (hm : 1 ≤ m) :
    ∃ l, xs.length = l.length + 1 ∧ Runs chainRout S (s.take g) l S' s' ∧ (m - 1 ≤ (l.length : Nat) ∨ chainRout.can S' s' = false) := by
  match xs, h with
  | [], h =>
    obtain ⟨rfl, rfl⟩ := h
    rcases hst with h1 | h1
    · simp at h1; omega
    · have : chainRout.can S s = true := by
        show ((PChain.act s).2 && S.ready (PChain.act s).1) = true
        rw [ha, hr]
        rfl
      rw [this] at h1
      cases h1
  | y :: l, h =>
    obtain ⟨_, r, _, h⟩ := h
    have e : S.act (chainRout.act s).1 r = (g, S) := by
      show S.act (PChain.act s).1 r = _
      rw [ha]
      exact hx r
    rw [e] at h
    refine ⟨l, rfl, h, ?_⟩
    rcases hst with h1 | h1
    · left; simp only [List.length_cons] at h1; omega
    · exact .inr h1
theorem chain_end {S S' : PHeap} {s s' : PChain} {xs : List (PAct × PGot)} (hp : s.part = 6) (h : Runs chainRout S s xs S' s') : xs = [] ∧ S' = S ∧ s' = s := by
  match xs, h with
  | [], h => exact ⟨rfl, h.1.symm, h.2.symm⟩
  | y :: l, h =>
    obtain ⟨h1, _⟩ := h
    have : chainRout.can S s = false := by
      show ((PChain.act s).2 && _) = false
      have : s.act = (noAct, false) := by unfold PChain.act; rw [hp]; simp
      rw [this]
      rfl
    rw [this] at h1
    cases h1
def ReadP (R : (Bool × ByteArray × Int) × Int × Nat) (S S' : PHeap) (s' : PChain) (n : Nat) : Prop := n = R.2.2 ∧ S' = S ∧ s'.part = 6 ∧ s'.result = (R.1, true) ∧ s'.passed = R.2.1
theorem chain_run {S : PHeap} {cell e : Int} : ∀ (l : List PVersion) (x p blk part : Int) {S' : PHeap} {s' : PChain} {xs : List (PAct × PGot)} {m : Int}, Chained S x l → 0 ≤ p ∧ p + l.length ≤ 1000 →
    Runs chainRout S (PChain.down ⟨cell, e, blk, part, false, ByteArray.empty, 0, p⟩ x) xs S' s' → (m ≤ (xs.length : Nat) ∨ chainRout.can S' s' = false) → 2 * (l.length : Int) + 2 ≤ m → ReadP (readV e l p) S S' s' xs.length
  | [], x, p, blk, part, S', s', xs, m, hc, hp, h, hst, hm => by
    have hx : x = 0 := hc
    subst hx
    rw [show PChain.down ⟨cell, e, blk, part, false, ByteArray.empty, 0, p⟩ 0 = ⟨cell, e, 0, 6, false, ByteArray.empty, 0, p⟩ from rfl] at h
    obtain ⟨rfl, rfl, rfl⟩ := chain_end rfl h
    exact ⟨rfl, rfl, rfl, rfl, rfl⟩
  | v :: l, x, p, blk, part, S', s', xs, m, hc, hp, h, hst, hm => by
    obtain ⟨rfl, hv2, b, hb, hb3, hbe, hbl, hbt, hcn⟩ := hc
    have hv0 : v.blk ≠ 0 := by omega
    simp only [List.length_cons] at hp hm
    rw [show PChain.down ⟨cell, e, blk, part, false, ByteArray.empty, 0, p⟩ v.blk = ⟨cell, e, v.blk, 2, false, ByteArray.empty, 0, p⟩ from by unfold PChain.down; rw [if_neg hv0]] at h
    obtain ⟨l1, hl1, h1, hst1⟩ := chain_one (x := ⟨1, v.blk, ((0 : Nat) : Int), 0, 0, ByteArray.empty⟩) rfl (ready_loadB _ _ _) (act_loadB hb 0 (by omega)) h hst (by omega)
    rw [hbe] at h1
    unfold readV
    by_cases he : e < v.epoch
    · rw [if_pos he]
      rw [show PChain.take ⟨cell, e, v.blk, 2, false, ByteArray.empty, 0, p⟩ ⟨v.epoch, ByteArray.empty⟩ = ⟨cell, e, v.blk, 3, false, ByteArray.empty, 0, p⟩ from by simp [PChain.take, he]] at h1
      obtain ⟨l2, hl2, h2, hst2⟩ := chain_one (x := ⟨1, v.blk, ((1 : Nat) : Int), 0, 0, ByteArray.empty⟩) rfl (ready_loadB _ _ _) (act_loadB hb 1 (by omega)) h1 hst1 (by omega)
      have hw : IntKind.i64.wrap (p + 1) = p + 1 := IntWalk.i64_in _ (by omega)
      rw [show PChain.take ⟨cell, e, v.blk, 3, false, ByteArray.empty, 0, p⟩ ⟨b.nth 1, ByteArray.empty⟩ = PChain.down ⟨cell, e, v.blk, 3, false, ByteArray.empty, 0, p + 1⟩ (b.nth 1) from by simp [PChain.take, hw]] at h2
      obtain ⟨k1, k2, k3, k4, k5⟩ := chain_run l (b.nth 1) (p + 1) v.blk 3 hcn ⟨by omega, by omega⟩ h2 hst2 (by omega)
      exact ⟨by show xs.length = _ + 2; omega, k2, k3, k4, k5⟩
    · rw [if_neg he]
      rw [show PChain.take ⟨cell, e, v.blk, 2, false, ByteArray.empty, 0, p⟩ ⟨v.epoch, ByteArray.empty⟩ = ⟨cell, e, v.blk, 4, false, ByteArray.empty, 0, p⟩ from by simp [PChain.take, he]] at h1
      obtain ⟨l2, hl2, h2, hst2⟩ := chain_one (x := ⟨1, v.blk, ((2 : Nat) : Int), 0, 0, ByteArray.empty⟩) rfl (ready_loadB _ _ _) (act_loadB hb 2 (by omega)) h1 hst1 (by omega)
      rw [hbl] at h2
      cases hh : v.has with
      | false =>
        rw [hh] at h2
        rw [show PChain.take ⟨cell, e, v.blk, 4, false, ByteArray.empty, 0, p⟩ ⟨if false = true then 1 else 0, ByteArray.empty⟩ = ⟨cell, e, v.blk, 6, false, ByteArray.empty, v.blk, p⟩ from rfl] at h2
        obtain ⟨rfl, rfl, rfl⟩ := chain_end rfl h2
        refine ⟨?_, rfl, rfl, rfl, rfl⟩
        show xs.length = 2
        simp only [List.length_nil] at hl2
        omega
      | true =>
        rw [hh] at h2
        rw [show PChain.take ⟨cell, e, v.blk, 4, false, ByteArray.empty, 0, p⟩ ⟨if true = true then 1 else 0, ByteArray.empty⟩ = ⟨cell, e, v.blk, 5, false, ByteArray.empty, 0, p⟩ from rfl] at h2
        obtain ⟨l3, hl3, h3, hst3⟩ := chain_one (x := ⟨6, v.blk, 0, 0, 0, ByteArray.empty⟩) rfl (ready_wordsB _ _) (act_wordsB hb) h2 hst2 (by omega)
        rw [show PChain.take ⟨cell, e, v.blk, 5, false, ByteArray.empty, 0, p⟩ ⟨0, b.text⟩ = ⟨cell, e, v.blk, 6, true, b.text, v.blk, p⟩ from rfl] at h3
        obtain ⟨rfl, rfl, rfl⟩ := chain_end rfl h3
        refine ⟨?_, rfl, rfl, ?_, rfl⟩
        · show xs.length = 3
          simp only [List.length_nil] at hl3
          omega
        · show ((true, b.text, v.blk), true) = _
          rw [hbt hh]
          rfl
/-- A chain that is read alone. -/
theorem chain_alone {S S' : PHeap} {i : Nat} {e x : Int} {l : List PVersion} {s' : PChain} {xs : List (PAct × PGot)} {m : Int} (hh : CtlAt S i x) (hc : Chained S x l) (hl : l.length ≤ 100) (h : Runs chainRout S (newChain i e) xs S' s') (hst : m ≤ (xs.length : Nat) ∨ chainRout.can S' s' = false) (hm : 2 * (l.length : Int) + 3 ≤ m) :
    ReadP ((readV e l 0).1, (readV e l 0).2.1, (readV e l 0).2.2 + 1) S S' s' xs.length := by
  obtain ⟨l1, hl1, h1, hst1⟩ := chain_one (x := ⟨1, 1, (i : Int), 0, 0, ByteArray.empty⟩) rfl (ready_load S i) (fun r => hh.load r) h hst (by omega)
  rw [show PChain.take (newChain i e) ⟨x, ByteArray.empty⟩ = PChain.down ⟨i, e, 0, 1, false, ByteArray.empty, 0, 0⟩ x from rfl] at h1
  obtain ⟨k1, k2, k3, k4, k5⟩ := chain_run l x 0 0 1 hc ⟨Int.le_refl _, by omega⟩ h1 hst1 (by omega)
  exact ⟨by show xs.length = _ + 1; omega, k2, k3, k4, k5⟩
end Go.Proofs.YtmlnhjfdhjachaaGreat
