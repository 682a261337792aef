/-
  The control block: what stands in its cells, and what acts on it do (the plain law); fresh fields. No condition.
-/
import Derived.Test.YtpldnbdcpihjcaaPlan
import Derived.Test.YtpldnbdcpihjcaaSteps
import Derived.Test.YtpldnbdcpihjcaaSess
import Derived.Test.YtpldnbdcpihjcaaKeepP
namespace Go.Proofs.Ytpldnbdcpihjcaa
set_option linter.unusedVariables false
open Go.ChangeShapes Go.WideShapes Go.ChangeAt Go.RowKit
open Go.ChangeMaps (setBlock)

/-- In the control block cell i holds x. -/
def CtlAt (S : PHeap) (i : Nat) (x : Int) : Prop := ∃ b, S.find 1 = some b ∧ i < b.cells.length ∧ b.nth i = x
theorem CtlAt.code {S : PHeap} {i : Nat} {x : Int} (h : CtlAt S i x) : S.code 1 i = 0 := by
  obtain ⟨b, h1, h2, h3⟩ := h
  exact code_hit h1 ⟨by omega, by omega⟩
theorem CtlAt.word {S : PHeap} {i : Nat} {x : Int} (h : CtlAt S i x) : S.word 1 i = x := by
  obtain ⟨b, h1, h2, h3⟩ := h
  rw [word_eq h1]
  simpa using h3
theorem CtlAt.uniq {S : PHeap} {i : Nat} {x y : Int} (h : CtlAt S i x) (k : CtlAt S i y) : x = y := h.word.symm.trans k.word
theorem CtlAt.same {S : PHeap} {i : Nat} {x : Int} (h : CtlAt S i x) (v : Int) : CtlAt (S.set 1 i v) i v := by
  obtain ⟨b, h1, h2, h3⟩ := h
  refine ⟨{ b with cells := b.cells.set i v }, ?_, by simpa using h2, ?_⟩
  · rw [set_find, h1]
    simp [(find_mem h1).2]
  · show (b.cells.set i v).getD i 0 = v
    rw [List.getD_eq_getElem?_getD, List.getElem?_set_self h2]
    rfl
theorem CtlAt.other {S : PHeap} {i j : Nat} {x : Int} (h : CtlAt S i x) (v : Int) (hne : j ≠ i) : CtlAt (S.set 1 j v) i x := by
  obtain ⟨b, h1, h2, h3⟩ := h
  refine ⟨{ b with cells := b.cells.set j v }, ?_, by simpa using h2, ?_⟩
  · rw [set_find, h1]
    simp [(find_mem h1).2]
  · show (b.cells.set j v).getD i 0 = x
    rw [List.getD_eq_getElem?_getD, List.getElem?_set_ne hne, ← List.getD_eq_getElem?_getD]
    exact h3
theorem right_load (i : Nat) : PAct.right ⟨1, 1, i, 0, 0, ByteArray.empty⟩ = true := by simp [PAct.right, PAct.fit]
theorem right_swap (i : Nat) (o n : Int) : PAct.right ⟨3, 1, i, o, n, ByteArray.empty⟩ = true := by simp [PAct.right, PAct.fit]
theorem right_store (i : Nat) (n : Int) : PAct.right ⟨2, 1, i, 0, n, ByteArray.empty⟩ = true := by simp [PAct.right, PAct.fit]
theorem right_bump (i : Nat) (n : Int) : PAct.right ⟨4, 1, i, 0, n, ByteArray.empty⟩ = true := by simp [PAct.right, PAct.fit]
theorem CtlAt.load {S : PHeap} {i : Nat} {x : Int} (h : CtlAt S i x) (r : Nat) : S.act ⟨1, 1, i, 0, 0, ByteArray.empty⟩ r = (⟨x, ByteArray.empty⟩, S) := by
  simp [PHeap.act, right_load, PHeap.load, h.code, h.word]
theorem CtlAt.swap {S : PHeap} {i : Nat} {x : Int} (h : CtlAt S i x) (o n : Int) (r : Nat) : S.act ⟨3, 1, i, o, n, ByteArray.empty⟩ r = (⟨x, ByteArray.empty⟩, if x = o then S.set 1 i n else S) := by
  simp [PHeap.act, right_swap, PHeap.swap, h.code, h.word]
theorem CtlAt.store {S : PHeap} {i : Nat} {x : Int} (h : CtlAt S i x) (n : Int) (r : Nat) : S.act ⟨2, 1, i, 0, n, ByteArray.empty⟩ r = (⟨0, ByteArray.empty⟩, S.set 1 i n) := by
  simp [PHeap.act, right_store, PHeap.store, h.code]
theorem CtlAt.bump {S : PHeap} {i : Nat} {x : Int} (h : CtlAt S i x) (n : Int) (r : Nat) : S.act ⟨4, 1, i, 0, n, ByteArray.empty⟩ r = (⟨x, ByteArray.empty⟩, S.set 1 i (IntKind.u64.wrap (x + n))) := by
  simp [PHeap.act, right_bump, PHeap.bump, h.code, h.word]
theorem ready_load (S : PHeap) (i : Nat) : S.ready ⟨1, 1, i, 0, 0, ByteArray.empty⟩ = true := by simp [PHeap.ready, right_load]
theorem ready_swap (S : PHeap) (i : Nat) (o n : Int) : S.ready ⟨3, 1, i, o, n, ByteArray.empty⟩ = true := by simp [PHeap.ready, right_swap]
theorem ready_store (S : PHeap) (i : Nat) (n : Int) : S.ready ⟨2, 1, i, 0, n, ByteArray.empty⟩ = true := by simp [PHeap.ready, right_store]
/-- A fresh field: a heap whose first block is a config's control block. -/
def ctlSize (c : PCfg) : Nat := (3 + c.pins + c.cap + 2 * c.shelves).toNat
def fieldS (c : PCfg) (r : Nat) : PHeap := ⟨[⟨1, r, List.replicate (ctlSize c) 0, ByteArray.empty⟩], 1, false, 0⟩
theorem field_ctl (c : PCfg) (r i : Nat) (hi : i < ctlSize c) : CtlAt (fieldS c r) i 0 := ⟨_, rfl, by simpa using hi, by simp [PBlk.nth, hi]⟩
theorem ctlSize_eq {c : PCfg} (h : c.Right) : ((ctlSize c : Nat) : Int) = 3 + c.pins + c.cap + 2 * c.shelves ∧ 7 ≤ ctlSize c ∧ ctlSize c ≤ 171 := by
  have := h.pins
  have := h.cap
  have := h.shelves
  unfold ctlSize
  omega
set_option maxHeartbeats 1000000 in
theorem field_any (c : PCfg) (h : c.Right) (w : World) : Calls Try.prog 21 #[c.val] w fun e w' => ∃ hb r, e = .returned (.pointer (some ⟨hb, 0, none⟩)) ∧ Sess w hb (fieldS c r) w' := by
  have hP := fun W => planSize_any c h W
  have hE := ctlSize_eq h
  have hF : ∀ r, fieldS c r = { (⟨[], 0, false, 0⟩ : PHeap) with blocks := (⟨[], 0, false, 0⟩ : PHeap).blocks ++ [⟨(0 : Int) + 1, r, List.replicate (ctlSize c) 0, ByteArray.empty⟩], last := (0 : Int) + 1 } := fun r => rfl
  rw [← hE.1] at hP
  generalize ctlSize c = n at *
  generalize hFS : (fun r => fieldS c r) = FS at *
  replace hF : ∀ r, FS r = { (⟨[], 0, false, 0⟩ : PHeap) with blocks := (⟨[], 0, false, 0⟩ : PHeap).blocks ++ [⟨(0 : Int) + 1, r, List.replicate n 0, ByteArray.empty⟩], last := (0 : Int) + 1 } := fun r => by rw [← hFS]; exact hF r
  have hFS' : ∀ r, fieldS c r = FS r := fun r => by rw [← hFS]
  clear hFS
  suffices hS : Calls Try.prog 21 #[c.val] w fun e w' => ∃ hb r, e = .returned (.pointer (some ⟨hb, 0, none⟩)) ∧ Sess w hb (FS r) w' by
    refine hS.mono fun e w' ⟨hb, r, he, hs⟩ => ⟨hb, r, he, by rw [hFS']; exact hs⟩
  clear hFS' h
  obtain ⟨a, b, s, q, t, z⟩ := c
  rw [show PCfg.val ⟨a, b, s, q, t, z⟩ = .agg #[.int .i64 a, .int .i64 b, .int .i64 s, .int .i64 q, .int .i64 t, .int .u64 z] from rfl] at *
  have B1 := Blk.new w 24 #[.int .i64 a, .int .i64 b, .int .i64 s, .int .i64 q, .int .i64 t, .int .u64 z]
  have hz : Below w.heap.size w (w.alloc (.cells #[.int .i64 a, .int .i64 b, .int .i64 s, .int .i64 q, .int .i64 t, .int .u64 z] 24)) := (Below.refl _ _).alloc (Nat.le_refl _) _
  replace B1 := Lib.hid B1
  replace hz := Lib.hid hz
  replace hP := Lib.hid hP
  replace hF := Lib.hid hF
  replace hE := Lib.hid hE
  go_enter Try.func21, Try.ntmps21
  go_wp2_with fail
  refine (new_sess _).mono ?_; rintro e w1 ⟨hb, rfl, s1⟩
  have B2 := B1.out.below s1.below (by simp)
  have d0 := B2.cell 0
  have d1 := B2.cell 1
  have d2 := B2.cell 2
  have d3 := B2.cell 3
  have d4 := B2.cell 4
  have d5 := B2.cell 5
  replace B2 := Lib.hid B2
  replace s1 := Lib.hid s1
  go_wp2_with fail
  refine (hP.out _).mono ?_; rintro e w2 ⟨rfl, hb2⟩
  have s2 := s1.out.keep hb2
  clear hb2
  replace s2 := Lib.hid s2
  go_wp2_with fail
  refine (make_sess s2.out n (by have := hE.out; omega) ByteArray.empty (by decide)).mono ?_; rintro e w3 ⟨rfl, r, s3⟩
  rw [← hF.out r] at s3
  replace s3 := Lib.hid s3
  go_wp2_with fail
  go_ret
  obtain ⟨F, h1, h2, h3⟩ := s3.out
  have hsz := hz.out.size
  exact ⟨hb, r, rfl, F, h1, fun k hk => Nat.le_trans hsz (h2 k hk), hz.out.trans (h3.mono hsz)⟩
def tinyC : PCfg := ⟨2, 2, 3, 2, 1, 0⟩
theorem tiny_right : tinyC.Right := ⟨by decide, by decide, by decide, by decide, by decide⟩
theorem tiny_any (w : World) : Calls Try.prog 54 #[] w fun e w' => e = .returned (.agg #[.int .i64 2, .int .i64 2, .int .i64 3, .int .i64 2, .int .i64 1, .int .u64 0]) ∧ Below w.heap.size w w' := by
  go_enter Try.func54, Try.ntmps54
  go_wp2_with fail
  refine bodyPost_ret (v := .agg #[.int .i64 2, .int .i64 2, .int .i64 3, .int .i64 2, .int .i64 1, .int .u64 0]) (by simp [results, Try.results54, go_sem]) rfl ⟨rfl, ?_⟩
  (repeat first | exact Below.refl _ _ | assumption | refine Below.drew ?_ | refine below_drewN ?_ _ | refine Below.more_ ?_ _ | refine Below.setCell ?_ (by first | exact Nat.le_refl _ | (simp; done) | (simp; omega)) _)
end Go.Proofs.Ytpldnbdcpihjcaa
