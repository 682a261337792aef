import Derived.Test.YtmlnhjfdhjachaaGreatPlan
import Derived.Test.YtmlnhjfdhjachaaGreatAlone
import Derived.Test.YtmlnhjfdhjachaaGreatSess
import Derived.Test.YtmlnhjfdhjachaaGreatKeepP
/-
  The control block: what stands in its cells, and what acts on it do (the plain law); fresh fields. No condition.
-/
namespace Go.Proofs.YtmlnhjfdhjachaaGreat
set_option linter.unusedVariables false
open Go.ChangeShapes Go.WideShapes Go.ChangeAt Go.RowKit
open Go.ChangeMaps (setBlock)

/-- In the control block cell i holds x. -/
def CtlAt (S : PHeap) (i : Nat) (x : Int) : Prop := ∃ b, S.find 1 = some b ∧ i < b.cells.length ∧ b.nth i = x
theorem CtlAt.code {S : PHeap} {i : Nat} {x : Int} (h : CtlAt S i x) : S.code 1 i = 0 := by
  obtain ⟨b, h1, h2, h3⟩ := h
  exact code_hit h1 ⟨by omega, by omega⟩
theorem CtlAt.word {S : PHeap} {i : Nat} {x : Int} (h : CtlAt S i x) : S.word 1 i = x := by
  obtain ⟨b, h1, h2, h3⟩ := h
  rw [word_eq h1]
  simpa using h3
theorem CtlAt.uniq {S : PHeap} {i : Nat} {x y : Int} (h : CtlAt S i x) (k : CtlAt S i y) : x = y := h.word.symm.trans k.word
theorem CtlAt.same {S : PHeap} {i : Nat} {x : Int} (h : CtlAt S i x) (v : Int) : CtlAt (S.set 1 i v) i v := by
  obtain ⟨b, h1, h2, h3⟩ := h
  refine ⟨{ b with cells := b.cells.set i v }, ?_, by simpa using h2, ?_⟩
  · rw [set_find, h1]
    simp [(find_mem h1).2]
  · show (b.cells.set i v).getD i 0 = v
    rw [List.getD_eq_getElem?_getD, List.getElem?_set_self h2]
    rfl
theorem CtlAt.other {S : PHeap} {i j : Nat} {x : Int} (h : CtlAt S i x) (v : Int) (hne : j ≠ i) : CtlAt (S.set 1 j v) i x := by
  obtain ⟨b, h1, h2, h3⟩ := h
  refine ⟨{ b with cells := b.cells.set j v }, ?_, by simpa using h2, ?_⟩
  · rw [set_find, h1]
    simp [(find_mem h1).2]
  · show (b.cells.set j v).getD i 0 = x
    rw [List.getD_eq_getElem?_getD, List.getElem?_set_ne hne, ← List.getD_eq_getElem?_getD]
    exact h3
theorem right_load (i : Nat) : PAct.right ⟨1, 1, i, 0, 0, ByteArray.empty⟩ = true := by simp [PAct.right, PAct.fit]
theorem right_swap (i : Nat) (o n : Int) : PAct.right ⟨3, 1, i, o, n, ByteArray.empty⟩ = true := by simp [PAct.right, PAct.fit]
theorem right_store (i : Nat) (n : Int) : PAct.right ⟨2, 1, i, 0, n, ByteArray.empty⟩ = true := by simp [PAct.right, PAct.fit]
theorem right_bump (i : Nat) (n : Int) : PAct.right ⟨4, 1, i, 0, n, ByteArray.empty⟩ = true := by simp [PAct.right, PAct.fit]
theorem CtlAt.load {S : PHeap} {i : Nat} {x : Int} (h : CtlAt S i x) (r : Nat) : S.act ⟨1, 1, i, 0, 0, ByteArray.empty⟩ r = (⟨x, ByteArray.empty⟩, S) := by
  simp [PHeap.act, right_load, PHeap.load, h.code, h.word]
theorem CtlAt.swap {S : PHeap} {i : Nat} {x : Int} (h : CtlAt S i x) (o n : Int) (r : Nat) : S.act ⟨3, 1, i, o, n, ByteArray.empty⟩ r = (⟨x, ByteArray.empty⟩, if x = o then S.set 1 i n else S) := by
  simp [PHeap.act, right_swap, PHeap.swap, h.code, h.word]
theorem CtlAt.store {S : PHeap} {i : Nat} {x : Int} (h : CtlAt S i x) (n : Int) (r : Nat) : S.act ⟨2, 1, i, 0, n, ByteArray.empty⟩ r = (⟨0, ByteArray.empty⟩, S.set 1 i n) := by
  simp [PHeap.act, right_store, PHeap.store, h.code]
theorem CtlAt.bump {S : PHeap} {i : Nat} {x : Int} (h : CtlAt S i x) (n : Int) (r : Nat) : S.act ⟨4, 1, i, 0, n, ByteArray.empty⟩ r = (⟨x, ByteArray.empty⟩, S.set 1 i (IntKind.u64.wrap (x + n))) := by
  simp [PHeap.act, right_bump, PHeap.bump, h.code, h.word]
theorem ready_load (S : PHeap) (i : Nat) : S.ready ⟨1, 1, i, 0, 0, ByteArray.empty⟩ = true := by simp [PHeap.ready, right_load]
theorem ready_swap (S : PHeap) (i : Nat) (o n : Int) : S.ready ⟨3, 1, i, o, n, ByteArray.empty⟩ = true := by simp [PHeap.ready, right_swap]
theorem ready_store (S : PHeap) (i : Nat) (n : Int) : S.ready ⟨2, 1, i, 0, n, ByteArray.empty⟩ = true := by simp [PHeap.ready, right_store]
/-- A fresh field: a heap whose first block is a config's control block. -/
def ctlSize (c : PCfg) : Nat := (3 + c.pins + c.cap + 2 * c.shelves).toNat
def fieldS (c : PCfg) (r : Nat) : PHeap := ⟨[⟨1, r, List.replicate (ctlSize c) 0, ByteArray.empty⟩], 1, false, 0⟩
theorem field_ctl (c : PCfg) (r i : Nat) (hi : i < ctlSize c) : CtlAt (fieldS c r) i 0 := ⟨_, rfl, by simpa using hi, by simp [PBlk.nth, hi]⟩
theorem ctlSize_eq {c : PCfg} (h : c.Right) : ((ctlSize c : Nat) : Int) = 3 + c.pins + c.cap + 2 * c.shelves ∧ 7 ≤ ctlSize c ∧ ctlSize c ≤ 171 := by
  have := h.pins
  have := h.cap
  have := h.shelves
  unfold ctlSize
  omega
set_option maxHeartbeats 1000000 in
theorem field_any (c : PCfg) (h : c.Right) (w : World) : Calls Tryz.prog 16 #[c.val] w fun e w' => ∃ hb r, e = .returned (.pointer (some ⟨hb, 0, none⟩)) ∧ Sess w hb (fieldS c r) w' := by
  have hP := fun W => planSize_any c h W
  have hE := ctlSize_eq h
  have hF : ∀ r, fieldS c r = { (⟨[], 0, false, 0⟩ : PHeap) with blocks := (⟨[], 0, false, 0⟩ : PHeap).blocks ++ [⟨(0 : Int) + 1, r, List.replicate (ctlSize c) 0, ByteArray.empty⟩], last := (0 : Int) + 1 } := fun r => rfl
  rw [← hE.1] at hP
  generalize ctlSize c = n at *
  generalize hFS : (fun r => fieldS c r) = FS at *
  replace hF : ∀ r, FS r = { (⟨[], 0, false, 0⟩ : PHeap) with blocks := (⟨[], 0, false, 0⟩ : PHeap).blocks ++ [⟨(0 : Int) + 1, r, List.replicate n 0, ByteArray.empty⟩], last := (0 : Int) + 1 } := fun r => by rw [← hFS]; exact hF r
  have hFS' : ∀ r, fieldS c r = FS r := fun r => by rw [← hFS]
  clear hFS
  suffices hS : Calls Tryz.prog 16 #[c.val] w fun e w' => ∃ hb r, e = .returned (.pointer (some ⟨hb, 0, none⟩)) ∧ Sess w hb (FS r) w' by
    refine hS.mono fun e w' ⟨hb, r, he, hs⟩ => ⟨hb, r, he, by rw [hFS']; exact hs⟩
  clear hFS' h
  obtain ⟨a, b, s, q, t, z⟩ := c
  rw [show PCfg.val ⟨a, b, s, q, t, z⟩ = .agg #[.int .i64 a, .int .i64 b, .int .i64 s, .int .i64 q, .int .i64 t, .int .u64 z] from rfl] at *
  have B1 := Blk.new w 24 #[.int .i64 a, .int .i64 b, .int .i64 s, .int .i64 q, .int .i64 t, .int .u64 z]
  have hz : Below w.heap.size w (w.alloc (.cells #[.int .i64 a, .int .i64 b, .int .i64 s, .int .i64 q, .int .i64 t, .int .u64 z] 24)) := (Below.refl _ _).alloc (Nat.le_refl _) _
  replace B1 := Lib.hid B1
  replace hz := Lib.hid hz
  replace hP := Lib.hid hP
  replace hF := Lib.hid hF
  replace hE := Lib.hid hE
  go_enter Tryz.func16, Tryz.ntmps16
  go_wp2_with fail
  refine (new_sess _).mono ?_; rintro e w1 ⟨hb, rfl, s1⟩
  have B2 := B1.out.below s1.below (by simp)
  have d0 := B2.cell 0
  have d1 := B2.cell 1
  have d2 := B2.cell 2
  have d3 := B2.cell 3
  have d4 := B2.cell 4
  have d5 := B2.cell 5
  replace B2 := Lib.hid B2
  replace s1 := Lib.hid s1
  go_wp2_with fail
  refine (hP.out _).mono ?_; rintro e w2 ⟨rfl, hb2⟩
  have s2 := s1.out.keep hb2
  clear hb2
  replace s2 := Lib.hid s2
  go_wp2_with fail
  refine (make_sess s2.out n (by have := hE.out; omega) ByteArray.empty (by decide)).mono ?_; rintro e w3 ⟨rfl, r, s3⟩
  rw [← hF.out r] at s3
  replace s3 := Lib.hid s3
  go_wp2_with fail
  go_ret
  obtain ⟨F, h1, h2, h3⟩ := s3.out
  have hsz := hz.out.size
  exact ⟨hb, r, rfl, F, h1, fun k hk => Nat.le_trans hsz (h2 k hk), hz.out.trans (h3.mono hsz)⟩
def tinyC : PCfg := ⟨2, 2, 3, 2, 1, 0⟩
theorem tiny_right : tinyC.Right := ⟨by decide, by decide, by decide, by decide, by decide⟩
theorem tiny_any (w : World) : Calls Tryz.prog 36 #[] w fun e w' => e = .returned (.agg #[.int .i64 2, .int .i64 2, .int .i64 3, .int .i64 2, .int .i64 1, .int .u64 0]) ∧ Below w.heap.size w w' := by
  go_enter Tryz.func36, Tryz.ntmps36
  go_wp2_with fail
  refine bodyPost_ret (v := .agg #[.int .i64 2, .int .i64 2, .int .i64 3, .int .i64 2, .int .i64 1, .int .u64 0]) (by simp [results, Tryz.results36, go_sem]) rfl ⟨rfl, ?_⟩
  (repeat first | exact Below.refl _ _ | assumption | refine Below.drew ?_ | refine below_drewN ?_ _ | refine Below.more_ ?_ _ | refine Below.setCell ?_ (by first | exact Nat.le_refl _ | (simp; done) | (simp; omega)) _)
end Go.Proofs.YtmlnhjfdhjachaaGreat

/-
  A heap of the call's own, its memory told; a routine that was made behind it goes alone. No condition.
-/
namespace Go.Proofs.YtmlnhjfdhjachaaGreat
set_option linter.unusedVariables false
open Go.ChangeShapes Go.WideShapes Go.ChangeAt Go.RowKit
open Go.ChangeMaps (setBlock)

structure Own (w0 : World) (hb : Nat) (S : PHeap) (F : Nat → Prop) (w : World) : Prop where
  heap : HeapIn w hb S F
  new : ∀ k, F k → w0.heap.size ≤ k
  below : Below w0.heap.size w0 w
theorem Own.of_sess {w0 w : World} {hb : Nat} {S : PHeap} (s : Sess w0 hb S w) : ∃ F, Own w0 hb S F w := by
  obtain ⟨F, h1, h2, h3⟩ := s
  exact ⟨F, h1, h2, h3⟩
theorem Own.keep {w0 w w' : World} {hb : Nat} {S : PHeap} {F : Nat → Prop} (s : Own w0 hb S F w) (hb1 : Below w.heap.size w w') : Own w0 hb S F w' := ⟨s.heap.below hb1, s.new, Below.next_ s.below hb1⟩
theorem Own.alloc {w0 w : World} {hb : Nat} {S : PHeap} {F : Nat → Prop} (s : Own w0 hb S F w) (o : Obj) : Own w0 hb S F (w.alloc o) := s.keep (Below.more_ (Below.refl _ _) o)
theorem Own.sess {w0 w : World} {hb : Nat} {S : PHeap} {F : Nat → Prop} (s : Own w0 hb S F w) : Sess w0 hb S w := ⟨F, s.heap, s.new, s.below⟩
theorem Own.off {w0 w w' : World} {hb : Nat} {S : PHeap} {F D : Nat → Prop} (s : Own w0 hb S F w) (hc : Chg D w w') (hD : Off D F) (hw : ∀ k, D k → w0.heap.size ≤ k) : Own w0 hb S F w' :=
  ⟨s.heap.off hc hD, s.new, s.below.trans (hc.below hw s.below.size)⟩
theorem Own.turned {w0 w w' : World} {hb : Nat} {S S' : PHeap} {F : Nat → Prop} (s : Own w0 hb S F w) (t : Turned F hb S' w w') : Own w0 hb S' (nw F w w') w' :=
  ⟨t.1, fun k hk => by
    rcases hk with hk | hk
    · exact s.new k hk
    · exact Nat.le_trans s.below.size hk.1, s.below.trans (t.2.below s.new s.below.size)⟩
def OwnPost {σ : Type} (Rt : Rout σ) (w0 w2 : World) (F D : Nat → Prop) (hb b : Nat) (most : Int) (S : PHeap) (s : σ) (e : Ending) (w' : World) : Prop :=
  ∃ xs S' s' F' D', Runs Rt S s xs S' s' ∧ (most ≤ (xs.length : Nat) ∨ Rt.can S' s' = false) ∧ (((xs.length : Nat) : Int) ≤ most ∨ xs = []) ∧
    e = .returned (.tuple #[.int .i64 (xs.length : Nat), .bool (!(Rt.act s').2)]) ∧ Own w0 hb S' F' w' ∧ Rt.R w' D' b s' ∧ (∀ k, F' k ∨ D' k → F k ∨ D k ∨ w2.heap.size ≤ k) ∧ Chg (fun k => F k ∨ D k) w2 w' ∧ Off F' D'
theorem alone_own {σ : Type} (Rt : Rout σ) {w0 w2 : World} {hb b : Nat} {S : PHeap} {s : σ} {F D : Nat → Prop} (s1 : Own w0 hb S F w2) (hR : Rt.R w2 D b s) (off : Off F D) (hD : ∀ k, D k → w0.heap.size ≤ k)
    (hf : S.faults ≤ 1000000000) (hla : S.last ≤ 1000000000) (most : Int) (hm : most ≤ 1000000) :
    Calls Tryz.prog 20 #[.pointer (some ⟨hb, 0, none⟩), .iface Rt.T (.pointer (some ⟨b, 0, none⟩)), .int .i64 most] w2 (OwnPost Rt w0 w2 F D hb b most S s) := by
  refine (alone_any Rt s1.heap hR off hf hla most hm).mono fun e w' ⟨xs, S', s', h1, h2, h3, h4, h5⟩ => ?_
  obtain ⟨⟨F', D', k1, k2, k3, k4⟩, k5⟩ := h5
  refine ⟨xs, S', s', F', D', h1, h2, h3, h4, ⟨k1, fun k hk => ?_, s1.below.trans (k5.below (fun k hk => ?_) s1.below.size)⟩, k2, fun k hk => ?_, k5, k3⟩
  · rcases k4 k (.inl hk) with (hk | hk) | hk
    · exact s1.new k hk
    · exact hD k hk
    · have := s1.below.size; omega
  · rcases hk with hk | hk
    · exact s1.new k hk
    · exact hD k hk
  · rcases k4 k hk with (hk | hk) | hk
    · exact .inl hk
    · exact .inr (.inl hk)
    · exact .inr (.inr hk)
end Go.Proofs.YtmlnhjfdhjachaaGreat

/-
  The control block's cells: Load and Store of them. No condition.
-/
namespace Go.Proofs.YtmlnhjfdhjachaaGreat
set_option linter.unusedVariables false
open Go.ChangeShapes Go.WideShapes Go.ChangeAt Go.RowKit
open Go.ChangeMaps (setBlock)

theorem ctl_load {w : World} {hb : Nat} {S : PHeap} {F : Nat → Prop} (h : HeapIn w hb S F) {i : Nat} {x : Int} (hc : CtlAt S i x) :
    Calls Tryz.prog 27 #[.pointer (some ⟨hb, 0, none⟩), .int .u64 1, .int .i64 i] w fun e w' => e = .returned (.tuple #[.int .u64 x, .int .i64 0]) ∧ Turned F hb S w w' := by
  obtain ⟨b, q1, q2, q3⟩ := hc
  have := load_hit h q1 i q2
  rwa [q3] at this
theorem ctl_store {w : World} {hb : Nat} {S : PHeap} {F : Nat → Prop} (h : HeapIn w hb S F) {i : Nat} {x : Int} (hc : CtlAt S i x) (v : Int) (hv : 0 ≤ v ∧ v ≤ 18446744073709551615) :
    Calls Tryz.prog 18 #[.pointer (some ⟨hb, 0, none⟩), .int .u64 1, .int .i64 i, .int .u64 v] w fun e w' => e = .returned (.int .i64 0) ∧ Turned F hb (S.set 1 i v) w w' := by
  obtain ⟨b, q1, q2, q3⟩ := hc
  exact store_hit h q1 i q2 hv
theorem do_ctl_store {w : World} {hb : Nat} {S : PHeap} {F : Nat → Prop} (h : HeapIn w hb S F) {i : Nat} (hi : i ≤ 1000) {x : Int} (hc : CtlAt S i x) (v : Int) (hv : 0 ≤ v ∧ v ≤ 18446744073709551615) (hf : S.faults = 0) (hla : S.last < 9223372036854775807) :
    Calls Tryz.prog 68 #[.pointer (some ⟨hb, 0, none⟩), .agg #[.int .i64 2, .int .u64 1, .int .i64 i, .int .u64 0, .int .u64 v, .string ⟨#[]⟩]] w fun e w' => ∃ g, e = .returned g ∧ Turned F hb (S.set 1 i v) w w' := by
  have hok : PAct.Ok ⟨2, 1, i, 0, v, ByteArray.empty⟩ := ⟨by show (-9223372036854775808 : Int) ≤ 2 ∧ (2 : Int) ≤ _; decide, by show (0 : Int) ≤ 1 ∧ (1 : Int) ≤ _; decide, by show (-9223372036854775808 : Int) ≤ i ∧ (i : Int) ≤ _; omega, by show (0 : Int) ≤ 0 ∧ (0 : Int) ≤ _; decide, hv, by show (0 : Nat) ≤ 9223372036854775807; decide⟩
  refine (do_any h ⟨2, 1, i, 0, v, ByteArray.empty⟩ hok (by rw [hf]; decide) hla).mono fun e w' ⟨r, he, ht⟩ => ⟨_, he, ?_⟩
  rw [hc.store v r] at ht
  exact ht
theorem do_ctl_bump {w : World} {hb : Nat} {S : PHeap} {F : Nat → Prop} (h : HeapIn w hb S F) {i : Nat} (hi : i ≤ 1000) {x : Int} (hc : CtlAt S i x) (v : Int) (hv : 0 ≤ v ∧ v ≤ 18446744073709551615) (hf : S.faults = 0) (hla : S.last < 9223372036854775807) :
    Calls Tryz.prog 68 #[.pointer (some ⟨hb, 0, none⟩), .agg #[.int .i64 4, .int .u64 1, .int .i64 i, .int .u64 0, .int .u64 v, .string ⟨#[]⟩]] w fun e w' => ∃ g, e = .returned g ∧ Turned F hb (S.set 1 i (IntKind.u64.wrap (x + v))) w w' := by
  have hok : PAct.Ok ⟨4, 1, i, 0, v, ByteArray.empty⟩ := ⟨by show (-9223372036854775808 : Int) ≤ 4 ∧ (4 : Int) ≤ _; decide, by show (0 : Int) ≤ 1 ∧ (1 : Int) ≤ _; decide, by show (-9223372036854775808 : Int) ≤ i ∧ (i : Int) ≤ _; omega, by show (0 : Int) ≤ 0 ∧ (0 : Int) ≤ _; decide, hv, by show (0 : Nat) ≤ 9223372036854775807; decide⟩
  refine (do_any h ⟨4, 1, i, 0, v, ByteArray.empty⟩ hok (by rw [hf]; decide) hla).mono fun e w' ⟨r, he, ht⟩ => ⟨_, he, ?_⟩
  rw [hc.bump v r] at ht
  exact ht
end Go.Proofs.YtmlnhjfdhjachaaGreat
