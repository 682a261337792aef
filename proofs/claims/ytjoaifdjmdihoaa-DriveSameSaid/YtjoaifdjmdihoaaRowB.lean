/-
  The chapter's example of rows that go alone (layer 19). No condition.
-/
import Derived.Test.YtjoaifdjmdihoaaRowA
namespace Go.Proofs.Ytjoaifdjmdihoaa
set_option linter.unusedVariables false
open Go.ChangeShapes Go.WideShapes Go.ChangeAt Go.RowKit
open Go.ChangeMaps (setBlock)

theorem reads_blk {W : World} {B g n size : Nat} {t : TypeId} {cs : Array Value} (hB : Blk W g t cs) (hg : g < B) (hs : cs.size = n * size) : Reads W B size (some ⟨g, 0, none⟩) n cs.toList := by
  refine ⟨by simpa using hs, fun _ => ⟨_, rfl, hg, fun j u hu => ?_⟩⟩
  have e : (⟨g, 0, none⟩ : Addr).add j = ⟨g, j, none⟩ := by unfold Addr.add; split <;> simp_all
  rw [e, hB.cell j]
  simpa using hu
def stuckL : List PAct := [⟨8, 0, 0, 0, 0, ⟨#[]⟩⟩, ⟨8, 0, 0, 0, 0, ⟨#[]⟩⟩, ⟨9, 0, 0, 0, 0, ⟨#[]⟩⟩]
def stuckC : Array Value := #[.int .i64 8, .int .u64 0, .int .i64 0, .int .u64 0, .int .u64 0, .string ⟨#[]⟩, .int .i64 8, .int .u64 0, .int .i64 0, .int .u64 0, .int .u64 0, .string ⟨#[]⟩, .int .i64 9, .int .u64 0, .int .i64 0, .int .u64 0, .int .u64 0, .string ⟨#[]⟩]
def twoL : List PAct := [⟨5, 0, 0, 0, 0, ⟨#[]⟩⟩, ⟨0, 0, 0, 0, 0, ⟨#[]⟩⟩]
def twoC : Array Value := #[.int .i64 5, .int .u64 0, .int .i64 0, .int .u64 0, .int .u64 0, .string ⟨#[]⟩, .int .i64 0, .int .u64 0, .int .i64 0, .int .u64 0, .int .u64 0, .string ⟨#[]⟩]
theorem okA0 : True := trivial
theorem okA (k : Int) (h : -9223372036854775808 ≤ k ∧ k ≤ 9223372036854775807) : PAct.Ok ⟨k, 0, 0, 0, 0, ⟨#[]⟩⟩ := ⟨h, (by show (0 : Int) ≤ 0 ∧ (0 : Int) ≤ 18446744073709551615; decide), (by show (-9223372036854775808 : Int) ≤ 0 ∧ (0 : Int) ≤ 9223372036854775807; decide), (by show (0 : Int) ≤ 0 ∧ (0 : Int) ≤ 18446744073709551615; decide), (by show (0 : Int) ≤ 0 ∧ (0 : Int) ≤ 18446744073709551615; decide), (by show (0 : Nat) ≤ 9223372036854775807; decide)⟩
theorem stuck_reads : stuckL.flatMap actC = stuckC.toList := rfl
theorem two_reads : twoL.flatMap actC = twoC.toList := rfl
theorem stuck_ok : ∀ a ∈ stuckL, a.Ok := by intro a ha; simp only [stuckL, List.mem_cons, List.not_mem_nil, or_false] at ha; rcases ha with rfl | rfl | rfl <;> exact okA _ (by decide)
theorem two_ok : ∀ a ∈ twoL, a.Ok := by intro a ha; simp only [twoL, List.mem_cons, List.not_mem_nil, or_false] at ha; rcases ha with rfl | rfl <;> exact okA _ (by decide)
theorem stuck_any (w : World) : Calls Try.prog 47 #[] w fun e w' => e = .returned (.slice (some ⟨w.heap.size, 0, none⟩) 3 3) ∧ w.alloc (.cells stuckC 59) = w' := by
  go_enter Try.func47, Try.ntmps47
  go_wp2_with fail
  go_ret
  exact ⟨rfl, rfl⟩
theorem r8 : PAct.right ⟨8, 0, 0, 0, 0, ⟨#[]⟩⟩ = true := by simp [PAct.right, PAct.fit, show (ByteArray.mk #[]).size = 0 from rfl]
theorem r5 : PAct.right ⟨5, 0, 0, 0, 0, ⟨#[]⟩⟩ = true := by simp [PAct.right, PAct.fit, show (ByteArray.mk #[]).size = 0 from rfl]
theorem ready8 : PHeap.ready ⟨[], 0, false, 0⟩ ⟨8, 0, 0, 0, 0, ⟨#[]⟩⟩ = true := by simp [PHeap.ready, r8]
theorem ready8' : PHeap.ready ⟨[], 0, true, 0⟩ ⟨8, 0, 0, 0, 0, ⟨#[]⟩⟩ = false := by simp [PHeap.ready, r8]
theorem ready5 (S : PHeap) : S.ready ⟨5, 0, 0, 0, 0, ⟨#[]⟩⟩ = true := by simp [PHeap.ready, r5]
theorem ready0 (S : PHeap) : S.ready ⟨0, 0, 0, 0, 0, ⟨#[]⟩⟩ = true := by simp [PHeap.ready]
theorem act8 (r : Nat) : PHeap.act ⟨[], 0, false, 0⟩ ⟨8, 0, 0, 0, 0, ⟨#[]⟩⟩ r = (⟨1, ByteArray.empty⟩, ⟨[], 0, true, 0⟩) := by simp [PHeap.act, r8, PHeap.lock]
theorem act5 (r : Nat) : PHeap.act ⟨[], 0, true, 0⟩ ⟨5, 0, 0, 0, 0, ⟨#[]⟩⟩ r = (⟨1, ByteArray.empty⟩, ⟨[⟨1, r, [], ⟨#[]⟩⟩], 1, true, 0⟩) := by simp [PHeap.act, r5, PHeap.make]
theorem act0 (S : PHeap) (r : Nat) : S.act ⟨0, 0, 0, 0, 0, ⟨#[]⟩⟩ r = (⟨0, ByteArray.empty⟩, S) := by simp [PHeap.act]
theorem stuck_runs {A : Option Addr} {cap : Nat} {o : Option Obj} {S' : PHeap} {s' : PRow} {xs : List (PAct × PGot)} (h : Runs (rowRout A cap o) ⟨[], 0, false, 0⟩ ⟨stuckL, 0, []⟩ xs S' s') (hst : (9 : Int) ≤ (xs.length : Nat) ∨ (rowRout A cap o).can S' s' = false) :
    xs.length = 1 ∧ S' = ⟨[], 0, true, 0⟩ ∧ (PRow.act s').2 = true := by
  obtain ⟨r, l, rfl, h, hst⟩ := run19_one (x := ⟨8, 0, 0, 0, 0, ⟨#[]⟩⟩) (Rt := rowRout A cap o) rfl ready8 h hst (by decide)
  rw [act8] at h
  have hc : (rowRout A cap o).can ⟨[], 0, true, 0⟩ ((rowRout A cap o).take ⟨stuckL, 0, []⟩ ⟨1, ByteArray.empty⟩) = false := by
    unfold Rout.can
    rw [show (rowRout A cap o).act ((rowRout A cap o).take ⟨stuckL, 0, []⟩ ⟨1, ByteArray.empty⟩) = (⟨8, 0, 0, 0, 0, ⟨#[]⟩⟩, true) from rfl, ready8']
    rfl
  obtain ⟨rfl, rfl, rfl⟩ := run19_end (Rt := rowRout A cap o) hc h
  exact ⟨rfl, rfl, rfl⟩
theorem two_runs {A : Option Addr} {cap : Nat} {o : Option Obj} {S' : PHeap} {s' : PRow} {xs : List (PAct × PGot)} (h : Runs (rowRout A cap o) ⟨[], 0, true, 0⟩ ⟨twoL, 0, []⟩ xs S' s') (hst : (9 : Int) ≤ (xs.length : Nat) ∨ (rowRout A cap o).can S' s' = false) :
    xs.length = 2 ∧ (PRow.act s').2 = false ∧ s' = ⟨twoL, 2, [⟨1, ByteArray.empty⟩, ⟨0, ByteArray.empty⟩]⟩ := by
  obtain ⟨r, l, rfl, h, hst⟩ := run19_one (x := ⟨5, 0, 0, 0, 0, ⟨#[]⟩⟩) (Rt := rowRout A cap o) rfl (ready5 _) h hst (by decide)
  rw [act5] at h
  obtain ⟨r2, l2, rfl, h, hst⟩ := run19_one (x := ⟨0, 0, 0, 0, 0, ⟨#[]⟩⟩) (Rt := rowRout A cap o) rfl (ready0 _) h hst (by decide)
  rw [act0] at h
  have hc : (rowRout A cap o).can ⟨[⟨1, r, [], ⟨#[]⟩⟩], 1, true, 0⟩ ((rowRout A cap o).take ((rowRout A cap o).take ⟨twoL, 0, []⟩ ⟨1, ByteArray.empty⟩) ⟨0, ByteArray.empty⟩) = false := by
    unfold Rout.can
    rfl
  obtain ⟨rfl, rfl, rfl⟩ := run19_end (Rt := rowRout A cap o) hc h
  exact ⟨rfl, rfl, rfl⟩
set_option maxRecDepth 100000 in
set_option maxHeartbeats 400000 in
theorem awake19 (w : World) : Calls Try.prog 20 #[] w fun e w' => e = .returned (.bool true) ∧ Below w.heap.size w w' := by
  go_enter Try.func20, Try.ntmps20
  go_wp2_with fail
  refine (new_sess _).mono ?_; rintro e w1 ⟨hb, rfl, s1⟩
  obtain ⟨F1, o1⟩ := Own.of_sess s1
  have hF1 := o1.heap.own
  clear s1
  replace o1 := Lib.hid o1
  go_wp2_with fail
  refine (stuck_any _).mono ?_; rintro e w2 ⟨rfl, hw2⟩
  have B2 : Blk w2 w1.heap.size 59 stuckC := by rw [← hw2]; exact Blk.new w1 _ _
  have hb2 : Below w1.heap.size w1 w2 := by rw [← hw2]; exact Below.more_ (Below.refl _ _) _
  have hs2 : w2.heap.size = w1.heap.size + 1 := by rw [← hw2]; simp
  clear hw2
  have B3 := Blk.new w2 50 #[.slice (some ⟨w1.heap.size, 0, none⟩) 3 3, .int .i64 0, .slice none 0 0]
  have hb3 : Below w2.heap.size w2 (w2.alloc (.cells #[.slice (some ⟨w1.heap.size, 0, none⟩) 3 3, .int .i64 0, .slice none 0 0] 50)) := Below.more_ (Below.refl _ _) _
  have hsz3 : (w2.alloc (.cells #[.slice (some ⟨w1.heap.size, 0, none⟩) 3 3, .int .i64 0, .slice none 0 0] 50)).heap.size = w2.heap.size + 1 := by simp
  have hRd : Reads (w2.alloc (.cells #[.slice (some ⟨w1.heap.size, 0, none⟩) 3 3, .int .i64 0, .slice none 0 0] 50)) w2.heap.size 6 (some ⟨w1.heap.size, 0, none⟩) 3 (stuckL.flatMap actC) := by
    rw [stuck_reads]
    exact reads_blk (B2.below hb3 (by omega)) (by omega) rfl
  have hR3 : RowR (some ⟨w1.heap.size, 0, none⟩) 3 (rowObj (some ⟨w1.heap.size, 0, none⟩) (w2.alloc (.cells #[.slice (some ⟨w1.heap.size, 0, none⟩) 3 3, .int .i64 0, .slice none 0 0] 50))) (w2.alloc (.cells #[.slice (some ⟨w1.heap.size, 0, none⟩) 3 3, .int .i64 0, .slice none 0 0] 50)) (rowG (some ⟨w1.heap.size, 0, none⟩) 3 w2.heap.size) w2.heap.size ⟨stuckL, 0, []⟩ :=
    row_new (l := stuckL) (B := w2.heap.size) B3 hRd (by omega) (Nat.le_refl _) (by decide) stuck_ok
  obtain ⟨ob, hob⟩ : ∃ ob, rowObj (some ⟨w1.heap.size, 0, none⟩) (w2.alloc (.cells #[.slice (some ⟨w1.heap.size, 0, none⟩) 3 3, .int .i64 0, .slice none 0 0] 50)) = ob := ⟨_, rfl⟩
  rw [hob] at hR3
  replace hob := Lib.hid hob
  have hA := alone_own (rowRout _ _ _) ((o1.out.keep hb2).keep hb3) hR3 (fun k h1 h2 => by have := hF1 k h1; rcases h2 with h | ⟨ad, e, _, h⟩ <;> first | omega | (cases e; simp only at h; omega)) (fun k hk => by have := o1.out.below.size; rcases hk with h | ⟨ad, e, _, h⟩ <;> first | omega | (cases e; simp only at h; omega)) (by decide) (by decide) 9 (by decide)
  clear hR3 B2 B3 hRd
  replace hA := Lib.hid hA
  replace hs2 := Lib.hid hs2
  replace hsz3 := Lib.hid hsz3
  replace hb2 := Lib.hid hb2
  replace hb3 := Lib.hid hb3
  go_wp2_with fail
  refine (hA.out).mono ?_; rintro e w4 ⟨xs, S4, s4', F4, D4, hRun, hstop, _, rfl, o4, hR4, _, _, _⟩
  obtain ⟨hl, rfl, hac⟩ := stuck_runs hRun hstop
  have hdn : ∀ ob, (!((rowRout (some ⟨w1.heap.size, 0, none⟩) 3 ob).act s4').2) = false := fun ob => by show (!(PRow.act s4').2) = false; rw [hac]; rfl
  rw [hl, hdn]
  have hF4 := o4.heap.own
  clear hRun hstop hl hac hR4 hA hF1 o1 hdn hob
  replace o4 := Lib.hid o4
  go_wp2_with fail
  have hb5 : Below w4.heap.size w4 ((w4.alloc (.cells twoC 59)).alloc (.cells #[.slice (some ⟨w4.heap.size, 0, none⟩) 2 2, .int .i64 0, .slice none 0 0] 50)) := Below.more_ (Below.more_ (Below.refl _ _) _) _
  have B5 : Blk ((w4.alloc (.cells twoC 59)).alloc (.cells #[.slice (some ⟨w4.heap.size, 0, none⟩) 2 2, .int .i64 0, .slice none 0 0] 50)) w4.heap.size 59 twoC := (Blk.new w4 _ _).alloc _
  have B6 : Blk ((w4.alloc (.cells twoC 59)).alloc (.cells #[.slice (some ⟨w4.heap.size, 0, none⟩) 2 2, .int .i64 0, .slice none 0 0] 50)) (w4.heap.size + 1) 50 #[.slice (some ⟨w4.heap.size, 0, none⟩) 2 2, .int .i64 0, .slice none 0 0] := by
    have := Blk.new (w4.alloc (.cells twoC 59)) 50 #[.slice (some ⟨w4.heap.size, 0, none⟩) 2 2, .int .i64 0, .slice none 0 0]
    rwa [World.size_alloc] at this
  have hsz5 : (((w4.alloc (.cells twoC 59)).alloc (.cells #[.slice (some ⟨w4.heap.size, 0, none⟩) 2 2, .int .i64 0, .slice none 0 0] 50))).heap.size = w4.heap.size + 2 := by simp
  have hRd5 : Reads ((w4.alloc (.cells twoC 59)).alloc (.cells #[.slice (some ⟨w4.heap.size, 0, none⟩) 2 2, .int .i64 0, .slice none 0 0] 50)) (w4.heap.size + 1) 6 (some ⟨w4.heap.size, 0, none⟩) 2 (twoL.flatMap actC) := by
    rw [two_reads]
    exact reads_blk B5 (by omega) rfl
  have hR5 : RowR (some ⟨w4.heap.size, 0, none⟩) 2 (rowObj (some ⟨w4.heap.size, 0, none⟩) ((w4.alloc (.cells twoC 59)).alloc (.cells #[.slice (some ⟨w4.heap.size, 0, none⟩) 2 2, .int .i64 0, .slice none 0 0] 50))) ((w4.alloc (.cells twoC 59)).alloc (.cells #[.slice (some ⟨w4.heap.size, 0, none⟩) 2 2, .int .i64 0, .slice none 0 0] 50)) (rowG (some ⟨w4.heap.size, 0, none⟩) 2 (w4.heap.size + 1)) (w4.heap.size + 1) ⟨twoL, 0, []⟩ :=
    row_new (l := twoL) (B := w4.heap.size + 1) B6 hRd5 (by omega) (Nat.le_refl _) (by decide) two_ok
  obtain ⟨ob5, hob5⟩ : ∃ ob, rowObj (some ⟨w4.heap.size, 0, none⟩) ((w4.alloc (.cells twoC 59)).alloc (.cells #[.slice (some ⟨w4.heap.size, 0, none⟩) 2 2, .int .i64 0, .slice none 0 0] 50)) = ob := ⟨_, rfl⟩
  rw [hob5] at hR5
  have hA5 := alone_own (rowRout _ _ _) (o4.out.keep hb5) hR5 (fun k h1 h2 => by have := hF4 k h1; rcases h2 with h | ⟨ad, e, _, h⟩ <;> first | omega | (cases e; simp only at h; omega)) (fun k hk => by have := o4.out.below.size; rcases hk with h | ⟨ad, e, _, h⟩ <;> first | omega | (cases e; simp only at h; omega)) (by decide) (by decide) 9 (by decide)
  clear hR5 B5 B6 hRd5 hsz5 hb5 hob5 o4 hF4
  replace hA5 := Lib.hid hA5
  refine (hA5.out).mono ?_; rintro e w6 ⟨xs, S6, s6', F6, D6, hRun, hstop, _, rfl, o6, hR6, _, _, _⟩
  obtain ⟨hl, hac, rfl⟩ := two_runs hRun hstop
  have hdn : ∀ ob, (!((rowRout (some ⟨w4.heap.size, 0, none⟩) 2 ob).act ⟨twoL, 2, [⟨1, ByteArray.empty⟩, ⟨0, ByteArray.empty⟩]⟩).2) = true := fun ob => by show (!(PRow.act _).2) = true; rw [hac]; rfl
  rw [hl, hdn]
  obtain ⟨_, _, gv, hRow⟩ := hR6
  obtain ⟨g, cp, rfl⟩ := own_succ (n := 1) hRow.own
  have k0 := hRow.own.cells rfl 0 (.int .u64 1) rfl
  have kg := (own_lt hRow.own rfl).2
  have kB := hRow.blk
  have kb := kB.lt
  have kbel := o6.below
  clear hRun hstop hl hac hA5 hdn hRow o6
  have hcl : ∀ W, Below w6.heap.size w6 W → W.cell? ⟨w4.heap.size + 1, 2, none⟩ = some (.slice (some ⟨g, 0, none⟩) 2 cp) ∧ W.cell? ⟨g, 0, none⟩ = some (.int .u64 1) := fun W h => ⟨(kB.below h kb).cell 2, (World.cell?_of_block (h.block g kg)).trans k0⟩
  replace hcl := Lib.hid hcl
  replace kbel := Lib.hid kbel
  clear k0 kB
  go_wp2_with fail
  refine (alone_none hb 9 _).mono ?_; rintro e w7 ⟨rfl, hb7⟩
  replace hb7 := Lib.hid hb7
  go_wp2_with fail
  refine (next_none hb _).mono ?_; rintro e w8 ⟨rfl, hb8⟩
  have hb9 : Below w6.heap.size w6 (w8.alloc (.cells #[.int .i64 0, .int .i64 0, .int .u64 0, .int .i64 0, .int .u64 0, .int .u64 0, .string ⟨#[]⟩, .int .u64 0, .string ⟨#[]⟩] 63)) := Below.more_ (Below.next_ hb7.out hb8) _
  obtain ⟨m1, m2⟩ := hcl.out _ hb9
  rw [show stepV 0 noAct noGot = .agg #[.int .i64 0, .int .i64 0, .int .u64 0, .int .i64 0, .int .u64 0, .int .u64 0, .string ⟨#[]⟩, .int .u64 0, .string ⟨#[]⟩] from rfl]
  replace hb9 := Lib.hid hb9
  replace hb8 := Lib.hid hb8
  go_wp2_with fail
  go_ret
  exact ⟨rfl, kbel.out.trans (hb9.out.mono kbel.out.size)⟩
end Go.Proofs.Ytjoaifdjmdihoaa
