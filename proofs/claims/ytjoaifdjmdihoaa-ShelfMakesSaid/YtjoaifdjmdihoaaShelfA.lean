/-
  The walk over the law of versions' acts (layer 22). No condition.
-/
import Derived.Test.YtjoaifdjmdihoaaShelfR
import Derived.Test.YtjoaifdjmdihoaaTapeE
import Derived.Test.YtjoaifdjmdihoaaSess
import Derived.BigQuiet
namespace Go.Proofs.Ytjoaifdjmdihoaa
set_option linter.unusedVariables false
open Go.ChangeShapes Go.WideShapes Go.ChangeAt Go.RowKit
open Go.ChangeMaps (setBlock)

set_option maxRecDepth 100000 in
set_option maxHeartbeats 1000000 in
theorem awake22 (w : World) : Calls Try.prog 23 #[] w fun e w' => e = .returned (.bool true) ∧ Below w.heap.size w w' := by
  go_enter Try.func23, Try.ntmps23
  go_wp2_with fail
  refine (new_sess _).mono ?_; rintro e w1 ⟨hb, rfl, s⟩
  have hN := verNew_any w1 2 0 chK
  rw [show PChange.val chK = .agg #[.string ⟨#[107]⟩, .bool false, .string ⟨#[]⟩] from rfl] at hN
  replace hN := Lib.hid hN
  go_wp2_with fail
  refine (hN.out).mono ?_; rintro e w2 ⟨b, ar, cc, rfl, hV, hb1, hb2, hbl⟩
  have s2 := s.keep hbl
  obtain ⟨F, hH, hF, hB0⟩ := s
  have hFw := hH.own
  have hH2 := hH.below hbl
  have hR : VerR w2 (fun k => k = b ∨ k = ar) b (newVer 2 0 chK) :=
    ⟨fun k hk => by rcases hk with rfl | rfl; exact hV.blk.lt; exact hV.lt, .inl rfl, verNew_ok 2 0 chK (by decide) (by decide) (by decide), by decide, ar, cc, .inr rfl, hV⟩
  have off : Off F (fun k => k = b ∨ k = ar) := fun k hk hg => by
    have := hFw k hk
    rcases hg with rfl | rfl <;> omega
  have hA := alone_any verRout hH2 hR off (by decide) (by decide) 9 (by decide)
  have hB2 := nx hB0 (Nat.le_refl _) hbl
  have hs1 := hB0.size
  replace hA := Lib.hid hA
  replace hN := Lib.hid hN
  replace s2 := Lib.hid s2
  replace hH := Lib.hid hH
  replace hH2 := Lib.hid hH2
  replace hV := Lib.hid hV
  replace hR := Lib.hid hR
  replace off := Lib.hid off
  replace hB2 := Lib.hid hB2
  go_wp2_with fail
  refine (hA.out).mono ?_; rintro e w3 ⟨xs, S', s', hRun, hstop, hle, rfl, hW⟩
  obtain ⟨hl, ⟨r, rfl⟩, rfl⟩ := awake22_runs hRun hstop
  rw [hl]
  rw [show (!(verRout.act ⟨verTodo 2 0 chK, 2, 1⟩).2) = true from by kernel_rfl]
  obtain ⟨⟨F', Q', hH3, hR3, _, hnew⟩, hchg⟩ := hW
  obtain ⟨_, _, _, _, ar', cc', _, hV3⟩ := hR3
  have hB3 : Below w.heap.size w w3 := hB2.out.trans (hchg.below (fun k hk => by
    rcases hk with hk | hk | hk
    · exact hF k hk
    · omega
    · omega) hB2.out.size)
  have s3 : Sess w hb ⟨[⟨1, r, [2, 0, 0], ByteArray.empty⟩], 1, false, 0⟩ w3 := ⟨F', hH3, fun k hk => by
    have h2 := hB2.out.size
    rcases hnew k (.inl hk) with (hk | hk | hk) | hk
    · exact hF k hk
    · omega
    · omega
    · omega, hB3⟩
  replace hRun := Lib.hid hRun
  replace hV3 := Lib.hid hV3
  replace hH3 := Lib.hid hH3
  replace hchg := Lib.hid hchg
  replace hB3 := Lib.hid hB3
  have hRes := verResult_any hV3.out
  rw [show PVer.result ⟨verTodo 2 0 chK, 2, 1⟩ = (1, true) from by kernel_rfl] at hRes
  replace hRes := Lib.hid hRes
  clear hnew hle hl
  go_wp2_with fail
  refine (hRes.out).mono ?_; rintro e w4 ⟨rfl, hb4⟩
  have s4 := s3.keep hb4
  clear hb4
  go_wp2_with fail
  refine (s4.of fun F h => load_hit h (b := 1) (x := ⟨1, r, [2, 0, 0], ByteArray.empty⟩) rfl 0 (by show 0 < 3; decide)).mono ?_; rintro e w5 ⟨rfl, s5⟩
  rw [show PBlk.nth ⟨1, r, [2, 0, 0], ByteArray.empty⟩ 0 = 2 from rfl]
  go_wp2_with fail
  refine (verResult_nil _).mono ?_; rintro e w6 ⟨rfl, hb6⟩
  have s6 := s5.keep hb6
  clear hb6
  go_wp2_with fail
  refine (s6.same fun F h => size_any h 1).mono ?_; rintro e w7 ⟨rfl, rfl⟩
  rw [show (((PHeap.find ⟨[⟨1, r, [2, 0, 0], ByteArray.empty⟩], 1, false, 0⟩ 1).map fun x => (x.cells.length : Int)).getD 0) = 3 from rfl]
  go_wp2_with fail
  go_ret
  exact ⟨rfl, s6.below⟩

/-- Between two rounds. -/
structure ActsRel (w : World) (len : Nat) (gs : List PGot) (n0 n1 : Int) (c : PChange) (b ar cc : Nat) (i : Value) (wr : World) : Prop where
  ex : ∃ k : Nat, k ≤ len + 1 ∧ i = .int .i64 k ∧ VerIn wr b ar cc (feed PVer.take (newVer n0 n1 c) (gs.take k))
  b0 : Blk wr w.heap.size 65 #[.int .u64 n0, .int .u64 n1]
  b1 : Blk wr (w.heap.size + 1) 67 #[.string c.key, .bool c.has, .string c.value]
  below : Below w.heap.size w wr
end Go.Proofs.Ytjoaifdjmdihoaa
