/-
  The routine that reserves a place (layer 28), as a routine; how it is made; the document's one on a tape. No condition.
-/
import Derived.Test.YtpldnbdcpihjcaaReserveT
import Derived.Test.YtpldnbdcpihjcaaTapeD
namespace Go.Proofs.Ytpldnbdcpihjcaa
set_option linter.unusedVariables false
open Go.ChangeShapes Go.WideShapes Go.ChangeAt Go.RowKit
open Go.ChangeMaps (setBlock)

theorem look_cfg (s : PRes) (x : Int) : (s.look x).cfg = s.cfg ∧ (s.look x).made = s.made ∧ (s.look x).tries = s.tries := by
  unfold PRes.look
  split <;> exact ⟨rfl, rfl, rfl⟩
theorem PRes.take_cfg (s : PRes) (g : PGot) : (s.take g).cfg = s.cfg ∧ (s.take g).made = s.made := by
  unfold PRes.take
  split
  · exact ⟨rfl, rfl⟩
  · split
    · exact ⟨(look_cfg _ _).1, (look_cfg _ _).2.1⟩
    · split
      · exact ⟨rfl, rfl⟩
      · exact ⟨(look_cfg _ _).1, (look_cfg _ _).2.1⟩
theorem PRes.take_idle (s : PRes) (h : s.idle = true) (g : PGot) : s.take g = s := by simp [PRes.take, h]
def ResR (w : World) (Q : Nat → Prop) (b : Nat) (s : PRes) : Prop := In Q w ∧ Q b ∧ ResIn w b s
def resRout : Rout PRes where
  T := 94
  fAct := 45
  fTake := 49
  mAct := fun _ _ => by kernel_rfl
  mTake := fun _ _ => by kernel_rfl
  nAct := fun _ _ => by kernel_rfl
  nTake := fun _ _ => by kernel_rfl
  eAct := fun _ _ => by kernel_rfl
  eTake := fun _ _ => by kernel_rfl
  R := ResR
  own := fun h => h.1
  hG := fun h => h.2.1
  keep := fun ⟨h1, h2, h3⟩ hs hk => ⟨h1.mono hs, h2, h3.keep (hk _ h2)⟩
  act := PRes.act
  take := PRes.take
  okA := fun {w G b s} ⟨_, _, h3⟩ => by
    have k0 : (-9223372036854775808 : Int) ≤ 0 ∧ (0 : Int) ≤ 9223372036854775807 := by decide
    have k1 : (-9223372036854775808 : Int) ≤ 1 ∧ (1 : Int) ≤ 9223372036854775807 := by decide
    have k3 : (-9223372036854775808 : Int) ≤ 3 ∧ (3 : Int) ≤ 9223372036854775807 := by decide
    have z : (0 : Int) ≤ 0 ∧ (0 : Int) ≤ 18446744073709551615 := by decide
    have z1 : (0 : Int) ≤ 1 ∧ (1 : Int) ≤ 18446744073709551615 := by decide
    have hE : ByteArray.empty.size ≤ 9223372036854775807 := by decide
    unfold PRes.act
    split
    · exact ⟨k0, z, k0, z, z, hE⟩
    · split
      · exact ⟨k3, z1, k1, h3.was, h3.next, hE⟩
      · exact ⟨k1, z1, k1, z, z, hE⟩
  cAct := fun ⟨_, _, h⟩ => resAct_any h
  cTake := fun {w G b s} g ⟨h1, h2, h3⟩ hg => (resTake_any h3 g hg).mono fun e w' ⟨he, hv, hc⟩ => ⟨he, ⟨h1.nw hc.size, .inl h2, hv⟩, hc.mono fun i hi => by rw [hi]; exact h2⟩
def newRes (c : PCfg) : PRes := ⟨c, c.right, false, 0, 0, 0, false, false, 0⟩
set_option maxHeartbeats 1000000 in
theorem resNew_any (c : PCfg) (w : World) : Calls Try.prog 44 #[c.val] w fun e w' => ∃ b, e = .returned (.pointer (some ⟨b, 0, none⟩)) ∧ ResIn w' b (newRes c) ∧ w.heap.size ≤ b ∧ Below w.heap.size w w' := by
  have hR := fun W => right_cfg c W
  have hN : (newRes c).cells = #[.int .i64 c.cap, .int .i64 c.pins, .int .i64 c.shelves, .int .i64 c.queue, .int .i64 c.watchers, .int .u64 c.seed, .bool c.right, .bool false, .int .u64 0, .int .u64 0, .int .i64 0, .bool false, .bool false, .int .i64 0] := rfl
  have fin : ∀ (W : World) (b : Nat), Blk W b 152 #[.int .i64 c.cap, .int .i64 c.pins, .int .i64 c.shelves, .int .i64 c.queue, .int .i64 c.watchers, .int .u64 c.seed, .bool c.right, .bool false, .int .u64 0, .int .u64 0, .int .i64 0, .bool false, .bool false, .int .i64 0] → ResIn W b (newRes c) := fun W b h => ⟨h, by show (0 : Int) ≤ 0 ∧ (0 : Int) ≤ 18446744073709551615; decide, by show (0 : Int) ≤ 0 ∧ (0 : Int) ≤ 18446744073709551615; decide⟩
  clear hN
  generalize newRes c = N at *
  generalize c.right = rt at *
  obtain ⟨a, b, s, q, t, z⟩ := c
  rw [show PCfg.val ⟨a, b, s, q, t, z⟩ = .agg #[.int .i64 a, .int .i64 b, .int .i64 s, .int .i64 q, .int .i64 t, .int .u64 z] from rfl] at *
  simp only at fin
  have B1 := Blk.new w 24 #[.int .i64 a, .int .i64 b, .int .i64 s, .int .i64 q, .int .i64 t, .int .u64 z]
  have hz : Below w.heap.size w (w.alloc (.cells #[.int .i64 a, .int .i64 b, .int .i64 s, .int .i64 q, .int .i64 t, .int .u64 z] 24)) := (Below.refl _ _).alloc (Nat.le_refl _) _
  replace B1 := Lib.hid B1
  replace hz := Lib.hid hz
  replace hR := Lib.hid hR
  replace fin := Lib.hid fin
  go_enter Try.func44, Try.ntmps44
  go_wp2_with fail
  go_region_with (go_at_call 20; refine (hR.out _).mono ?_; rintro e w1 ⟨rfl, hb⟩; have B2 := Blk.below (w := (w.alloc (.cells #[.int .i64 a, .int .i64 b, .int .i64 s, .int .i64 q, .int .i64 t, .int .u64 z] 24)).drew) B1.out hb (by simp); have d0 := B2.cell 0; have d1 := B2.cell 1; have d2 := B2.cell 2; have d3 := B2.cell 3; have d4 := B2.cell 4; have d5 := B2.cell 5; have hb' := nx (b := (w.alloc (.cells #[.int .i64 a, .int .i64 b, .int .i64 s, .int .i64 q, .int .i64 t, .int .u64 z] 24)).drew) hz.out.drew (Nat.le_refl _) hb; replace B2 := Lib.hid B2; replace hb' := Lib.hid hb'; clear hb)
  all_goals
    go_wp2
    go_ret
    refine ⟨w1.heap.size, by simp [Act.put], fin.out _ _ (Blk.new w1 _ _), ?_, ?_⟩
    · have := hb'.out.size; omega
    · exact hb'.out.alloc hb'.out.size _
end Go.Proofs.Ytpldnbdcpihjcaa
