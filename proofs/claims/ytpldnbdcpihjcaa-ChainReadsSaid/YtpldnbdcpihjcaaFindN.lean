/-
  The routine that looks for a key's shelf (layer 23): how it is made; as a routine. No condition.
-/
import Derived.Test.YtpldnbdcpihjcaaFindT
import Derived.Deep.RegionHeld3
namespace Go.Proofs.Ytpldnbdcpihjcaa
set_option linter.unusedVariables false
open Go.ChangeShapes Go.WideShapes Go.ChangeAt Go.RowKit
open Go.ChangeMaps (setBlock)

def newFind (c : PCfg) (key : ByteArray) : PFind := ⟨c, key, sumP c.seed key, 0, 0, 0, 0, c.right⟩
set_option maxRecDepth 100000 in
set_option maxHeartbeats 8000000 in
theorem findNew_any (c : PCfg) (key : ByteArray) (hkey : key.size ≤ 9223372036854775807) (w : World) : Calls Try.prog 14 #[c.val, .string key] w fun e w' => ∃ b, e = .returned (.pointer (some ⟨b, 0, none⟩)) ∧ FindIn w' b (newFind c key) ∧ w.heap.size ≤ b ∧ Below w.heap.size w w' := by
  have hR := fun W => right_cfg c W
  have hSm := fun W => sum_any c.seed key hkey W
  have hso := sumP_ok c.seed key
  have fin : ∀ (W : World) (b : Nat), Blk W b 112 #[.int .i64 c.cap, .int .i64 c.pins, .int .i64 c.shelves, .int .i64 c.queue, .int .i64 c.watchers, .int .u64 c.seed, .string key, .int .u64 (sumP c.seed key), .int .i64 0, .int .u64 0, .int .i64 0, .int .i64 0, .bool c.right] → FindIn W b (newFind c key) := fun W b h =>
    ⟨h, fun hm => (PCfg.right_iff c).1 hm, fun hm => by have := ((PCfg.right_iff c).1 hm).shelves; exact ⟨Int.le_refl _, by show 0 ≤ c.shelves; omega, fun _ => by show 0 < c.shelves; omega⟩, hso, by show (0 : Int) ≤ 0 ∧ (0 : Int) ≤ 18446744073709551615; decide, by show (0 : Int) ≤ 0 ∧ (0 : Int) ≤ 3; decide, fun _ => rfl, hkey⟩
  generalize newFind c key = N at *
  generalize sumP c.seed key = sm at *
  generalize c.right = rt at *
  obtain ⟨a, p, s, q, t, z⟩ := c
  rw [show PCfg.val ⟨a, p, s, q, t, z⟩ = .agg #[.int .i64 a, .int .i64 p, .int .i64 s, .int .i64 q, .int .i64 t, .int .u64 z] from rfl] at *
  simp only at fin hSm
  have B1 := Blk.new w 24 #[.int .i64 a, .int .i64 p, .int .i64 s, .int .i64 q, .int .i64 t, .int .u64 z]
  have hz : Below w.heap.size w (w.alloc (.cells #[.int .i64 a, .int .i64 p, .int .i64 s, .int .i64 q, .int .i64 t, .int .u64 z] 24)) := (Below.refl _ _).alloc (Nat.le_refl _) _
  replace B1 := Lib.hid B1
  replace hz := Lib.hid hz
  replace hR := Lib.hid hR
  replace hSm := Lib.hid hSm
  replace fin := Lib.hid fin
  replace hso := Lib.hid hso
  go_enter Try.func14, Try.ntmps14
  go_wp2_with fail
  go_region_with (first | (go_at_call 55; refine (hSm.out _).mono ?_; rintro e w1 ⟨rfl, rfl⟩) | (go_at_call 20; refine (hR.out _).mono ?_; rintro e w2 ⟨rfl, hb⟩; have B2 : Blk w2 w.heap.size 24 #[.int .i64 a, .int .i64 p, .int .i64 s, .int .i64 q, .int .i64 t, .int .u64 z] := (by first | exact (B1.out.drewN _).below hb (B1.out.drewN _).lt | exact (B1.out.drew).below hb B1.out.drew.lt | exact B1.out.below hb B1.out.lt); have d0 := B2.cell 0; have d1 := B2.cell 1; have d2 := B2.cell 2; have d3 := B2.cell 3; have d4 := B2.cell 4; have d5 := B2.cell 5; have hb' : Below w.heap.size w w2 := Below.next_ (by first | exact hz.out | exact hz.out.drew | exact below_drewN hz.out _ | exact (below_drewN hz.out _).drew) hb; replace B2 := Lib.hid B2; replace hb' := Lib.hid hb'; clear hb))
  all_goals
    go_wp2
    go_ret
    refine ⟨w2.heap.size, by simp [Act.put], fin.out _ _ (Blk.new w2 _ _), ?_, ?_⟩
    · have := hb'.out.size; omega
    · exact hb'.out.alloc hb'.out.size _
/-- A routine, where it lies. -/
def FindR (w : World) (Q : Nat → Prop) (b : Nat) (s : PFind) : Prop := In Q w ∧ Q b ∧ FindIn w b s
theorem findR_fresh {w : World} {b : Nat} {s : PFind} (h : FindIn w b s) : FindR w (fun k => k = b) b s := ⟨fun k hk => by rw [hk]; exact h.blk.lt, rfl, h⟩
theorem findAct_ok {w : World} {b : Nat} {s : PFind} (h : FindIn w b s) : (s.act).1.Ok := by
  have k0 : (-9223372036854775808 : Int) ≤ 0 ∧ (0 : Int) ≤ 9223372036854775807 := by decide
  have k1 : (-9223372036854775808 : Int) ≤ 1 ∧ (1 : Int) ≤ 9223372036854775807 := by decide
  have k6 : (-9223372036854775808 : Int) ≤ 6 ∧ (6 : Int) ≤ 9223372036854775807 := by decide
  have z : (0 : Int) ≤ 0 ∧ (0 : Int) ≤ 18446744073709551615 := by decide
  have z1 : (0 : Int) ≤ 1 ∧ (1 : Int) ≤ 18446744073709551615 := by decide
  have hE : ByteArray.empty.size ≤ 9223372036854775807 := by decide
  have hI : s.idle = (!s.made || s.kind != 0) := rfl
  unfold PFind.act
  cases hid : s.idle with
  | true => exact ⟨k0, z, k0, z, z, hE⟩
  | false =>
    have hm : s.made = true := by
      rw [hid] at hI
      cases hm : s.made with
      | false => rw [hm] at hI; cases hI
      | true => rfl
    have hR := h.right hm
    have h1 := hR.pins
    have h2 := hR.cap
    have h3 := hR.shelves
    have h4 := placeP_ok s.sum s.cfg.shelves s.i h3.1
    simp only [Bool.false_eq_true, if_false]
    split
    · exact ⟨k6, h.block, k0, z, z, hE⟩
    · refine ⟨k1, z1, ?_, z, z, hE⟩
      show -9223372036854775808 ≤ 3 + s.cfg.pins + s.cfg.cap + 2 * s.place ∧ 3 + s.cfg.pins + s.cfg.cap + 2 * s.place ≤ 9223372036854775807
      have h5 : 0 ≤ s.place ∧ s.place < s.cfg.shelves := h4
      omega
def findRout : Rout PFind where
  T := 27
  fAct := 16
  fTake := 19
  mAct := fun _ _ => by kernel_rfl
  mTake := fun _ _ => by kernel_rfl
  nAct := fun _ _ => by kernel_rfl
  nTake := fun _ _ => by kernel_rfl
  eAct := fun _ _ => by kernel_rfl
  eTake := fun _ _ => by kernel_rfl
  R := FindR
  own := fun h => h.1
  hG := fun h => h.2.1
  keep := fun ⟨h1, h2, h3⟩ hs hk => ⟨h1.mono hs, h2, h3.keep (hk _ h2)⟩
  act := PFind.act
  take := PFind.take
  okA := fun h => findAct_ok h.2.2
  cAct := fun ⟨_, _, h⟩ => findAct_any h
  cTake := fun {w G b s} g ⟨h1, h2, h3⟩ hg => (findTake_any h3 g hg).mono fun e w' ⟨he, hv, hc⟩ => ⟨he, ⟨h1.nw hc.size, .inl h2, hv⟩, hc.mono fun i hi => by rw [hi]; exact h2⟩
end Go.Proofs.Ytpldnbdcpihjcaa
