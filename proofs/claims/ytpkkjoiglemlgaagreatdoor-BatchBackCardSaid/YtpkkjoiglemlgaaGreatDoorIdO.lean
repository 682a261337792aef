/-
  Sets of names (layer 12): Of. No condition.
-/
import Derived.Test.YtpkkjoiglemlgaaGreatDoorIdT
namespace Go.Proofs.YtpkkjoiglemlgaaGreatDoor
set_option linter.unusedVariables false
open Go.ChangeShapes Go.WideShapes Go.ChangeAt Go.RowKit Go.Extern.Stop Go.Stop Go.Extern
open Go.ChangeMaps (setBlock)

def idCells (p : Int × Int) : List Value := [.int .i64 p.1, .int .i64 p.2]
/-- A set that the call has made. -/
def OwnSet (w0 w : World) (b : Nat) (c : Int) (ids : List (Int × Int)) : Prop := ∃ F, SetIs w b F c ids ∧ (∀ k, F k → w0.heap.size ≤ k)
theorem OwnSet.below {w0 w w' : World} {b : Nat} {c : Int} {ids : List (Int × Int)} (h : OwnSet w0 w b c ids) (hb : Below w.heap.size w w') : OwnSet w0 w' b c ids := by
  obtain ⟨F, h1, h2⟩ := h
  exact ⟨F, h1.below hb, h2⟩
theorem OwnSet.to {w0 w w' : World} {b : Nat} {d : Int} {ids' : List (Int × Int)} {F : Nat → Prop} (h2 : ∀ k, F k → w0.heap.size ≤ k) (hb : Below w0.heap.size w0 w) (t : SetTo F b d ids' w w') : OwnSet w0 w' b d ids' ∧ Below w0.heap.size w0 w' :=
  ⟨⟨_, t.1, fun k hk => hk.elim (h2 k) fun h => Nat.le_trans hb.size h.1⟩, hb.trans (t.2.below h2 hb.size)⟩
set_option maxHeartbeats 1000000 in
set_option maxRecDepth 100000 in
theorem setOf_any {w : World} {A : Option Addr} {n cap : Nat} {l : List (Int × Int)} (hl : l.length = n) (hn : n ≤ 1000000) (hr : Reads w w.heap.size 2 A n (l.flatMap idCells)) (hok : ∀ p ∈ l, idOk p) :
    Calls Tryz.prog 34 #[.slice A n cap] w fun e w' => ∃ b, e = .returned (.pointer (some ⟨b, 0, none⟩)) ∧ OwnSet w w' b n (l.foldl addIds []) ∧ Below w.heap.size w w' := by
  have B0 := Blk.new w 113 #[.map none]
  have hW0 : Below w.heap.size w (w.alloc (.cells #[.map none] 113)) := (Below.refl _ _).alloc (Nat.le_refl _) _
  have h0 : OwnSet w (w.alloc (.cells #[.map none] 113)) w.heap.size 0 [] := ⟨fun k => k = w.heap.size, ⟨fun k hk => by simp [hk], rfl, .inl ⟨B0, rfl⟩⟩, fun k hk => by omega⟩
  replace h0 := Lib.hid h0
  replace hr := Lib.hid hr
  replace hok := Lib.hid hok
  clear B0
  go_enter Tryz.func34, Tryz.ntmps34
  go_wp2_with fail
  go_loopw [10] (fun i wr => ∃ k : Nat, i = .int .i64 k ∧ k ≤ n ∧ OwnSet w wr w.heap.size k ((l.take k).foldl addIds []) ∧ Below w.heap.size w wr) (fun i _ => n + 1 - (intOf i).toNat)
  case atStart => exact ⟨0, rfl, Nat.zero_le _, h0.out, hW0⟩
  case round =>
    obtain ⟨k, rfl, hk, hO, hb⟩ := hrel
    by_cases hlt : k < n
    · obtain ⟨ad, ⟨x, y⟩, rfl, hab, hx, hf⟩ := (hr.out.below hb).fld (mk := idCells) (fun _ => rfl) hlt hl
      have e0 : wr.cell? (ad.add (k * 2)) = some (.int .i64 x) := hf 0 _ rfl
      have e1 : wr.cell? ⟨(ad.add (k * 2)).block, (ad.add (k * 2)).off + 1, none⟩ = some (.int .i64 y) := by
        have := hf 1 _ rfl
        rw [← add_of_add] at this
        exact this
      obtain ⟨F, hS, hF⟩ := hO
      have hk1 : idOk (x, y) := hok.out _ (List.mem_of_getElem? hx)
      have hW1 : Below wr.heap.size wr (wr.alloc (.cells #[.int .i64 x, .int .i64 y] 23)) := (Below.refl _ _).alloc (Nat.le_refl _) _
      have hA := setAdd_any (hS.below hW1) (by omega) (by omega) x y hk1
      have hb1 := Below.next_ hb hW1
      have htk : (l.take (k + 1)).foldl addIds [] = addIds ((l.take k).foldl addIds []) (x, y) := by
        rw [List.take_add_one, hx]
        simp
      replace hA := Lib.hid hA
      replace hF := Lib.hid hF
      replace htk := Lib.hid htk
      clear hS hf hx hW1
      go_wp2_with fail
      refine (hA.out).mono ?_; rintro e w1 ⟨rfl, ht⟩
      obtain ⟨hO2, hb2⟩ := OwnSet.to hF.out hb1 ht
      go_wp2_with fail
      go_roundw
      case rel => exact ⟨k + 1, by go_num, by omega, by rw [htk.out]; exact hO2, hb2⟩
      case measure => simp [intOf]; omega
    · obtain rfl : k = n := by omega
      go_wp2_with fail
      go_ret
      refine ⟨_, rfl, ?_, hb⟩
      rwa [List.take_of_length_le (by omega)] at hO
end Go.Proofs.YtpkkjoiglemlgaaGreatDoor
