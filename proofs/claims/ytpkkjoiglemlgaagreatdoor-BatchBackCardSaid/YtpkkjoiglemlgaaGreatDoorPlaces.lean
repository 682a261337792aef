/-
  fail.Places; the law's Wrong. No condition.
-/
import Derived.Test.YtpkkjoiglemlgaaGreatDoorAs
import Derived.Test.YtpkkjoiglemlgaaGreatDoorFr
import Derived.Test.YtpkkjoiglemlgaaGreatDoorSeptet
namespace Go.Proofs.YtpkkjoiglemlgaaGreatDoor
set_option linter.unusedVariables false
open Go.RowKit Go.Extern.Stop Go.Stop Go.Extern Go.ChangeShapes

def intL (l : List Int) : List Value := l.map fun z => .int .i64 z
theorem intL_snoc (l : List Int) (z : Int) : intL l ++ [.int .i64 z] = intL (l ++ [z]) := by simp [intL]
theorem infoI : (Tryz.prog.info? 3).map (fun i => (i.zero, i.size, i.bytes)) = some (some (.int .i64 0), 1, 8) := by kernel_rfl
theorem own_keep {w w' : World} {base size n : Nat} {e : TypeId} {v : Value} {xs : List Value} (h : w.ownsRow base e size v n xs) {B : Nat} (hb : Below B w w') (hB : ∀ g, v.ownBlock = some g → g < B) : w'.ownsRow base e size v n xs :=
  ⟨h.1, h.2.imp id fun ⟨g, cap, cur, e1, e2, e3, r⟩ => ⟨g, cap, cur, e1, e2, (hb.block g (hB g (by rw [e1]; rfl))).trans e3, r⟩⟩
theorem own_under {w w' : World} {base size n : Nat} {e : TypeId} {v : Value} {xs : List Value} (h : w.ownsRow base e size v n xs) (hb : Below w.heap.size w w') : w'.ownsRow base e size v n xs :=
  own_keep h hb fun g hg => (World.ownsRow.lt h g hg).2
set_option maxRecDepth 100000 in
set_option maxHeartbeats 1000000 in
theorem places_any {w : World} {sv : Nat → Addr} (T : ETy w) (v : Value) (ps : List Int) (i : Nat) (hv : ErrIs w sv v ps i) (hl : ps.length ≤ 1000000) :
    Calls Tryz.prog 27 #[v] w fun e w' => ∃ r, e = .returned r ∧ w'.ownsRow w.heap.size 3 1 r ps.length (intL ps) ∧ Below w.heap.size w w' := by
  obtain ⟨i0, hi, hz0, hz1, hz2⟩ := info_parts infoI
  replace T := Lib.hid T
  replace hv := Lib.hid hv
  go_enter Tryz.func27, Tryz.ntmps27
  go_wp2_with fail
  go_loopw [0, 3] (fun E r wr => ∃ acc rest, acc ++ rest = ps ∧ ErrIs w sv E rest i ∧ wr.ownsRow w.heap.size 3 1 r acc.length (intL acc) ∧ Below w.heap.size w wr) (fun E _ _ => errLen w E)
  case atStart => exact ⟨[], ps, rfl, hv.out, World.ownsRow_nil _ _ _ _, Below.refl _ _⟩
  case round =>
    obtain ⟨acc, rest, hps, hE, hown, hb⟩ := hrel
    replace hps := Lib.hid hps
    have hsz := hb.size
    rcases rest with _ | ⟨p, rest⟩
    · obtain ⟨_, rfl⟩ := hE
      go_wp2_with fail
      refine (as_miss _ _ _ ((T.out.below hb).below ((Below.refl _ _).alloc (Nat.le_refl _) _))).mono ?_; rintro e w1 ⟨rfl, hb1⟩
      go_wp2_with fail
      go_ret
      have hb2 : Below wr.heap.size wr w1 := Below.trans ((Below.refl _ _).alloc (Nat.le_refl _) _) (hb1.mono (by simp))
      refine ⟨_, rfl, ?_, Below.next_ hb hb2⟩
      have : acc = ps := by have := hps.out; simpa using this
      rw [← this]
      exact own_under hown hb2
    · obtain ⟨b, u, rfl, hB, hC⟩ := hE
      have hlen : (acc ++ p :: rest).length = ps.length := by rw [hps.out]
      have hm1 := errLen_eq hC
      have hm2 := errLen_eq (ErrIs.wrap b p u rest i hB hC)
      replace hm1 := Lib.hid hm1
      replace hm2 := Lib.hid hm2
      simp only [List.length_append, List.length_cons] at hlen
      replace hlen := Lib.hid hlen
      have hbw := hB.lt
      have hC := Lib.hid hC
      go_wp2_with fail
      refine (as_at b ⟨wr.heap.size, 0, none⟩ (.pointer none) _ ((T.out.below hb).below ((Below.refl _ _).alloc (Nat.le_refl _) _)) ?c1 ?c2).mono ?_
      case c1 => exact (Blk.new wr 101 #[.pointer none]).cell 0
      case c2 => exact (Blk.new wr 101 #[.pointer none]).frozen 0
      rintro e w1 ⟨rfl, hcell, hb1, hs1⟩
      have hb1' : Below wr.heap.size (wr.alloc (.cells #[.pointer none] 101)) w1 := hb1
      have hb2 : Below wr.heap.size wr w1 := Below.trans ((Below.refl _ _).alloc (Nat.le_refl _) _) hb1'
      have hBw := ((hB.below hb hbw).below hb2 (by omega))
      have g1 := hBw.cell 0
      have g2 := hBw.cell 1
      replace hBw := Lib.hid hBw
      have hown1 := own_under hown hb2
      have hsz2 := hb2.size
      have hsz3 : wr.heap.size + 1 ≤ w1.heap.size := by simpa using hs1
      go_wp2_with (at_builtin; go_loud (refine wpList_append_any _ rfl _ _ 40 rfl w.heap.size 3 i0 (.int .i64 0) 1 8 Tryz.underlying40 hi hz0 hz1 hz2 rfl (by decide) _ _ _ rfl (hown1.alloc _) (w1.heap.size + 1) (some ⟨w1.heap.size, 0, none⟩) 1 1 [.int .i64 p] rfl (reads_new w1 3 (.int .i64 p)) (by simp [Value.oneCell']) (by have := hlen.out; unfold maxLen; omega) (by have := hlen.out; omega) (by simp; omega) ?_; intro v' w2 hown2 hgrow hloc; rw [intL_snoc] at hown2; have hne1 : u3.ownBlock ≠ some wr.heap.size := (fun hc => by have := (World.ownsRow.lt hown _ hc).2; omega); have hne2 : u3.ownBlock ≠ some b := (fun hc => by have := (World.ownsRow.lt hown _ hc).1; omega); have g3 : w2.cell? ⟨wr.heap.size, 0, none⟩ = some (.pointer (some ⟨b, 0, none⟩)) := (World.cell?_of_block (hgrow.block wr.heap.size (by simp; omega) (fun e => hne1 e.symm))).trans ((World.cell?_alloc_lt _ _ ⟨wr.heap.size, 0, none⟩ (by show wr.heap.size < _; omega)).trans hcell); have g4 : w2.cell? ⟨b, 1, none⟩ = some u := (World.cell?_of_block (hgrow.block b (by simp; omega) (fun e => hne2 e.symm))).trans ((World.cell?_alloc_lt _ _ ⟨b, 1, none⟩ (by show b < _; omega)).trans g2)))
      go_roundw
      case rel =>
        refine ⟨acc ++ [p], rest, by have := hps.out; simpa using this, hC.out, by simpa using hown2, ?_⟩
        exact own_below (Nat.le_refl _) (Below.more_ (Below.next_ hb hb2) _) (hown1.alloc _) hgrow
      case measure =>
        rw [hm1.out, hm2.out]; simp
theorem own_form {w : World} {base n : Nat} {e : TypeId} {v : Value} {xs : List Value} (h : w.ownsRow base e 1 v n xs) (hn : 0 < n) : ∃ g cap, v = .slice (some ⟨g, 0, none⟩) n cap ∧ base ≤ g ∧ g < w.heap.size ∧ n ≤ cap ∧ ∀ j u, xs[j]? = some u → w.cell? ⟨g, j, none⟩ = some u := by
  rcases h.2 with ⟨_, h0⟩ | ⟨g, cap, cur, rfl, h1, h2, h3, _⟩
  · omega
  · refine ⟨g, cap, rfl, h1, (Array.getElem?_eq_some_iff.1 h2).1, h3, fun j u hu => ?_⟩
    have hj : j < n * 1 := by
      have := h.1
      rw [← this]
      exact (List.getElem?_eq_some_iff.1 hu).1
    rw [World.ownsRow.cellAt h j hj, hu]
end Go.Proofs.YtpkkjoiglemlgaaGreatDoor
