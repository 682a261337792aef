import Derived.Test.YtpkkjoiglemlgaaGreatDoorPts
import Derived.Test.YtpkkjoiglemlgaaGreatDoorAsF
/-
  opcode's told: an error, with its part. No condition.
-/
namespace Go.Proofs.YtpkkjoiglemlgaaGreatDoor
set_option linter.unusedVariables false
open Go.RowKit Go.Extern.Stop Go.Stop Go.Extern Go.ChangeShapes

set_option maxHeartbeats 2000000 in
theorem told_at {w : World} {sv : Nat → Addr} (T : ETy w) (v : Value) (p : Int) (i : Nat) (h : ErrIs w sv v [p] i) :
    Calls Tryz.prog 110 #[v] w fun e w' => e = .returned v ∧ Below w.heap.size w w' := by
  obtain ⟨b, u, rfl, hB, hi, rfl⟩ := h
  have hb0 : Below w.heap.size w (w.alloc (.cells #[.pointer none] 209)) := (Below.refl _ _).alloc (Nat.le_refl _) _
  have hC := Lib.hid (fas_chain b p (.pointer (some (sv i))) ⟨w.heap.size, 0, none⟩ _ (T.below hb0) (hB.alloc _))
  replace hB := Lib.hid hB
  replace T := Lib.hid T
  go_enter Tryz.func110, Tryz.ntmps110
  go_wp2_with fail
  refine (hC.out).mono ?_; rintro e w1 ⟨rfl, hb1⟩
  go_wp2_with fail
  go_ret
  exact ⟨rfl, hb0.trans (hb1.mono (by simp))⟩
set_option maxRecDepth 100000 in
set_option maxHeartbeats 2000000 in
theorem told_fault {w : World} {sv : Nat → Addr} (T : ETy w) (fb : Nat) (part : Int) (u : Value) (pl : Int) (i : Nat) (hF : Blk w fb 211 #[.int .i64 part, u]) (hE : ErrIs w sv u [pl] i) :
    Calls Tryz.prog 110 #[.iface 209 (.pointer (some ⟨fb, 0, none⟩))] w fun e w' => ∃ v, e = .returned v ∧ ErrIs w' sv v [part, pl] i ∧ Below w.heap.size w w' := by
  have hb0 : Below w.heap.size w (w.alloc (.cells #[.pointer none] 209)) := (Below.refl _ _).alloc (Nat.le_refl _) _
  have hC := Lib.hid (fas_at fb ⟨w.heap.size, 0, none⟩ (.pointer none) _ (T.below hb0) ((Blk.new w 209 #[.pointer none]).cell 0) ((Blk.new w 209 #[.pointer none]).frozen 0))
  obtain ⟨ty, uu, rfl⟩ := hE.iface
  have hfl := hF.lt
  replace hF := Lib.hid hF
  replace hE := Lib.hid hE
  replace T := Lib.hid T
  go_enter Tryz.func110, Tryz.ntmps110
  go_wp2_with fail
  refine (hC.out).mono ?_; rintro e w1 ⟨rfl, hc1, hb1, hs1⟩
  have hb2 : Below w.heap.size w w1 := hb0.trans (hb1.mono (Nat.le_refl _))
  have hF1 := hF.out.below hb2 hfl
  have hE1 := ErrIs.under hb2 hE.out
  have c0 := hF1.cell 0
  have c1 := hF1.cell 1
  have hA := Lib.hid (fun (W : World) (hW : Below w1.heap.size w1 W) => at_any (w := W) (sv := sv) part (.iface ty uu) [pl] i (ErrIs.under hW hE1))
  have hd : Below w1.heap.size w1 w1.drew := (Below.refl _ _).drew
  replace hF1 := Lib.hid hF1
  replace hE1 := Lib.hid hE1
  go_wp2_with fail
  go_region_held3 (fun W => Below w1.heap.size w1 W ∧ W.cell? ⟨w.heap.size, 0, none⟩ = some (.pointer (some ⟨fb, 0, none⟩)) ∧ W.cell? ⟨fb, 0, none⟩ = some (.int .i64 part) ∧ W.cell? ⟨fb, 1, none⟩ = some (.iface ty uu))
    (first | assumption | go_keep)
    (first | (go_at_call 39; refine (hA.out _ (by assumption)).mono ?_; rintro e w8 ⟨v', rfl, hv8, hb8⟩; have hz8 := Below.next_ (by assumption : Below w1.heap.size w1 _) hb8; have k0 := (hz8.cell (p := ⟨w.heap.size, 0, none⟩) (cell_lt hc1)).trans hc1; have k1 := (hF1.out.below hz8 hF1.out.lt).cell 0; have k2 := (hF1.out.below hz8 hF1.out.lt).cell 1; replace hv8 := Lib.hid hv8))
  all_goals
    go_wp2_with fail
    go_ret
    exact ⟨_, rfl, hv8.out, hb2.trans (hz8.mono hb2.size)⟩
end Go.Proofs.YtpkkjoiglemlgaaGreatDoor

/-
  opcode.Take. No condition.
-/
namespace Go.Proofs.YtpkkjoiglemlgaaGreatDoor
set_option linter.unusedVariables false
open Go.RowKit Go.Extern.Stop Go.Stop Go.Extern Go.ChangeShapes

def zeroOp : Value := .agg #[.slice none 0 0, .slice none 0 0]
/-- An operation whose rows are the call's own. -/
def OwnOp (w : World) (B : Nat) (v : Value) (o : OOp) : Prop := ∃ A c A' c', v = .agg #[.slice A o.guards.length c, .slice A' o.steps.length c'] ∧ w.ownsRow B 94 3 (.slice A o.guards.length c) o.guards.length (o.guards.flatMap gCells) ∧ w.ownsRow B 96 5 (.slice A' o.steps.length c') o.steps.length (o.steps.flatMap sCells)
theorem OwnOp.is {w : World} {B : Nat} {v : Value} {o : OOp} (h : OwnOp w B v o) : OpIs w v o := by
  obtain ⟨A, c, A', c', e, h1, h2⟩ := h
  exact ⟨A, _, c, A', _, c', e, rfl, rfl, Reads.of_own h1, Reads.of_own h2⟩
theorem OwnOp.keep {w w' : World} {B : Nat} {v : Value} {o : OOp} (h : OwnOp w B v o) (hk : ∀ g t cs, t = 94 ∨ t = 96 → Blk w g t cs → w'.heap[g]? = w.heap[g]?) : OwnOp w' B v o := by
  obtain ⟨A, c, A', c', e, h1, h2⟩ := h
  refine ⟨A, c, A', c', e, ⟨h1.1, h1.2.imp id ?_⟩, ⟨h2.1, h2.2.imp id ?_⟩⟩
  · rintro ⟨g, cap, cur, e1, e2, e3, e4⟩
    exact ⟨g, cap, cur, e1, e2, (hk g _ cur (.inl rfl) e3).trans e3, e4⟩
  · rintro ⟨g, cap, cur, e1, e2, e3, e4⟩
    exact ⟨g, cap, cur, e1, e2, (hk g _ cur (.inr rfl) e3).trans e3, e4⟩
theorem own_base {w : World} {B B' size n : Nat} {te : TypeId} {v : Value} {xs : List Value} (h : w.ownsRow B te size v n xs) (hB : B' ≤ B) : w.ownsRow B' te size v n xs := by
  refine ⟨h.1, h.2.imp id ?_⟩
  rintro ⟨g, cap, cur, e1, e2, e3⟩
  exact ⟨g, cap, cur, e1, by omega, e3⟩
theorem OwnOp.mono {w : World} {B B' : Nat} {v : Value} {o : OOp} (h : OwnOp w B v o) (hB : B' ≤ B) : OwnOp w B' v o := by
  obtain ⟨A, c, A', c', e, h1, h2⟩ := h
  exact ⟨A, c, A', c', e, own_base h1 hB, own_base h2 hB⟩
theorem OwnOp.below {w w' : World} {B : Nat} {v : Value} {o : OOp} (h : OwnOp w B v o) (hb : Below w.heap.size w w') : OwnOp w' B v o := h.keep fun g _ _ _ hB => hb.block g hB.lt
theorem OwnOp.far {w : World} {B b : Nat} {v : Value} {o : OOp} {cs : Array Value} (h : OwnOp w B v o) (hb : Blk w b 62 cs) (i : Nat) (u : Value) : OwnOp (w.setCell ⟨b, i, none⟩ u) B v o := h.keep fun g t _ ht hB => Below.heap_setCell w ⟨b, i, none⟩ u g fun e => by
  simp only at e
  subst e
  rcases ht with rfl | rfl
  · exact Blk.ne_ hB hb (by decide) rfl
  · exact Blk.ne_ hB hb (by decide) rfl
/-- What Take answers. -/
def TakeOut (B : Nat) (w' : World) (sv : Nat → Addr) (r : Except (Int × Int × Int) (OOp × Int)) (v nx err : Value) : Prop := match r with
  | .ok x => OwnOp w' B v x.1 ∧ nx = .int .i64 x.2 ∧ err = .nilIface
  | .error e => v = zeroOp ∧ nx = .int .i64 0 ∧ ErrIs w' sv err (if e.2.2 < 0 then [e.2.1] else [e.2.2, e.2.1]) (sIdx e.1)
theorem pTake_cnt (s : ByteArray) (p : Int) : pTake s p = match cnt s p 4 3 with
  | .error c => .error (c, p, -1)
  | .ok n => match pRow (pGuard s) n.1 0 n.2 [] with
    | .error e => .error (e.2.1, e.2.2, (e.1 : Int))
    | .ok g => match cnt s g.2 4 3 with
      | .error c => .error (c, g.2, -1)
      | .ok m => if m.1 = 0 then .error (4, g.2, -1) else match pRow (pStep s) m.1 n.1 m.2 [] with
        | .error e => .error (e.2.1, e.2.2, (e.1 : Int))
        | .ok x => .ok (⟨g.1, x.1⟩, x.2) := by
  unfold pTake cnt
  by_cases h1 : (tk s p).2.2 ≠ 0
  · simp only [if_pos h1]
  · by_cases h2 : 4 < (tk s p).1
    · simp only [if_neg h1, if_pos h2]
    · simp only [if_neg h1, if_neg h2]
      cases pRow (pGuard s) (tk s p).1 0 (tk s p).2.1 [] with
      | error e => rfl
      | ok g =>
        simp only
        by_cases h3 : (tk s g.2).2.2 ≠ 0
        · simp only [if_pos h3]
        · by_cases h4 : 4 < (tk s g.2).1
          · simp only [if_neg h3, if_pos h4]
          · simp only [if_neg h3, if_neg h4]
            by_cases h5 : (tk s g.2).1 = 0
            · simp only [if_pos h5]
            · simp only [if_neg h5]
              cases pRow (pStep s) (tk s g.2).1 (tk s p).1 (tk s g.2).2.1 [] <;> rfl
theorem own_far {w : World} {B b size n : Nat} {te : TypeId} {v : Value} {xs : List Value} {cs : Array Value} (h : w.ownsRow B te size v n xs) (hb : Blk w b 62 cs) (hte : te ≠ 62) (i : Nat) (u : Value) : (w.setCell ⟨b, i, none⟩ u).ownsRow B te size v n xs :=
  ownKeep h fun g hg => Below.heap_setCell w ⟨b, i, none⟩ u g fun e => by
    simp only at e
    subst e
    exact own_blk_ne h hb hte hg
theorem cnt_le {s : ByteArray} {p : Int} {m : Nat} {c : Int} {n : Nat × Int} (h : cnt s p m c = .ok n) : n.1 ≤ m := by
  unfold cnt at h
  split at h
  · cases h
  · split at h
    · cases h
    · injection h with h
      subst h
      simp only
      omega
theorem pRow_len {α : Type} {one : Int → Except (Int × Int) (α × Int)} : ∀ (k i : Nat) (p : Int) (out : List α) (x : List α × Int), pRow one k i p out = .ok x → x.1.length = out.length + k
  | 0, i, p, out, x, h => by rw [pRow] at h; injection h with h; subst h; rfl
  | k + 1, i, p, out, x, h => by
    rw [pRow] at h
    split at h
    · cases h
    · have := pRow_len k (i + 1) _ _ _ h
      rw [this]
      simp
      omega
theorem err_setop {w : World} {sv : Nat → Addr} {b : Nat} {cs : Array Value} (hR : Blk w b 62 cs) (i : Nat) {x : Value} {ps : List Int} {v : Value} {j : Nat} (h : ErrIs w sv v ps j) : ErrIs (w.setCell ⟨b, i, none⟩ x) sv v ps j :=
  err_stays (fun _ _ hb => Blk.far hb (fun e => by
    simp only at e
    subst e
    exact Blk.ne_ hR hb (by decide) rfl) _) h
set_option maxRecDepth 100000 in
set_option maxHeartbeats 8000000 in
theorem opTake_any {w : World} {sv : Nat → Addr} (S : Sent w sv) (T : ETy w) (s : ByteArray) (p : Int) (hs : s.size ≤ 1000000) :
    Calls Tryz.prog 75 #[.string s, .int .i64 p] w fun e w' => ∃ v nx err, e = .returned (.tuple #[v, nx, err]) ∧ TakeOut w.heap.size w' sv (pTake s p) v nx err ∧ Below w.heap.size w w' := by
  have hB0 : Below w.heap.size w (((w.alloc (.cells #[.slice none 0 0, .slice none 0 0] 62)).alloc (.cells #[.slice none 0 0, .slice none 0 0] 62)).alloc (.cells #[.string s, .int .i64 p, .nilIface] 163)) := (((Below.refl _ _).alloc (Nat.le_refl _) _).alloc (by simp) _).alloc (by simp; omega) _
  have hRd0 : Rd (((w.alloc (.cells #[.slice none 0 0, .slice none 0 0] 62)).alloc (.cells #[.slice none 0 0, .slice none 0 0] 62)).alloc (.cells #[.string s, .int .i64 p, .nilIface] 163)) (w.heap.size + 1 + 1) s p .nilIface := by simpa [Rd] using Blk.new ((w.alloc (.cells #[.slice none 0 0, .slice none 0 0] 62)).alloc (.cells #[.slice none 0 0, .slice none 0 0] 62)) 163 #[.string s, .int .i64 p, .nilIface]
  have hOp0 : Blk (((w.alloc (.cells #[.slice none 0 0, .slice none 0 0] 62)).alloc (.cells #[.slice none 0 0, .slice none 0 0] 62)).alloc (.cells #[.string s, .int .i64 p, .nilIface] 163)) (w.heap.size + 1) 62 #[.slice none 0 0, .slice none 0 0] := Blk.alloc (by simpa using Blk.new (w.alloc (.cells #[.slice none 0 0, .slice none 0 0] 62)) 62 #[.slice none 0 0, .slice none 0 0]) _
  have hRes0 : Blk (((w.alloc (.cells #[.slice none 0 0, .slice none 0 0] 62)).alloc (.cells #[.slice none 0 0, .slice none 0 0] 62)).alloc (.cells #[.string s, .int .i64 p, .nilIface] 163)) w.heap.size 62 #[.slice none 0 0, .slice none 0 0] := Blk.alloc (Blk.alloc (Blk.new w 62 #[.slice none 0 0, .slice none 0 0]) _) _
  have hsz0 : (((w.alloc (.cells #[.slice none 0 0, .slice none 0 0] 62)).alloc (.cells #[.slice none 0 0, .slice none 0 0] 62)).alloc (.cells #[.string s, .int .i64 p, .nilIface] 163)).heap.size = w.heap.size + 1 + 1 + 1 := by simp
  have hC1 := Lib.hid (count_any (S.below hB0) (w.heap.size + 1 + 1) s p 4 3 hs (by decide) (by decide) hRd0)
  replace hB0 := Lib.hid hB0
  replace hRd0 := Lib.hid hRd0
  replace hOp0 := Lib.hid hOp0
  replace hRes0 := Lib.hid hRes0
  replace hsz0 := Lib.hid hsz0
  replace S := Lib.hid S
  replace T := Lib.hid T
  have hN4 := Lib.hid (fun W (hW : Sent W sv) => new_any hW 4)
  generalize hpt : pTake s p = R
  rw [pTake_cnt] at hpt
  replace hpt := Lib.hid hpt
  go_enter Tryz.func75, Tryz.ntmps75
  go_wp2_with fail
  refine (hC1.out).mono ?_; rintro e w1 ⟨n, rfl, hout, hch1⟩
  have hB1 : Below w.heap.size w w1 := hB0.out.trans (hch1.below (fun j hj => by omega) (by rw [hsz0.out]; omega))
  have hRes1 : Blk w1 w.heap.size 62 #[.slice none 0 0, .slice none 0 0] := Blk.keep hRes0.out (hch1.block _ (by rw [hsz0.out]; omega) (by omega))
  have hOp1 : Blk w1 (w.heap.size + 1) 62 #[.slice none 0 0, .slice none 0 0] := Blk.keep hOp0.out (hch1.block _ (by rw [hsz0.out]; omega) (by omega))
  have hs1 : w.heap.size + 1 + 1 + 1 ≤ w1.heap.size := by have := hch1.size; rw [hsz0.out] at this; exact this
  clear hC1 hch1
  cases hcn : cnt s p 4 3 with
  | error c =>
    have hpt2 := hpt.out
    rw [hcn] at hpt2
    simp only at hpt2
    clear hpt
    have hpt := Lib.hid hpt2
    clear hpt2
    rw [hcn] at hout
    obtain ⟨rfl, q, v, hR1, hE1⟩ := hout
    obtain ⟨ty, u, rfl⟩ := hE1.iface
    obtain ⟨_, c1, c2, _, _⟩ := nil_cell hR1
    have hT := Lib.hid (told_at (T.out.below hB1) _ _ _ hE1)
    have hCe := Lib.hid (count_err (w.heap.size + 1 + 1) s q ty u 4 3 hR1)
    replace hR1 := Lib.hid hR1
    replace hE1 := Lib.hid hE1
    replace hRes1 := Lib.hid hRes1
    replace hOp1 := Lib.hid hOp1
    replace hB1 := Lib.hid hB1
    replace hcn := Lib.hid hcn
    go_wp2_with fail
    refine (parts_none _ _ _ _).mono ?_; rintro e wx ⟨rfl, rfl⟩
    go_wp2_with fail
    refine (hCe.out).mono ?_; rintro e wx ⟨rfl, rfl⟩
    go_wp2_with fail
    refine (parts_none _ _ _ _).mono ?_; rintro e wx ⟨rfl, rfl⟩
    go_wp2_with fail
    refine (hT.out).mono ?_; rintro e w6 ⟨rfl, hb6⟩
    have hRes6 : Blk w6 w.heap.size 62 #[.slice none 0 0, .slice none 0 0] := hRes1.out.below hb6 hRes1.out.lt
    have hE6 := ErrIs.under hb6 hE1.out
    have hB6 : Below w.heap.size w w6 := nx hB1.out (Nat.le_refl _) hb6
    have r0 := hRes6.cell 0
    have r1 := hRes6.cell 1
    have rf0 := hRes6.frozen 0
    have rf1 := hRes6.frozen 1
    have hrl6 := hRes6.lt
    replace hRes6 := Lib.hid hRes6
    replace hE6 := Lib.hid hE6
    replace hB6 := Lib.hid hB6
    go_wp2_with fail
    have hRes7 : Blk w6 w.heap.size 62 #[.slice none 0 0, .slice none 0 0] := hRes6.out
    refine code_world (fun W => Blk W w.heap.size 62 #[.slice none 0 0, .slice none 0 0] ∧ ErrIs W sv (.iface ty u) [p] (sIdx c) ∧ Below w.heap.size w W) ?_ fun W hW => ?_
    · refine ⟨Blk.eq_cs (Blk.set_ (Blk.set_ hRes6.out 0 _) 1 _) rfl, err_setop (Blk.set_ hRes6.out 0 _) 1 (err_setop hRes6.out 0 hE6.out), (hB6.out.setCell (Nat.le_refl _) _).setCell (Nat.le_refl _) _⟩
    obtain ⟨k1, k2, k3⟩ := hW
    have z0 := k1.cell 0
    have z1 := k1.cell 1
    replace k2 := Lib.hid k2
    exact bodyPost_ret (v := .tuple #[.agg #[.slice none 0 0, .slice none 0 0], .int .i64 0, (.iface ty u)]) (by simp [results, Tryz.results75, go_sem, z0, z1]) rfl ⟨_, _, _, rfl, by rw [← hpt.out]; exact ⟨rfl, rfl, by show ErrIs _ _ _ (if (-1 : Int) < 0 then [p] else [-1, p]) _; rw [if_pos (by decide)]; exact k2.out⟩, k3⟩
  | ok n1 =>
    have hpt2 := hpt.out
    rw [hcn] at hpt2
    simp only at hpt2
    clear hpt
    have hpt := Lib.hid hpt2
    clear hpt2
    rw [hcn] at hout
    obtain ⟨rfl, hR1⟩ := hout
    have hn4 := cnt_le hcn
    have hP1 := Lib.hid (partsG_any S.out hB1 (w.heap.size + 1 + 1) (w.heap.size + 1) s n1.2 hs n1.1 0 hn4 (by decide) hR1 (.slice none 0 0) (.slice none 0 0) hOp1 (World.ownsRow_nil _ _ _ _) (by omega) (by omega))
    replace hR1 := Lib.hid hR1
    replace hRes1 := Lib.hid hRes1
    replace hOp1 := Lib.hid hOp1
    replace hB1 := Lib.hid hB1
    replace hcn := Lib.hid hcn
    go_wp2_with fail
    refine (hP1.out).mono ?_; rintro e w2 ⟨rfl, hro, hB2, hoth2⟩
    have hRes2 : Blk w2 w.heap.size 62 #[.slice none 0 0, .slice none 0 0] := hoth2 _ _ _ (by decide) (by omega) (by decide) hRes1.out
    have hs2 := hB2.size
    cases hrow : pRow (pGuard s) n1.1 0 n1.2 [] with
    | error er =>
      have hpt2 := hpt.out
      rw [hrow] at hpt2
      simp only at hpt2
      clear hpt
      have hpt := Lib.hid hpt2
      clear hpt2
      rw [hrow] at hro
      obtain ⟨q, fb, u, hR2, hF2, hE2⟩ := hro
      obtain ⟨_, c1, c2, _, _⟩ := nil_cell hR2
      have hT := Lib.hid (told_fault (T.out.below hB2) fb _ _ _ _ hF2 hE2)
      have hCe := Lib.hid (count_err (w.heap.size + 1 + 1) s q _ _ 4 3 hR2)
      replace hR2 := Lib.hid hR2
      replace hE2 := Lib.hid hE2
      replace hF2 := Lib.hid hF2
      replace hRes2 := Lib.hid hRes2
      replace hB2 := Lib.hid hB2
      replace hrow := Lib.hid hrow
      go_wp2_with fail
      refine (hCe.out).mono ?_; rintro e wx ⟨rfl, rfl⟩
      go_wp2_with fail
      refine (parts_none _ _ _ _).mono ?_; rintro e wx ⟨rfl, rfl⟩
      go_wp2_with fail
      refine (hT.out).mono ?_; rintro e w6 ⟨v6, rfl, hE6, hb6⟩
      obtain ⟨ty6, u6, rfl⟩ := hE6.iface
      have hRes6 : Blk w6 w.heap.size 62 #[.slice none 0 0, .slice none 0 0] := hRes2.out.below hb6 hRes2.out.lt
      have hB6 : Below w.heap.size w w6 := nx hB2.out (Nat.le_refl _) hb6
      have r0 := hRes6.cell 0
      have r1 := hRes6.cell 1
      have rf0 := hRes6.frozen 0
      have rf1 := hRes6.frozen 1
      have hrl6 := hRes6.lt
      replace hRes6 := Lib.hid hRes6
      replace hE6 := Lib.hid hE6
      replace hB6 := Lib.hid hB6
      go_wp2_with fail
      have hRes7 : Blk w6 w.heap.size 62 #[.slice none 0 0, .slice none 0 0] := hRes6.out
      refine code_world (fun W => Blk W w.heap.size 62 #[.slice none 0 0, .slice none 0 0] ∧ ErrIs W sv (.iface ty6 u6) [(er.1 : Int), er.2.2] (sIdx er.2.1) ∧ Below w.heap.size w W) ?_ fun W hW => ?_
      · refine ⟨Blk.eq_cs (Blk.set_ (Blk.set_ hRes6.out 0 _) 1 _) rfl, err_setop (Blk.set_ hRes6.out 0 _) 1 (err_setop hRes6.out 0 hE6.out), (hB6.out.setCell (Nat.le_refl _) _).setCell (Nat.le_refl _) _⟩
      obtain ⟨k1, k2, k3⟩ := hW
      have z0 := k1.cell 0
      have z1 := k1.cell 1
      replace k2 := Lib.hid k2
      exact bodyPost_ret (v := .tuple #[.agg #[.slice none 0 0, .slice none 0 0], .int .i64 0, (.iface ty6 u6)]) (by simp [results, Tryz.results75, go_sem, z0, z1]) rfl ⟨_, _, _, rfl, by rw [← hpt.out]; exact ⟨rfl, rfl, by show ErrIs _ _ _ (if (er.1 : Int) < 0 then [er.2.2] else [(er.1 : Int), er.2.2]) _; rw [if_neg (by omega)]; exact k2.out⟩, k3⟩
    | ok g =>
      have hpt2 := hpt.out
      rw [hrow] at hpt2
      simp only at hpt2
      clear hpt
      have hpt := Lib.hid hpt2
      clear hpt2
      rw [hrow] at hro
      obtain ⟨hR2, gv, hOp2, hown2⟩ := hro
      obtain ⟨_, c1, c2, _, _⟩ := nil_cell hR2
      have hC2 := Lib.hid (count_any (S.out.below hB2) (w.heap.size + 1 + 1) s g.2 4 3 hs (by decide) (by decide) hR2)
      replace hR2 := Lib.hid hR2
      replace hRes2 := Lib.hid hRes2
      replace hB2 := Lib.hid hB2
      replace hOp2 := Lib.hid hOp2
      replace hown2 := Lib.hid hown2
      go_wp2_with fail
      refine (hC2.out).mono ?_; rintro e w3 ⟨m, rfl, hout, hch3⟩
      have hB3 : Below w.heap.size w w3 := hB2.out.trans (hch3.below (fun j hj => by omega) hs2)
      have hRes3 : Blk w3 w.heap.size 62 #[.slice none 0 0, .slice none 0 0] := Blk.keep hRes2.out (hch3.block _ hRes2.out.lt (by omega))
      have hOp3 : Blk w3 (w.heap.size + 1) 62 #[gv, .slice none 0 0] := Blk.keep hOp2.out (hch3.block _ hOp2.out.lt (by omega))
      have hown3 : w3.ownsRow w.heap.size 94 3 gv g.1.length (g.1.flatMap gCells) := ownKeep hown2.out fun b hb => hch3.block b (World.ownsRow.lt hown2.out b hb).2 fun e' => by
        subst e'
        exact own_blk_ne hown2.out (show Blk w2 _ 163 _ from hR2.out) (by decide) hb
      have hs3 := hB3.size
      clear c1 c2
      cases hcm : cnt s g.2 4 3 with
      | error c =>
        have hpt2 := hpt.out
        rw [hcm] at hpt2
        simp only at hpt2
        clear hpt
        have hpt := Lib.hid hpt2
        clear hpt2
        rw [hcm] at hout
        obtain ⟨rfl, q, v, hR3, hE3⟩ := hout
        obtain ⟨ty, u, rfl⟩ := hE3.iface
        obtain ⟨_, c1, c2, _, _⟩ := nil_cell hR3
        have hT := Lib.hid (told_at (T.out.below hB3) _ _ _ hE3)
        replace hR3 := Lib.hid hR3
        replace hE3 := Lib.hid hE3
        replace hRes3 := Lib.hid hRes3
        replace hOp3 := Lib.hid hOp3
        replace hown3 := Lib.hid hown3
        replace hB3 := Lib.hid hB3
        replace hcm := Lib.hid hcm
        replace hrow := Lib.hid hrow
        go_wp2_with fail
        refine (parts_none _ _ _ _).mono ?_; rintro e wx ⟨rfl, rfl⟩
        go_wp2_with fail
        refine (hT.out).mono ?_; rintro e w6 ⟨rfl, hb6⟩
        have hRes6 : Blk w6 w.heap.size 62 #[.slice none 0 0, .slice none 0 0] := hRes3.out.below hb6 hRes3.out.lt
        have hE6 := ErrIs.under hb6 hE3.out
        have hB6 : Below w.heap.size w w6 := nx hB3.out (Nat.le_refl _) hb6
        have r0 := hRes6.cell 0
        have r1 := hRes6.cell 1
        have rf0 := hRes6.frozen 0
        have rf1 := hRes6.frozen 1
        have hrl6 := hRes6.lt
        replace hRes6 := Lib.hid hRes6
        replace hE6 := Lib.hid hE6
        replace hB6 := Lib.hid hB6
        go_wp2_with fail
        have hRes7 : Blk w6 w.heap.size 62 #[.slice none 0 0, .slice none 0 0] := hRes6.out
        refine code_world (fun W => Blk W w.heap.size 62 #[.slice none 0 0, .slice none 0 0] ∧ ErrIs W sv (.iface ty u) [g.2] (sIdx c) ∧ Below w.heap.size w W) ?_ fun W hW => ?_
        · refine ⟨Blk.eq_cs (Blk.set_ (Blk.set_ hRes6.out 0 _) 1 _) rfl, err_setop (Blk.set_ hRes6.out 0 _) 1 (err_setop hRes6.out 0 hE6.out), (hB6.out.setCell (Nat.le_refl _) _).setCell (Nat.le_refl _) _⟩
        obtain ⟨k1, k2, k3⟩ := hW
        have z0 := k1.cell 0
        have z1 := k1.cell 1
        replace k2 := Lib.hid k2
        exact bodyPost_ret (v := .tuple #[.agg #[.slice none 0 0, .slice none 0 0], .int .i64 0, (.iface ty u)]) (by simp [results, Tryz.results75, go_sem, z0, z1]) rfl ⟨_, _, _, rfl, by rw [← hpt.out]; exact ⟨rfl, rfl, by show ErrIs _ _ _ (if (-1 : Int) < 0 then [g.2] else [-1, g.2]) _; rw [if_pos (by decide)]; exact k2.out⟩, k3⟩
      | ok m1 =>
        have hpt2 := hpt.out
        rw [hcm] at hpt2
        simp only at hpt2
        clear hpt
        have hpt := Lib.hid hpt2
        clear hpt2
        rw [hcm] at hout
        obtain ⟨rfl, hR3⟩ := hout
        have hm4 := cnt_le hcm
        obtain ⟨_, c1, c2, _, f2⟩ := nil_cell hR3
        by_cases hm0 : m1.1 = 0
        · skip
          have hpt2 := hpt.out
          rw [if_pos hm0] at hpt2
          clear hpt
          have hpt := Lib.hid hpt2
          clear hpt2
          have hmb : ((m1.1 : Int) == 0) = true := beq_iff_eq.2 (by omega)
          have hmi : (m1.1 : Int) = 0 := by omega
          rw [hmi]
          have hN := Lib.hid (hN4.out _ (S.out.below hB3))
          have hA4 := Lib.hid (at_any (w := w3) g.2 _ [] (sIdx 4) (ErrIs.leaf (sv := sv) _ (sIdx_lt 4)))
          replace hR3 := Lib.hid hR3
          replace hRes3 := Lib.hid hRes3
          replace hOp3 := Lib.hid hOp3
          replace hown3 := Lib.hid hown3
          replace hB3 := Lib.hid hB3
          replace hcm := Lib.hid hcm
          replace hrow := Lib.hid hrow
          replace hm0 := Lib.hid hm0
          replace hmb := Lib.hid hmb
          replace hmi := Lib.hid hmi
          go_wp2_with fail
          refine (hN.out).mono ?_; rintro e wx ⟨rfl, rfl⟩
          go_wp2_with fail
          refine (hA4.out).mono ?_; rintro e w4 ⟨v, rfl, hE4, hb4⟩
          obtain ⟨ty, u, rfl⟩ := hE4.iface
          have hR4 : Rd w4 (w.heap.size + 1 + 1) s m1.2 .nilIface := Blk.below hR3.out hb4 hR3.out.lt
          have hB4 := nx hB3.out (Nat.le_refl _) hb4
          have hRes4 := hRes3.out.below hb4 hRes3.out.lt
          obtain ⟨_, k1, k2, _, kf⟩ := nil_cell hR4
          have hR5 : Rd (w4.setCell ⟨(w.heap.size + 1 + 1), 2, none⟩ (.iface ty u)) (w.heap.size + 1 + 1) s m1.2 (.iface ty u) := rd_err hR4 _
          have hE5 : ErrIs (w4.setCell ⟨(w.heap.size + 1 + 1), 2, none⟩ (.iface ty u)) sv (.iface ty u) [g.2] (sIdx 4) := err_set hR4 2 _ hE4
          have hB5 : Below w.heap.size w (w4.setCell ⟨(w.heap.size + 1 + 1), 2, none⟩ (.iface ty u)) := hB4.setCell (by simp only; omega) _
          have hRes5 : Blk (w4.setCell ⟨(w.heap.size + 1 + 1), 2, none⟩ (.iface ty u)) w.heap.size 62 #[.slice none 0 0, .slice none 0 0] := Blk.far hRes4 (by simp only; omega) _
          have hT := Lib.hid (told_at (T.out.below hB5) _ _ _ hE5)
          clear c1 c2 f2
          replace hR4 := Lib.hid hR4
          replace hR5 := Lib.hid hR5
          replace hE4 := Lib.hid hE4
          replace hE5 := Lib.hid hE5
          replace hRes4 := Lib.hid hRes4
          replace hRes5 := Lib.hid hRes5
          replace hB4 := Lib.hid hB4
          replace hB5 := Lib.hid hB5
          go_wp2_with fail
          refine (parts_none _ _ _ _).mono ?_; rintro e wx ⟨rfl, rfl⟩
          go_wp2_with fail
          refine (hT.out).mono ?_; rintro e w6 ⟨rfl, hb6⟩
          have hRes6 : Blk w6 w.heap.size 62 #[.slice none 0 0, .slice none 0 0] := hRes5.out.below hb6 hRes5.out.lt
          have hE6 := ErrIs.under hb6 hE5.out
          have hB6 : Below w.heap.size w w6 := nx hB5.out (Nat.le_refl _) hb6
          have r0 := hRes6.cell 0
          have r1 := hRes6.cell 1
          have rf0 := hRes6.frozen 0
          have rf1 := hRes6.frozen 1
          have hrl6 := hRes6.lt
          replace hRes6 := Lib.hid hRes6
          replace hE6 := Lib.hid hE6
          replace hB6 := Lib.hid hB6
          go_wp2_with fail
          have hRes7 : Blk w6 w.heap.size 62 #[.slice none 0 0, .slice none 0 0] := hRes6.out
          refine code_world (fun W => Blk W w.heap.size 62 #[.slice none 0 0, .slice none 0 0] ∧ ErrIs W sv (.iface ty u) [g.2] (sIdx 4) ∧ Below w.heap.size w W) ?_ fun W hW => ?_
          · refine ⟨Blk.eq_cs (Blk.set_ (Blk.set_ hRes6.out 0 _) 1 _) rfl, err_setop (Blk.set_ hRes6.out 0 _) 1 (err_setop hRes6.out 0 hE6.out), (hB6.out.setCell (Nat.le_refl _) _).setCell (Nat.le_refl _) _⟩
          obtain ⟨k1, k2, k3⟩ := hW
          have z0 := k1.cell 0
          have z1 := k1.cell 1
          replace k2 := Lib.hid k2
          exact bodyPost_ret (v := .tuple #[.agg #[.slice none 0 0, .slice none 0 0], .int .i64 0, (.iface ty u)]) (by simp [results, Tryz.results75, go_sem, z0, z1]) rfl ⟨_, _, _, rfl, by rw [← hpt.out]; exact ⟨rfl, rfl, by show ErrIs _ _ _ (if (-1 : Int) < 0 then [g.2] else [-1, g.2]) _; rw [if_pos (by decide)]; exact k2.out⟩, k3⟩
        · skip
          have hpt2 := hpt.out
          rw [if_neg hm0] at hpt2
          clear hpt
          have hpt := Lib.hid hpt2
          clear hpt2
          have hmb : ((m1.1 : Int) == 0) = false := beq_eq_false_iff_ne.2 (by omega)
          have hP3 := Lib.hid (partsS_any S.out hB3 (w.heap.size + 1 + 1) (w.heap.size + 1) s m1.2 hs m1.1 n1.1 hm4 hn4 hR3 (.slice none 0 0) gv hOp3 (World.ownsRow_nil _ _ _ _) (by omega) (by omega))
          replace hR3 := Lib.hid hR3
          replace hRes3 := Lib.hid hRes3
          replace hOp3 := Lib.hid hOp3
          replace hown3 := Lib.hid hown3
          replace hB3 := Lib.hid hB3
          replace hcm := Lib.hid hcm
          replace hm0 := Lib.hid hm0
          go_wp2_with fail
          refine (hP3.out).mono ?_; rintro e w4 ⟨rfl, hro, hB4, hoth4⟩
          have hRes4 : Blk w4 w.heap.size 62 #[.slice none 0 0, .slice none 0 0] := hoth4 _ _ _ (by decide) (by omega) (by decide) hRes3.out
          have hs4 := hB4.size
          clear c1 c2 f2
          cases hrow2 : pRow (pStep s) m1.1 n1.1 m1.2 [] with
          | error er =>
            have hpt2 := hpt.out
            rw [hrow2] at hpt2
            simp only at hpt2
            clear hpt
            have hpt := Lib.hid hpt2
            clear hpt2
            rw [hrow2] at hro
            obtain ⟨q, fb, u, hR4, hF4, hE4⟩ := hro
            obtain ⟨_, c1, c2, _, _⟩ := nil_cell hR4
            have hT := Lib.hid (told_fault (T.out.below hB4) fb _ _ _ _ hF4 hE4)
            replace hR4 := Lib.hid hR4
            replace hE4 := Lib.hid hE4
            replace hF4 := Lib.hid hF4
            replace hRes4 := Lib.hid hRes4
            replace hB4 := Lib.hid hB4
            replace hrow := Lib.hid hrow
            replace hrow2 := Lib.hid hrow2
            go_wp2_with fail
            refine (hT.out).mono ?_; rintro e w6 ⟨v6, rfl, hE6, hb6⟩
            obtain ⟨ty6, u6, rfl⟩ := hE6.iface
            have hRes6 : Blk w6 w.heap.size 62 #[.slice none 0 0, .slice none 0 0] := hRes4.out.below hb6 hRes4.out.lt
            have hB6 : Below w.heap.size w w6 := nx hB4.out (Nat.le_refl _) hb6
            have r0 := hRes6.cell 0
            have r1 := hRes6.cell 1
            have rf0 := hRes6.frozen 0
            have rf1 := hRes6.frozen 1
            have hrl6 := hRes6.lt
            replace hRes6 := Lib.hid hRes6
            replace hE6 := Lib.hid hE6
            replace hB6 := Lib.hid hB6
            go_wp2_with fail
            have hRes7 : Blk w6 w.heap.size 62 #[.slice none 0 0, .slice none 0 0] := hRes6.out
            refine code_world (fun W => Blk W w.heap.size 62 #[.slice none 0 0, .slice none 0 0] ∧ ErrIs W sv (.iface ty6 u6) [(er.1 : Int), er.2.2] (sIdx er.2.1) ∧ Below w.heap.size w W) ?_ fun W hW => ?_
            · refine ⟨Blk.eq_cs (Blk.set_ (Blk.set_ hRes6.out 0 _) 1 _) rfl, err_setop (Blk.set_ hRes6.out 0 _) 1 (err_setop hRes6.out 0 hE6.out), (hB6.out.setCell (Nat.le_refl _) _).setCell (Nat.le_refl _) _⟩
            obtain ⟨k1, k2, k3⟩ := hW
            have z0 := k1.cell 0
            have z1 := k1.cell 1
            replace k2 := Lib.hid k2
            exact bodyPost_ret (v := .tuple #[.agg #[.slice none 0 0, .slice none 0 0], .int .i64 0, (.iface ty6 u6)]) (by simp [results, Tryz.results75, go_sem, z0, z1]) rfl ⟨_, _, _, rfl, by rw [← hpt.out]; exact ⟨rfl, rfl, by show ErrIs _ _ _ (if (er.1 : Int) < 0 then [er.2.2] else [(er.1 : Int), er.2.2]) _; rw [if_neg (by omega)]; exact k2.out⟩, k3⟩
          | ok x =>
            have hpt2 := hpt.out
            rw [hrow2] at hpt2
            simp only at hpt2
            clear hpt
            have hpt := Lib.hid hpt2
            clear hpt2
            rw [hrow2] at hro
            obtain ⟨hR4, tv, hOp4, hown4⟩ := hro
            have hlg : g.1.length = n1.1 := by have := pRow_len _ _ _ _ _ hrow; simpa using this
            have hlx : x.1.length = m1.1 := by have := pRow_len _ _ _ _ _ hrow2; simpa using this
            have hgown : w4.ownsRow w.heap.size 94 3 gv g.1.length (g.1.flatMap gCells) := by
              refine ⟨hown3.out.1, hown3.out.2.imp id ?_⟩
              rintro ⟨b, cap, cur, rfl, e2, e3, e4⟩
              exact ⟨b, cap, cur, rfl, e2, hoth4 b _ _ (by decide) (fun e => by subst e; exact Blk.ne_ (show Blk w3 _ 94 cur from e3) hOp3.out (by decide) rfl) (by decide) e3, e4⟩
            obtain ⟨A1, c1', rfl⟩ : ∃ A c, gv = .slice A g.1.length c := by
              rcases hgown.2 with ⟨rfl, h0⟩ | ⟨b, cap, cur, rfl, _⟩
              · exact ⟨none, 0, by rw [h0]⟩
              · exact ⟨_, _, rfl⟩
            obtain ⟨A2, c2', rfl⟩ : ∃ A c, tv = .slice A x.1.length c := by
              rcases hown4.2 with ⟨rfl, h0⟩ | ⟨b, cap, cur, rfl, _⟩
              · exact ⟨none, 0, by rw [h0]⟩
              · exact ⟨_, _, rfl⟩
            have hrl4 := hRes4.lt
            obtain ⟨_, c1, c2, _, _⟩ := nil_cell hR4
            have o0 := hOp4.cell 0
            have o1 := hOp4.cell 1
            have r0 := hRes4.cell 0
            have r1 := hRes4.cell 1
            have rf0 := hRes4.frozen 0
            have rf1 := hRes4.frozen 1
            replace hR4 := Lib.hid hR4
            replace hOp4 := Lib.hid hOp4
            replace hown4 := Lib.hid hown4
            replace hgown := Lib.hid hgown
            replace hRes4 := Lib.hid hRes4
            replace hB4 := Lib.hid hB4
            replace hrow := Lib.hid hrow
            replace hrow2 := Lib.hid hrow2
            replace hlg := Lib.hid hlg
            replace hlx := Lib.hid hlx
            go_wp2_with fail
            go_region
            all_goals
              go_wp2_with fail
              refine code_world (fun W => Blk W w.heap.size 62 #[.slice A1 g.1.length c1', .slice A2 x.1.length c2'] ∧ W.ownsRow w.heap.size 94 3 (.slice A1 g.1.length c1') g.1.length (g.1.flatMap gCells) ∧ W.ownsRow w.heap.size 96 5 (.slice A2 x.1.length c2') x.1.length (x.1.flatMap sCells) ∧ Below w.heap.size w W) ?_ fun W hW => ?_
              · refine ⟨Blk.eq_cs (Blk.set_ (Blk.set_ hRes4.out 0 _) 1 _) rfl, own_far (own_far hgown.out hRes4.out (by decide) 0 _) (Blk.set_ hRes4.out 0 _) (by decide) 1 _, own_far (own_far hown4.out hRes4.out (by decide) 0 _) (Blk.set_ hRes4.out 0 _) (by decide) 1 _, ((hB4.out.setCell (Nat.le_refl _) _).setCell (Nat.le_refl _) _).drew⟩
              obtain ⟨k1, k2, k3, k4⟩ := hW
              have z0 := k1.cell 0
              have z1 := k1.cell 1
              replace k2 := Lib.hid k2
              replace k3 := Lib.hid k3
              exact bodyPost_ret (v := .tuple #[.agg #[.slice A1 g.1.length c1', .slice A2 x.1.length c2'], .int .i64 x.2, .nilIface]) (by simp [results, Tryz.results75, go_sem, z0, z1]) rfl ⟨_, _, _, rfl, by rw [← hpt.out]; exact ⟨⟨A1, _, A2, _, rfl, k2.out, k3.out⟩, rfl, rfl⟩, k4⟩
end Go.Proofs.YtpkkjoiglemlgaaGreatDoor
