import Derived.Test.YtpkkjoiglemlgaaGreatDoorOtk
/-
  opcode.Parse. No condition.
-/
namespace Go.Proofs.YtpkkjoiglemlgaaGreatDoor
set_option linter.unusedVariables false
open Go.RowKit Go.Extern.Stop Go.Stop Go.Extern Go.ChangeShapes

/-- What Parse answers. -/
def ParseOut (B : Nat) (w' : World) (sv : Nat → Addr) (r : Except (Int × Int × Int) OOp) (v err : Value) : Prop := match r with
  | .ok o => OwnOp w' B v o ∧ err = .nilIface
  | .error e => v = zeroOp ∧ ErrIs w' sv err (if e.2.2 < 0 then [e.2.1] else [e.2.2, e.2.1]) (sIdx e.1)
theorem cOk_idx {c : Int} (h : cOk c) : sIdx c ≠ 18 ∧ sCode (sIdx c) = c ∧ c ≠ 0 ∧ sIdx c < 5 := by
  rcases h with rfl | rfl | rfl | rfl | rfl <;> decide
end Go.Proofs.YtpkkjoiglemlgaaGreatDoor

/-
  The document's Take. No condition.
-/
namespace Go.Proofs.YtpkkjoiglemlgaaGreatDoor
set_option linter.unusedVariables false
open Go.RowKit Go.Extern.Stop Go.Stop Go.Extern Go.ChangeShapes

/-- What the document's Take answers. -/
def RefOut (B : Nat) (w' : World) (r : Except (Int × Int × Int) (OOp × Int)) (v nx wv : Value) : Prop := match r with
  | .ok x => OwnOp w' B v x.1 ∧ nx = .int .i64 x.2 ∧ wv = .agg #[.int .i64 0, .int .i64 0, .int .i64 (-1)]
  | .error e => v = zeroOp ∧ nx = .int .i64 0 ∧ wv = .agg #[.int .i64 e.1, .int .i64 e.2.1, .int .i64 e.2.2]
theorem own_n {w : World} {B size n m c : Nat} {te : TypeId} {A : Option Addr} {xs : List Value} (h : w.ownsRow B te size (.slice A m c) n xs) : m = n := by
  rcases h.2 with ⟨h1, h2⟩ | ⟨g, cap, cur, h1, _⟩
  · injection h1 with _ h3 _; omega
  · injection h1
theorem own_grow {W w5 : World} {B size n size' m : Nat} {te te' : TypeId} {v v' : Value} {xs ys : List Value} (h : W.ownsRow B te size v n xs) (k : W.ownsRow B te' size' v' m ys) (hne : te' ≠ te) (hg : W.grownBy w5 v'.ownBlock) : w5.ownsRow B te size v n xs := by
  refine ⟨h.1, h.2.imp id ?_⟩
  rintro ⟨g, cap, cur, rfl, e2, e3, e4⟩
  exact ⟨g, cap, cur, rfl, e2, (hg.block g (Array.getElem?_eq_some_iff.1 e3).1 fun e => own_blk_ne k (show Blk W g te cur from e3) hne e.symm).trans e3, e4⟩
theorem own_low {w : World} {B size n : Nat} {te : TypeId} {v : Value} {xs : List Value} (h : w.ownsRow B te size v n xs) {p : Addr} (hp : p.block < B) (u : Value) : (w.setCell p u).ownsRow B te size v n xs :=
  ownKeep h fun g hg => Below.heap_setCell w p u g fun e => by
    have := (World.ownsRow.lt h g hg).1
    omega
set_option maxRecDepth 100000 in
set_option maxHeartbeats 8000000 in
theorem refTakeO_any {w : World} (s : ByteArray) (p : Int) (hs : s.size ≤ 1000000) :
    Calls Tryz.prog 50 #[.string s, .int .i64 p] w fun e w' => ∃ v nx wv, e = .returned (.tuple #[v, nx, wv]) ∧ RefOut w.heap.size w' (pTake s p) v nx wv ∧ Below w.heap.size w w' := by
  have hB0 : Below w.heap.size w (((w.alloc (.cells #[.slice none 0 0, .slice none 0 0] 62)).alloc (.cells #[.int .i64 0, .int .i64 0, .int .i64 0] 88)).alloc (.cells #[.slice none 0 0, .slice none 0 0] 62)) := (((Below.refl _ _).alloc (Nat.le_refl _) _).alloc (by simp) _).alloc (by simp; omega) _
  have hRes0 : Blk (((w.alloc (.cells #[.slice none 0 0, .slice none 0 0] 62)).alloc (.cells #[.int .i64 0, .int .i64 0, .int .i64 0] 88)).alloc (.cells #[.slice none 0 0, .slice none 0 0] 62)) w.heap.size 62 #[.slice none 0 0, .slice none 0 0] := Blk.alloc (Blk.alloc (Blk.new w 62 #[.slice none 0 0, .slice none 0 0]) _) _
  have hWr0 : Blk (((w.alloc (.cells #[.slice none 0 0, .slice none 0 0] 62)).alloc (.cells #[.int .i64 0, .int .i64 0, .int .i64 0] 88)).alloc (.cells #[.slice none 0 0, .slice none 0 0] 62)) (w.heap.size + 1) 88 #[.int .i64 0, .int .i64 0, .int .i64 0] := Blk.alloc (by simpa using Blk.new (w.alloc (.cells #[.slice none 0 0, .slice none 0 0] 62)) 88 #[.int .i64 0, .int .i64 0, .int .i64 0]) _
  have hOp0 : Blk (((w.alloc (.cells #[.slice none 0 0, .slice none 0 0] 62)).alloc (.cells #[.int .i64 0, .int .i64 0, .int .i64 0] 88)).alloc (.cells #[.slice none 0 0, .slice none 0 0] 62)) (w.heap.size + 1 + 1) 62 #[.slice none 0 0, .slice none 0 0] := by simpa using Blk.new ((w.alloc (.cells #[.slice none 0 0, .slice none 0 0] 62)).alloc (.cells #[.int .i64 0, .int .i64 0, .int .i64 0] 88)) 62 #[.slice none 0 0, .slice none 0 0]
  have hsz0 : (((w.alloc (.cells #[.slice none 0 0, .slice none 0 0] 62)).alloc (.cells #[.int .i64 0, .int .i64 0, .int .i64 0] 88)).alloc (.cells #[.slice none 0 0, .slice none 0 0] 62)).heap.size = w.heap.size + 1 + 1 + 1 := by simp
  have T1 := Lib.hid (fun w => refTake_any w s p hs)
  obtain ⟨i0, hi, hz0, hz1, hz2⟩ := info_parts infoGd
  obtain ⟨j0, hj, hy0, hy1, hy2⟩ := info_parts infoSt
  have hlt := tk_lt s p
  replace hB0 := Lib.hid hB0
  replace hRes0 := Lib.hid hRes0
  replace hWr0 := Lib.hid hWr0
  replace hOp0 := Lib.hid hOp0
  replace hsz0 := Lib.hid hsz0
  generalize hpt : pTake s p = R
  unfold pTake at hpt
  by_cases h1 : (tk s p).2.2 ≠ 0
  · rw [if_pos h1] at hpt
    generalize (tk s p).1 = k at *
    generalize (tk s p).2.1 = b1 at *
    generalize (tk s p).2.2 = c1 at *
    have n1 : (c1 == 0) = false := beq_eq_false_iff_ne.2 h1
    have m1 : (c1 != 0) = true := by rw [bne, n1]; rfl
    replace hpt := Lib.hid hpt
    clear h1
    go_enter Tryz.func50, Tryz.ntmps50
    go_wp2_with fail
    refine (T1.out _).mono ?_; rintro e w1 ⟨rfl, rfl⟩
    go_wp2_with fail
    exact bodyPost_ret (v := .tuple #[.agg #[.slice none 0 0, .slice none 0 0], .int .i64 0, .agg #[.int .i64 c1, .int .i64 p, .int .i64 (-1)]]) (by simp [results, Tryz.results50, go_sem]) rfl ⟨_, _, _, rfl, by rw [← hpt.out]; exact ⟨rfl, rfl, rfl⟩, by (repeat first | exact Below.refl _ _ | assumption | refine Below.drew ?_ | refine below_drewN ?_ _ | refine Below.more_ ?_ _ | refine Below.setCell ?_ (by first | exact Nat.le_refl _ | (simp; done) | (simp; omega)) _)⟩
  · have h1' : (tk s p).2.2 = 0 := Classical.byContradiction h1
    rw [if_neg h1] at hpt
    rw [h1'] at T1
    clear h1 h1'
    generalize (tk s p).1 = k at *
    generalize (tk s p).2.1 = b1 at *
    by_cases h2 : 4 < k
    · rw [if_pos h2] at hpt
      replace hpt := Lib.hid hpt
      go_enter Tryz.func50, Tryz.ntmps50
      go_wp2_with fail
      refine (T1.out _).mono ?_; rintro e w1 ⟨rfl, rfl⟩
      go_wp2_with fail
      exact bodyPost_ret (v := .tuple #[.agg #[.slice none 0 0, .slice none 0 0], .int .i64 0, .agg #[.int .i64 3, .int .i64 p, .int .i64 (-1)]]) (by simp [results, Tryz.results50, go_sem]) rfl ⟨_, _, _, rfl, by rw [← hpt.out]; exact ⟨rfl, rfl, rfl⟩, by (repeat first | exact Below.refl _ _ | assumption | refine Below.drew ?_ | refine below_drewN ?_ _ | refine Below.more_ ?_ _ | refine Below.setCell ?_ (by first | exact Nat.le_refl _ | (simp; done) | (simp; omega)) _)⟩
    · rw [if_neg h2] at hpt
      generalize hR1 : pRow (pGuard s) k 0 b1 [] = R1 at hpt
      have hR1len : ∀ x, R1 = .ok x → x.1.length = k := fun x hx => by rw [hx] at hR1; have := pRow_len _ _ _ _ _ hR1; simpa using this
      replace hpt := Lib.hid hpt
      replace hR1 := Lib.hid hR1
      replace hR1len := Lib.hid hR1len
      have hwk : IntKind.i64.wrap (k : Int) = k := by rw [IntKind.wrap_i64]; omega
      go_enter Tryz.func50, Tryz.ntmps50
      go_wp2_with fail
      refine (T1.out _).mono ?_; rintro e w1 ⟨rfl, rfl⟩
      go_wp2_with fail
      go_loopw [9, 11] (fun nx i wr => ∃ (j : Nat) (q : Int) (gs : List OGuard), i = .int .i64 j ∧ nx = .int .i64 q ∧ j ≤ k ∧ gs.length = j ∧ Below (w.heap.size + 1 + 1) (((w.alloc (.cells #[.slice none 0 0, .slice none 0 0] 62)).alloc (.cells #[.int .i64 0, .int .i64 0, .int .i64 0] 88)).alloc (.cells #[.slice none 0 0, .slice none 0 0] 62)) wr ∧ (∃ gv, Blk wr (w.heap.size + 1 + 1) 62 #[gv, .slice none 0 0] ∧ wr.ownsRow (w.heap.size + 1 + 1) 94 3 gv gs.length (gs.flatMap gCells)) ∧ pRow (pGuard s) (k - j) j q gs = R1) (fun _ i _ => k + 1 - (intOf i).toNat)
      case atStart => exact ⟨0, b1, [], rfl, rfl, by omega, rfl, Below.refl _ _, ⟨_, hOp0.out, World.ownsRow_nil _ _ _ _⟩, hR1.out⟩
      case round =>
        obtain ⟨j, q, gs, rfl, rfl, hjk, hlen, hb, ⟨gv, hOp, hown⟩, hrow⟩ := hrel
        replace hlen := Lib.hid hlen
        have hB := hB0.out.trans (hb.mono (by omega))
        have hws := hb.size
        rw [hsz0.out] at hws
        have hRes := hRes0.out.below hb (by omega)
        have hWr := hWr0.out.below hb (by omega)
        obtain ⟨A0, n0, p0, rfl⟩ : ∃ A n0 c, gv = .slice A n0 c := by rcases hown.2 with ⟨rfl, _⟩ | ⟨g, cap, cur, rfl, _⟩ <;> exact ⟨_, _, _, rfl⟩
        by_cases hlt2 : j < k
        · obtain ⟨m, hm⟩ : ∃ m, k - j = m + 1 := ⟨k - j - 1, by omega⟩
          rw [hm, pRow] at hrow
          have hG := Lib.hid (refGuard_any s q hs)
          replace hOp := Lib.hid hOp
          replace hown := Lib.hid hown
          replace hRes := Lib.hid hRes
          replace hWr := Lib.hid hWr
          replace hB := Lib.hid hB
          replace hb := Lib.hid hb
          replace hm := Lib.hid hm
          go_wp2_with fail
          refine (hG.out _).mono ?_; rintro e w1 ⟨v, rfl, hans, hb1⟩
          have hResX := hRes.out.below hb1 hRes.out.lt
          have hWrX := hWr.out.below hb1 hWr.out.lt
          have hBX := nx hB.out (Nat.le_refl _) hb1
          have hbX := nx hb.out (by rw [hsz0.out]; omega) hb1
          cases hg : pGuard s q with
          | error er =>
            rw [hg] at hans hrow
            obtain ⟨hne, kk, key, val, nx, rfl⟩ := hans
            have n1 : (er.1 == 0) = false := beq_eq_false_iff_ne.2 hne
            have m1 : (er.1 != 0) = true := by rw [bne, n1]; rfl
            rw [← hrow] at hpt
            have hpt2 := hpt.out
            simp only at hpt2
            clear hpt hne
            have hpt := Lib.hid hpt2
            clear hpt2
            have r0 := hResX.cell 0
            have r1 := hResX.cell 1
            have rf0 := hResX.frozen 0
            have rf1 := hResX.frozen 1
            have v0 := hWrX.cell 0
            have v1 := hWrX.cell 1
            have v2 := hWrX.cell 2
            have vf0 := hWrX.frozen 0
            have vf1 := hWrX.frozen 1
            have vf2 := hWrX.frozen 2
            have hrlX := hResX.lt
            have hwlX := hWrX.lt
            replace hResX := Lib.hid hResX
            replace hWrX := Lib.hid hWrX
            replace hBX := Lib.hid hBX
            replace hbX := Lib.hid hbX
            replace hrow := Lib.hid hrow
            replace hg := Lib.hid hg
            go_wp2_with fail
            refine code_world (fun W => Blk W w.heap.size 62 #[.slice none 0 0, .slice none 0 0] ∧ Blk W (w.heap.size + 1) 88 #[.int .i64 (er.1), .int .i64 (er.2), .int .i64 ((j : Int))] ∧ Below w.heap.size w W) ?_ fun W hW => ?_
            · exact ⟨Blk.alloc (Blk.far (Blk.far (Blk.far (Blk.eq_cs (Blk.set_ (Blk.set_ hResX.out 0 _) 1 _) rfl) (show w.heap.size ≠ w.heap.size + 1 by omega) _) (show w.heap.size ≠ w.heap.size + 1 by omega) _) (show w.heap.size ≠ w.heap.size + 1 by omega) _) _, Blk.alloc (Blk.eq_cs (Blk.set_ (Blk.set_ (Blk.set_ (Blk.far (Blk.far hWrX.out (show w.heap.size + 1 ≠ w.heap.size by omega) _) (show w.heap.size + 1 ≠ w.heap.size by omega) _) 0 _) 1 _) 2 _) rfl) _, (((((hBX.out.setCell (Nat.le_refl _) _).setCell (Nat.le_refl _) _).setCell (Nat.le_succ _) _).setCell (Nat.le_succ _) _).setCell (Nat.le_succ _) _).alloc (by simp only [size_setCell]; exact hBX.out.size) _⟩
            obtain ⟨k1, k2, k3⟩ := hW
            have z0 := k1.cell 0
            have z1 := k1.cell 1
            have z2 := k2.cell 0
            have z3 := k2.cell 1
            have z4 := k2.cell 2
            exact bodyPost_ret (v := .tuple #[.agg #[.slice none 0 0, .slice none 0 0], .int .i64 0, .agg #[.int .i64 (er.1), .int .i64 (er.2), .int .i64 ((j : Int))]]) (by simp [results, Tryz.results50, go_sem, z0, z1, z2, z3, z4]) rfl ⟨_, _, _, rfl, by rw [← hpt.out]; exact ⟨rfl, rfl, rfl⟩, k3⟩
          | ok g1 =>
            rw [hg] at hans hrow
            obtain ⟨pl, rfl⟩ := hans
            simp only at hrow
            have hOp1 := hOp.out.below hb1 hOp.out.lt
            have hown1 := own_under hown.out hb1
            have hs1 := hb1.size
            have o0 := hOp1.cell 0
            have of0 := hOp1.frozen 0
            have hobl := hOp1.lt
            have hne4 : some (w.heap.size + 1 + 1) ≠ (Value.slice A0 n0 p0).ownBlock := fun e => own_blk_ne hown1 hOp1 (by decide) e.symm
            have hrd : Reads ((w1.alloc (.cells #[.int .i64 g1.1.kind, .string g1.1.key, .string g1.1.value] 94)).alloc (.cells #[.int .i64 g1.1.kind, .string g1.1.key, .string g1.1.value] 94)) (w1.heap.size + 1 + 1) 3 (some ⟨w1.heap.size + 1, 0, none⟩) 1 [.int .i64 g1.1.kind, .string g1.1.key, .string g1.1.value] := by simpa using readsN (w1.alloc (.cells #[.int .i64 g1.1.kind, .string g1.1.key, .string g1.1.value] 94)) 94 #[.int .i64 g1.1.kind, .string g1.1.key, .string g1.1.value] 3 rfl
            replace hOp1 := Lib.hid hOp1
            replace hown1 := Lib.hid hown1
            replace hne4 := Lib.hid hne4
            replace hrd := Lib.hid hrd
            replace hResX := Lib.hid hResX
            replace hWrX := Lib.hid hWrX
            replace hBX := Lib.hid hBX
            replace hbX := Lib.hid hbX
            replace hrow := Lib.hid hrow
            replace hg := Lib.hid hg
            go_wp2_with (at_builtin; go_loud (refine wpList_append_any _ rfl _ _ 59 rfl (w.heap.size + 1 + 1) 94 i0 (.agg #[.int .i64 0, .string ⟨#[]⟩, .string ⟨#[]⟩]) 3 40 Tryz.underlying59 hi hz0 hz1 hz2 rfl (by decide) _ _ _ rfl ((hown1.out.alloc _).alloc _) (w1.heap.size + 1 + 1) (some ⟨w1.heap.size + 1, 0, none⟩) 1 1 [.int .i64 g1.1.kind, .string g1.1.key, .string g1.1.value] rfl (hrd.out) (by simp [Value.oneCell']) (by have := hlen.out; unfold maxLen; omega) (by have := hlen.out; omega) (by simp; omega) ?_; intro v' w5 hown5 hgrow hloc; obtain ⟨gg, cp, rfl⟩ := ownSucc hown5; have B5 := Blk.grown (Blk.alloc (Blk.alloc hOp1.out _) _) hgrow hne4.out; have o0' := B5.cell 0; have of0' := B5.frozen 0; have hobl5 := B5.lt; replace B5 := Lib.hid B5; replace hown5 := Lib.hid hown5; replace hgrow := Lib.hid hgrow; replace hloc := Lib.hid hloc))
            go_roundw
            case rel =>
              refine ⟨j + 1, g1.2, gs ++ [g1.1], by go_num, rfl, by omega, by simp [hlen.out], ?_, ⟨_, Blk.eq_cs (Blk.set_ B5.out 0 _) rfl, ?_⟩, by rw [show k - (j + 1) = m by have := hm.out; omega]; exact hrow.out⟩
              · exact (own_below (by rw [hsz0.out]; omega) (Below.alloc (Below.alloc hbX.out (by omega) _) (by simp; omega) _) ((hown1.out.alloc _).alloc _) hgrow.out).setCell (Nat.le_refl _) _
              · have h9 := own_far hown5.out B5.out (by decide) 0 (.slice (some ⟨gg, 0, none⟩) (gs.length + 1) cp)
                simpa [gCells] using h9
            case measure => simp [intOf]; omega
        · obtain rfl : j = k := by omega
          rw [Nat.sub_self, pRow] at hrow
          have hpt2 := hpt.out
          rw [← hrow] at hpt2
          simp only at hpt2
          clear hpt
          have hpt := hpt2
          clear hpt2
          have hResX := hRes
          have hWrX := hWr
          have hBX := hB
          have T2 := Lib.hid (fun w => refTake_any w s q hs)
          have hlt3 := tk_lt s q
          replace hrow := Lib.hid hrow
          have r0 := hResX.cell 0
          have r1 := hResX.cell 1
          have rf0 := hResX.frozen 0
          have rf1 := hResX.frozen 1
          have v0 := hWrX.cell 0
          have v1 := hWrX.cell 1
          have v2 := hWrX.cell 2
          have vf0 := hWrX.frozen 0
          have vf1 := hWrX.frozen 1
          have vf2 := hWrX.frozen 2
          have hrlX := hResX.lt
          have hwlX := hWrX.lt
          replace hResX := Lib.hid hResX
          replace hWrX := Lib.hid hWrX
          replace hBX := Lib.hid hBX
          replace hRes := Lib.hid hRes
          replace hWr := Lib.hid hWr
          replace hB := Lib.hid hB
          by_cases h3 : (tk s q).2.2 ≠ 0
          · rw [if_pos h3] at hpt
            generalize (tk s q).1 = k2 at *
            generalize (tk s q).2.1 = b2 at *
            generalize (tk s q).2.2 = c2 at *
            have n1 : (c2 == 0) = false := beq_eq_false_iff_ne.2 h3
            have m1 : (c2 != 0) = true := by rw [bne, n1]; rfl
            clear h3
            replace hpt := Lib.hid hpt
            replace hOp := Lib.hid hOp
            replace hown := Lib.hid hown
            replace hb := Lib.hid hb
            go_wp2_with fail
            refine (T2.out _).mono ?_; rintro e wx ⟨rfl, rfl⟩
            go_wp2_with fail
            refine code_world (fun W => Blk W w.heap.size 62 #[.slice none 0 0, .slice none 0 0] ∧ Blk W (w.heap.size + 1) 88 #[.int .i64 (c2), .int .i64 (q), .int .i64 (-1)] ∧ Below w.heap.size w W) ?_ fun W hW => ?_
            · exact ⟨Blk.far (Blk.far (Blk.far (Blk.eq_cs (Blk.set_ (Blk.set_ hResX.out 0 _) 1 _) rfl) (show w.heap.size ≠ w.heap.size + 1 by omega) _) (show w.heap.size ≠ w.heap.size + 1 by omega) _) (show w.heap.size ≠ w.heap.size + 1 by omega) _, Blk.eq_cs (Blk.set_ (Blk.set_ (Blk.set_ (Blk.far (Blk.far hWrX.out (show w.heap.size + 1 ≠ w.heap.size by omega) _) (show w.heap.size + 1 ≠ w.heap.size by omega) _) 0 _) 1 _) 2 _) rfl, (((((hBX.out.setCell (Nat.le_refl _) _).setCell (Nat.le_refl _) _).setCell (Nat.le_succ _) _).setCell (Nat.le_succ _) _).setCell (Nat.le_succ _) _)⟩
            obtain ⟨k1, k2, k3⟩ := hW
            have z0 := k1.cell 0
            have z1 := k1.cell 1
            have z2 := k2.cell 0
            have z3 := k2.cell 1
            have z4 := k2.cell 2
            exact bodyPost_ret (v := .tuple #[.agg #[.slice none 0 0, .slice none 0 0], .int .i64 0, .agg #[.int .i64 (c2), .int .i64 (q), .int .i64 (-1)]]) (by simp [results, Tryz.results50, go_sem, z0, z1, z2, z3, z4]) rfl ⟨_, _, _, rfl, by rw [← hpt.out]; exact ⟨rfl, rfl, rfl⟩, k3⟩
          · have h3' : (tk s q).2.2 = 0 := Classical.byContradiction h3
            rw [if_neg h3] at hpt
            rw [h3'] at T2
            clear h3 h3'
            generalize (tk s q).1 = k2 at *
            generalize (tk s q).2.1 = b2 at *
            by_cases h4 : 4 < k2
            · rw [if_pos h4] at hpt
              replace hpt := Lib.hid hpt
              replace hOp := Lib.hid hOp
              replace hown := Lib.hid hown
              replace hb := Lib.hid hb
              go_wp2_with fail
              refine (T2.out _).mono ?_; rintro e wx ⟨rfl, rfl⟩
              go_wp2_with fail
              refine code_world (fun W => Blk W w.heap.size 62 #[.slice none 0 0, .slice none 0 0] ∧ Blk W (w.heap.size + 1) 88 #[.int .i64 (3), .int .i64 (q), .int .i64 (-1)] ∧ Below w.heap.size w W) ?_ fun W hW => ?_
              · exact ⟨Blk.far (Blk.far (Blk.far (Blk.eq_cs (Blk.set_ (Blk.set_ hResX.out 0 _) 1 _) rfl) (show w.heap.size ≠ w.heap.size + 1 by omega) _) (show w.heap.size ≠ w.heap.size + 1 by omega) _) (show w.heap.size ≠ w.heap.size + 1 by omega) _, Blk.eq_cs (Blk.set_ (Blk.set_ (Blk.set_ (Blk.far (Blk.far hWrX.out (show w.heap.size + 1 ≠ w.heap.size by omega) _) (show w.heap.size + 1 ≠ w.heap.size by omega) _) 0 _) 1 _) 2 _) rfl, (((((hBX.out.setCell (Nat.le_refl _) _).setCell (Nat.le_refl _) _).setCell (Nat.le_succ _) _).setCell (Nat.le_succ _) _).setCell (Nat.le_succ _) _)⟩
              obtain ⟨k1, k2, k3⟩ := hW
              have z0 := k1.cell 0
              have z1 := k1.cell 1
              have z2 := k2.cell 0
              have z3 := k2.cell 1
              have z4 := k2.cell 2
              exact bodyPost_ret (v := .tuple #[.agg #[.slice none 0 0, .slice none 0 0], .int .i64 0, .agg #[.int .i64 (3), .int .i64 (q), .int .i64 (-1)]]) (by simp [results, Tryz.results50, go_sem, z0, z1, z2, z3, z4]) rfl ⟨_, _, _, rfl, by rw [← hpt.out]; exact ⟨rfl, rfl, rfl⟩, k3⟩
            · rw [if_neg h4] at hpt
              by_cases h5 : k2 = 0
              · rw [if_pos h5] at hpt
                subst h5
                replace hpt := Lib.hid hpt
                replace hOp := Lib.hid hOp
                replace hown := Lib.hid hown
                replace hb := Lib.hid hb
                go_wp2_with fail
                refine (T2.out _).mono ?_; rintro e wx ⟨rfl, rfl⟩
                go_wp2_with fail
                refine code_world (fun W => Blk W w.heap.size 62 #[.slice none 0 0, .slice none 0 0] ∧ Blk W (w.heap.size + 1) 88 #[.int .i64 (4), .int .i64 (q), .int .i64 (-1)] ∧ Below w.heap.size w W) ?_ fun W hW => ?_
                · exact ⟨Blk.far (Blk.far (Blk.far (Blk.eq_cs (Blk.set_ (Blk.set_ hResX.out 0 _) 1 _) rfl) (show w.heap.size ≠ w.heap.size + 1 by omega) _) (show w.heap.size ≠ w.heap.size + 1 by omega) _) (show w.heap.size ≠ w.heap.size + 1 by omega) _, Blk.eq_cs (Blk.set_ (Blk.set_ (Blk.set_ (Blk.far (Blk.far hWrX.out (show w.heap.size + 1 ≠ w.heap.size by omega) _) (show w.heap.size + 1 ≠ w.heap.size by omega) _) 0 _) 1 _) 2 _) rfl, (((((hBX.out.setCell (Nat.le_refl _) _).setCell (Nat.le_refl _) _).setCell (Nat.le_succ _) _).setCell (Nat.le_succ _) _).setCell (Nat.le_succ _) _)⟩
                obtain ⟨k1, k2, k3⟩ := hW
                have z0 := k1.cell 0
                have z1 := k1.cell 1
                have z2 := k2.cell 0
                have z3 := k2.cell 1
                have z4 := k2.cell 2
                exact bodyPost_ret (v := .tuple #[.agg #[.slice none 0 0, .slice none 0 0], .int .i64 0, .agg #[.int .i64 (4), .int .i64 (q), .int .i64 (-1)]]) (by simp [results, Tryz.results50, go_sem, z0, z1, z2, z3, z4]) rfl ⟨_, _, _, rfl, by rw [← hpt.out]; exact ⟨rfl, rfl, rfl⟩, k3⟩
              · rw [if_neg h5] at hpt
                have h5b : ((k2 : Int) == 0) = false := beq_eq_false_iff_ne.2 (by omega)
                generalize hR2 : pRow (pStep s) k2 j b2 [] = R2 at hpt
                have hwk2 : IntKind.i64.wrap (k2 : Int) = k2 := by rw [IntKind.wrap_i64]; omega
                replace hpt := Lib.hid hpt
                replace hR2 := Lib.hid hR2
                clear r0 r1 rf0 rf1 v0 v1 v2 vf0 vf1 vf2 hrlX hwlX
                have hgp := Lib.hid hown
                replace hOp := Lib.hid hOp
                replace hown := Lib.hid hown
                replace hb := Lib.hid hb
                go_wp2_with fail
                refine (T2.out _).mono ?_; rintro e wx ⟨rfl, rfl⟩
                go_wp2_with fail
                go_loopw [9, 18] (fun nx i wq => ∃ (l : Nat) (q2 : Int) (ss : List OStep), i = .int .i64 l ∧ nx = .int .i64 q2 ∧ l ≤ k2 ∧ ss.length = l ∧ Below (w.heap.size + 1 + 1) (((w.alloc (.cells #[.slice none 0 0, .slice none 0 0] 62)).alloc (.cells #[.int .i64 0, .int .i64 0, .int .i64 0] 88)).alloc (.cells #[.slice none 0 0, .slice none 0 0] 62)) wq ∧ wq.ownsRow (w.heap.size + 1 + 1) 94 3 (.slice A0 n0 p0) gs.length (gs.flatMap gCells) ∧ (∃ sv, Blk wq (w.heap.size + 1 + 1) 62 #[.slice A0 n0 p0, sv] ∧ wq.ownsRow (w.heap.size + 1 + 1) 96 5 sv ss.length (ss.flatMap sCells)) ∧ pRow (pStep s) (k2 - l) (j + l) q2 ss = R2) (fun _ i _ => k2 + 1 - (intOf i).toNat)
                case atStart => exact ⟨0, b2, [], rfl, rfl, by omega, rfl, hb.out, hown.out, ⟨_, hOp.out, World.ownsRow_nil _ _ _ _⟩, hR2.out⟩
                case round =>
                  clear hResX hWrX hBX hRes hWr hB hb hOp hown hgp hws
                  obtain ⟨l, q2, ss, rfl, rfl, hlk, hsl, hb, hgo, ⟨sv, hOp, hown⟩, hrow2⟩ := hrel
                  replace hsl := Lib.hid hsl
                  have hB := hB0.out.trans (hb.mono (by omega))
                  have hws := hb.size
                  rw [hsz0.out] at hws
                  have hRes := hRes0.out.below hb (by omega)
                  have hWr := hWr0.out.below hb (by omega)
                  obtain ⟨A1, n1', p1, rfl⟩ : ∃ A n0 c, sv = .slice A n0 c := by rcases hown.2 with ⟨rfl, _⟩ | ⟨g, cap, cur, rfl, _⟩ <;> exact ⟨_, _, _, rfl⟩
                  by_cases hlt2 : l < k2
                  · obtain ⟨m, hm⟩ : ∃ m, k2 - l = m + 1 := ⟨k2 - l - 1, by omega⟩
                    rw [hm, pRow] at hrow2
                    have hG := Lib.hid (refStep_any s q2 hs)
                    have hadd : (j : Int) + l = ((j + l : Nat) : Int) := by push_cast; rfl
                    replace hadd := Lib.hid hadd
                    replace hOp := Lib.hid hOp
                    replace hown := Lib.hid hown
                    replace hgo := Lib.hid hgo
                    replace hRes := Lib.hid hRes
                    replace hWr := Lib.hid hWr
                    replace hB := Lib.hid hB
                    replace hb := Lib.hid hb
                    replace hm := Lib.hid hm
                    go_wp2_with fail
                    refine (hG.out _).mono ?_; rintro e w1 ⟨v, rfl, hans, hb1⟩
                    have hResX := hRes.out.below hb1 hRes.out.lt
                    have hWrX := hWr.out.below hb1 hWr.out.lt
                    have hBX := nx hB.out (Nat.le_refl _) hb1
                    have hbX := nx hb.out (by rw [hsz0.out]; omega) hb1
                    cases hg : pStep s q2 with
                    | error er =>
                      rw [hg] at hans hrow2
                      obtain ⟨hne, kk, key, val, old, num, nx, rfl⟩ := hans
                      have n1 : (er.1 == 0) = false := beq_eq_false_iff_ne.2 hne
                      have m1 : (er.1 != 0) = true := by rw [bne, n1]; rfl
                      have hpt2 := hpt.out
                      rw [← hrow2] at hpt2
                      simp only at hpt2
                      rw [← hadd.out] at hpt2
                      clear hpt hne
                      have hpt := Lib.hid hpt2
                      clear hpt2
                      have r0 := hResX.cell 0
                      have r1 := hResX.cell 1
                      have rf0 := hResX.frozen 0
                      have rf1 := hResX.frozen 1
                      have v0 := hWrX.cell 0
                      have v1 := hWrX.cell 1
                      have v2 := hWrX.cell 2
                      have vf0 := hWrX.frozen 0
                      have vf1 := hWrX.frozen 1
                      have vf2 := hWrX.frozen 2
                      have hrlX := hResX.lt
                      have hwlX := hWrX.lt
                      replace hResX := Lib.hid hResX
                      replace hWrX := Lib.hid hWrX
                      replace hBX := Lib.hid hBX
                      replace hbX := Lib.hid hbX
                      replace hrow2 := Lib.hid hrow2
                      replace hg := Lib.hid hg
                      go_wp2_with fail
                      refine code_world (fun W => Blk W w.heap.size 62 #[.slice none 0 0, .slice none 0 0] ∧ Blk W (w.heap.size + 1) 88 #[.int .i64 (er.1), .int .i64 (er.2), .int .i64 ((j : Int) + l)] ∧ Below w.heap.size w W) ?_ fun W hW => ?_
                      · exact ⟨Blk.alloc (Blk.far (Blk.far (Blk.far (Blk.eq_cs (Blk.set_ (Blk.set_ hResX.out 0 _) 1 _) rfl) (show w.heap.size ≠ w.heap.size + 1 by omega) _) (show w.heap.size ≠ w.heap.size + 1 by omega) _) (show w.heap.size ≠ w.heap.size + 1 by omega) _) _, Blk.alloc (Blk.eq_cs (Blk.set_ (Blk.set_ (Blk.set_ (Blk.far (Blk.far hWrX.out (show w.heap.size + 1 ≠ w.heap.size by omega) _) (show w.heap.size + 1 ≠ w.heap.size by omega) _) 0 _) 1 _) 2 _) rfl) _, (((((hBX.out.setCell (Nat.le_refl _) _).setCell (Nat.le_refl _) _).setCell (Nat.le_succ _) _).setCell (Nat.le_succ _) _).setCell (Nat.le_succ _) _).alloc (by simp only [size_setCell]; exact hBX.out.size) _⟩
                      obtain ⟨k1, k2, k3⟩ := hW
                      have z0 := k1.cell 0
                      have z1 := k1.cell 1
                      have z2 := k2.cell 0
                      have z3 := k2.cell 1
                      have z4 := k2.cell 2
                      exact bodyPost_ret (v := .tuple #[.agg #[.slice none 0 0, .slice none 0 0], .int .i64 0, .agg #[.int .i64 (er.1), .int .i64 (er.2), .int .i64 ((j : Int) + l)]]) (by simp [results, Tryz.results50, go_sem, z0, z1, z2, z3, z4]) rfl ⟨_, _, _, rfl, by rw [← hpt.out]; exact ⟨rfl, rfl, rfl⟩, k3⟩
                    | ok g1 =>
                      rw [hg] at hans hrow2
                      obtain ⟨pl, rfl⟩ := hans
                      simp only at hrow2
                      have hOp1 := hOp.out.below hb1 hOp.out.lt
                      have hown1 := own_under hown.out hb1
                      have hgo1 := own_under hgo.out hb1
                      have hs1 := hb1.size
                      have o0 := hOp1.cell 1
                      have of0 := hOp1.frozen 1
                      have hobl := hOp1.lt
                      have hne4 : some (w.heap.size + 1 + 1) ≠ (Value.slice A1 n1' p1).ownBlock := fun e => own_blk_ne hown1 hOp1 (by decide) e.symm
                      have hrd : Reads ((w1.alloc (.cells #[.int .i64 g1.1.kind, .string g1.1.key, .string g1.1.value, .string g1.1.old, .int .i64 g1.1.n] 96)).alloc (.cells #[.int .i64 g1.1.kind, .string g1.1.key, .string g1.1.value, .string g1.1.old, .int .i64 g1.1.n] 96)) (w1.heap.size + 1 + 1) 5 (some ⟨w1.heap.size + 1, 0, none⟩) 1 [.int .i64 g1.1.kind, .string g1.1.key, .string g1.1.value, .string g1.1.old, .int .i64 g1.1.n] := by simpa using readsN (w1.alloc (.cells #[.int .i64 g1.1.kind, .string g1.1.key, .string g1.1.value, .string g1.1.old, .int .i64 g1.1.n] 96)) 96 #[.int .i64 g1.1.kind, .string g1.1.key, .string g1.1.value, .string g1.1.old, .int .i64 g1.1.n] 5 rfl
                      replace hOp1 := Lib.hid hOp1
                      replace hown1 := Lib.hid hown1
                      replace hgo1 := Lib.hid hgo1
                      replace hne4 := Lib.hid hne4
                      replace hrd := Lib.hid hrd
                      replace hResX := Lib.hid hResX
                      replace hWrX := Lib.hid hWrX
                      replace hBX := Lib.hid hBX
                      replace hbX := Lib.hid hbX
                      replace hrow2 := Lib.hid hrow2
                      replace hg := Lib.hid hg
                      go_wp2_with (at_builtin; go_loud (refine wpList_append_any _ rfl _ _ 60 rfl (w.heap.size + 1 + 1) 96 j0 (.agg #[.int .i64 0, .string ⟨#[]⟩, .string ⟨#[]⟩, .string ⟨#[]⟩, .int .i64 0]) 5 64 Tryz.underlying60 hj hy0 hy1 hy2 rfl (by decide) _ _ _ rfl ((hown1.out.alloc _).alloc _) (w1.heap.size + 1 + 1) (some ⟨w1.heap.size + 1, 0, none⟩) 1 1 [.int .i64 g1.1.kind, .string g1.1.key, .string g1.1.value, .string g1.1.old, .int .i64 g1.1.n] rfl (hrd.out) (by simp [Value.oneCell']) (by have := hsl.out; unfold maxLen; omega) (by have := hsl.out; omega) (by simp; omega) ?_; intro v' w5 hown5 hgrow hloc; obtain ⟨gg, cp, rfl⟩ := ownSucc hown5; have B5 := Blk.grown (Blk.alloc (Blk.alloc hOp1.out _) _) hgrow hne4.out; have o0' := B5.cell 1; have of0' := B5.frozen 1; have hobl5 := B5.lt; replace B5 := Lib.hid B5; replace hown5 := Lib.hid hown5; replace hgrow := Lib.hid hgrow; replace hloc := Lib.hid hloc))
                      go_roundw
                      case rel =>
                        refine ⟨l + 1, g1.2, ss ++ [g1.1], by go_num, rfl, by omega, by simp [hsl.out], ?_, ?_, ⟨_, Blk.eq_cs (Blk.set_ B5.out 1 _) rfl, ?_⟩, by rw [show k2 - (l + 1) = m by have := hm.out; omega, ← Nat.add_assoc]; exact hrow2.out⟩
                        · exact (own_below (by rw [hsz0.out]; omega) (Below.alloc (Below.alloc hbX.out (by omega) _) (by simp; omega) _) ((hown1.out.alloc _).alloc _) hgrow.out).setCell (Nat.le_refl _) _
                        · exact own_far (own_grow ((hgo1.out.alloc _).alloc _) ((hown1.out.alloc _).alloc _) (by decide) hgrow.out) B5.out (by decide) 1 _
                        · have h9 := own_far hown5.out B5.out (by decide) 1 (.slice (some ⟨gg, 0, none⟩) (ss.length + 1) cp)
                          simpa [sCells] using h9
                      case measure => simp [intOf]; omega
                  · obtain rfl : l = k2 := by omega
                    rw [Nat.sub_self, pRow] at hrow2
                    have hpt2 := hpt.out
                    rw [← hrow2] at hpt2
                    simp only at hpt2
                    clear hpt
                    have hpt := Lib.hid hpt2
                    clear hpt2
                    have hResX := hRes
                    have hWrX := hWr
                    have hBX := hB
                    have o0 := hOp.cell 0
                    have o1 := hOp.cell 1
                    have r0 := hResX.cell 0
                    have r1 := hResX.cell 1
                    have rf0 := hResX.frozen 0
                    have rf1 := hResX.frozen 1
                    have v0 := hWrX.cell 0
                    have v1 := hWrX.cell 1
                    have v2 := hWrX.cell 2
                    have vf0 := hWrX.frozen 0
                    have vf1 := hWrX.frozen 1
                    have vf2 := hWrX.frozen 2
                    have hrlX := hResX.lt
                    have hwlX := hWrX.lt
                    replace hResX := Lib.hid hResX
                    replace hWrX := Lib.hid hWrX
                    replace hBX := Lib.hid hBX
                    replace hRes := Lib.hid hRes
                    replace hWr := Lib.hid hWr
                    replace hB := Lib.hid hB
                    replace hb := Lib.hid hb
                    replace hOp := Lib.hid hOp
                    replace hown := Lib.hid hown
                    replace hgo := Lib.hid hgo
                    replace hrow2 := Lib.hid hrow2
                    have e1 := own_n hgo.out
                    have e2 := own_n hown.out
                    subst e1 e2
                    go_wp2_with fail
                    refine code_world (fun W => Blk W w.heap.size 62 #[.slice A0 gs.length p0, .slice A1 ss.length p1] ∧ Blk W (w.heap.size + 1) 88 #[.int .i64 0, .int .i64 0, .int .i64 (-1)] ∧ W.ownsRow (w.heap.size + 1 + 1) 94 3 (.slice A0 gs.length p0) gs.length (gs.flatMap gCells) ∧ W.ownsRow (w.heap.size + 1 + 1) 96 5 (.slice A1 ss.length p1) ss.length (ss.flatMap sCells) ∧ Below w.heap.size w W) ?_ fun W hW => ?_
                    · exact ⟨Blk.far (Blk.far (Blk.far (Blk.eq_cs (Blk.set_ (Blk.set_ hResX.out 0 _) 1 _) rfl) (show w.heap.size ≠ w.heap.size + 1 by omega) _) (show w.heap.size ≠ w.heap.size + 1 by omega) _) (show w.heap.size ≠ w.heap.size + 1 by omega) _, Blk.eq_cs (Blk.set_ (Blk.set_ (Blk.set_ (Blk.far (Blk.far hWrX.out (show w.heap.size + 1 ≠ w.heap.size by omega) _) (show w.heap.size + 1 ≠ w.heap.size by omega) _) 0 _) 1 _) 2 _) rfl, own_low (own_low (own_low (own_low (own_low hgo.out (by simp only; omega) _) (by simp only; omega) _) (by simp only; omega) _) (by simp only; omega) _) (by simp only; omega) _, own_low (own_low (own_low (own_low (own_low hown.out (by simp only; omega) _) (by simp only; omega) _) (by simp only; omega) _) (by simp only; omega) _) (by simp only; omega) _, ((((hBX.out.setCell (Nat.le_refl _) _).setCell (Nat.le_refl _) _).setCell (Nat.le_succ _) _).setCell (Nat.le_succ _) _).setCell (Nat.le_succ _) _⟩
                    obtain ⟨k1, k2, k3, k4, k5⟩ := hW
                    have z0 := k1.cell 0
                    have z1 := k1.cell 1
                    have z2 := k2.cell 0
                    have z3 := k2.cell 1
                    have z4 := k2.cell 2
                    replace k3 := Lib.hid k3
                    replace k4 := Lib.hid k4
                    exact bodyPost_ret (v := .tuple #[.agg #[.slice A0 gs.length p0, .slice A1 ss.length p1], .int .i64 q2, .agg #[.int .i64 0, .int .i64 0, .int .i64 (-1)]]) (by simp [results, Tryz.results50, go_sem, z0, z1, z2, z3, z4]) rfl ⟨_, _, _, rfl, by rw [← hpt.out]; exact ⟨OwnOp.mono (B := w.heap.size + 1 + 1) ⟨A0, p0, A1, p1, rfl, k3.out, k4.out⟩ (by omega), rfl, rfl⟩, k5⟩
end Go.Proofs.YtpkkjoiglemlgaaGreatDoor

/-
  Take, read through one pair of eyes; what a call made, or nothing (layer 9). No condition.
-/
namespace Go.Proofs.YtpkkjoiglemlgaaGreatDoor
set_option linter.unusedVariables false
open Go.RowKit Go.Extern.Stop Go.Stop Go.Extern Go.ChangeShapes

def rOp : Except (Int × Int × Int) OOp → OOp
  | .ok o => o
  | .error _ => ⟨[], []⟩
def rC {α : Type} : Except (Int × Int × Int) α → Int
  | .ok _ => 0
  | .error e => e.1
def rA {α : Type} : Except (Int × Int × Int) α → Int
  | .ok _ => 0
  | .error e => e.2.1
def rP {α : Type} : Except (Int × Int × Int) α → Int
  | .ok _ => -1
  | .error e => e.2.2
def rFst : Except (Int × Int × Int) (OOp × Int) → Except (Int × Int × Int) OOp
  | .ok x => .ok x.1
  | .error e => .error e
def rN : Except (Int × Int × Int) (OOp × Int) → Int
  | .ok x => x.2
  | .error _ => 0
def WrongIs (w : World) (sv : Nat → Addr) (v : Value) (c a p : Int) : Prop := (c = 0 ∧ v = .nilIface) ∨ (c ≠ 0 ∧ ErrIs w sv v (if p < 0 then [a] else [p, a]) (sIdx c) ∧ sCode (sIdx c) = c)
theorem WrongIs.under {w w' : World} {sv : Nat → Addr} {v : Value} {c a p : Int} (hb : Below w.heap.size w w') (h : WrongIs w sv v c a p) : WrongIs w' sv v c a p :=
  h.imp id fun ⟨h1, h2, h3⟩ => ⟨h1, ErrIs.under hb h2, h3⟩
theorem WrongIs.far {w : World} {sv : Nat → Addr} {b : Nat} {t : TypeId} {cs : Array Value} {v : Value} {c a p : Int} (hB : Blk w b t cs) (ht : 105 ≠ t) (i : Nat) (u : Value) (h : WrongIs w sv v c a p) : WrongIs (w.setCell ⟨b, i, none⟩ u) sv v c a p :=
  h.imp id fun ⟨h1, h2, h3⟩ => ⟨h1, err_stays (fun b' cs' hb => Blk.far hb (show b' ≠ b from Blk.ne_ hb hB ht) _) h2, h3⟩
theorem OpIs.form {w : World} {v : Value} {o : OOp} (h : OpIs w v o) : ∃ A n c A' n' c', v = .agg #[.slice A n c, .slice A' n' c'] := by
  obtain ⟨A, n, c, A', n', c', e, _⟩ := h
  exact ⟨A, n, c, A', n', c', e⟩
theorem OpIs.zero (w : World) : OpIs w zeroOp ⟨[], []⟩ := ⟨none, 0, 0, none, 0, 0, rfl, rfl, rfl, Reads.none_, Reads.none_⟩
/-- An operation that the call made, or none. -/
def OpU (w : World) (B : Nat) (v : Value) (o : OOp) : Prop := OwnOp w B v o ∨ (v = zeroOp ∧ o = ⟨[], []⟩)
theorem OpU.is {w : World} {B : Nat} {v : Value} {o : OOp} (h : OpU w B v o) : OpIs w v o := by
  rcases h with h | ⟨rfl, rfl⟩
  · exact h.is
  · exact OpIs.zero w
theorem OpU.below {w w' : World} {B : Nat} {v : Value} {o : OOp} (h : OpU w B v o) (hb : Below w.heap.size w w') : OpU w' B v o := h.imp (fun h => h.below hb) id
theorem OpU.mono {w : World} {B B' : Nat} {v : Value} {o : OOp} (h : OpU w B v o) (hB : B' ≤ B) : OpU w B' v o := h.imp (fun h => h.mono hB) id
theorem OpU.low {w : World} {B : Nat} {v : Value} {o : OOp} (h : OpU w B v o) {p : Addr} (hp : p.block < B) (u : Value) : OpU (w.setCell p u) B v o := by
  refine h.imp (fun h => ?_) id
  obtain ⟨A, c, A', c', e, h1, h2⟩ := h
  exact ⟨A, c, A', c', e, own_low h1 hp u, own_low h2 hp u⟩
theorem right_len {o : OOp} (h : oRight o = true) : o.guards.length ≤ maxLen ∧ o.steps.length ≤ maxLen := by
  simp only [oRight, Bool.and_eq_true, decide_eq_true_eq] at h
  unfold maxLen
  omega
theorem rOp_len_take (s : ByteArray) (p : Int) : (rOp (rFst (pTake s p))).guards.length ≤ maxLen ∧ (rOp (rFst (pTake s p))).steps.length ≤ maxLen := by
  cases h : pTake s p with
  | ok x =>
    obtain ⟨a, _, _, _, h4, _⟩ := seg_pTake (o := x.1) (nx := x.2) h
    exact right_len h4
  | error e => exact ⟨Nat.zero_le _, Nat.zero_le _⟩
theorem opTake_uni {w : World} {sv : Nat → Addr} (S : Sent w sv) (T : ETy w) (s : ByteArray) (p : Int) (hs : s.size ≤ 1000000) :
    Calls Tryz.prog 75 #[.string s, .int .i64 p] w fun e w' => ∃ A n c A' n' c' err, e = .returned (.tuple #[.agg #[.slice A n c, .slice A' n' c'], .int .i64 (rN (pTake s p)), err]) ∧ OpU w' w.heap.size (.agg #[.slice A n c, .slice A' n' c']) (rOp (rFst (pTake s p))) ∧ WrongIs w' sv err (rC (pTake s p)) (rA (pTake s p)) (rP (pTake s p)) ∧ Below w.heap.size w w' := by
  refine (opTake_any S T s p hs).mono ?_
  rintro e w' ⟨v, nx, err, rfl, hp, hb⟩
  cases h : pTake s p with
  | ok o =>
    rw [h] at hp
    obtain ⟨ho, rfl, rfl⟩ := hp
    have hI := ho.is
    obtain ⟨A, n, c, A', n', c', rfl⟩ := hI.form
    exact ⟨A, n, c, A', n', c', _, rfl, .inl ho, .inl ⟨rfl, rfl⟩, hb⟩
  | error er =>
    rw [h] at hp
    obtain ⟨rfl, rfl, hE⟩ := hp
    obtain ⟨_, k2, k3, _⟩ := cOk_idx (pTake_cOk h).1
    exact ⟨none, 0, 0, none, 0, 0, err, rfl, .inr ⟨rfl, rfl⟩, .inr ⟨k3, hE, k2⟩, hb⟩
theorem refTakeO_uni {w : World} (s : ByteArray) (p : Int) (hs : s.size ≤ 1000000) :
    Calls Tryz.prog 50 #[.string s, .int .i64 p] w fun e w' => ∃ A n c A' n' c', e = .returned (.tuple #[.agg #[.slice A n c, .slice A' n' c'], .int .i64 (rN (pTake s p)), .agg #[.int .i64 (rC (pTake s p)), .int .i64 (rA (pTake s p)), .int .i64 (rP (pTake s p))]]) ∧ OpU w' w.heap.size (.agg #[.slice A n c, .slice A' n' c']) (rOp (rFst (pTake s p))) ∧ Below w.heap.size w w' := by
  refine (refTakeO_any s p hs).mono ?_
  rintro e w' ⟨v, nx, wv, rfl, hp, hb⟩
  cases h : pTake s p with
  | ok o =>
    rw [h] at hp
    obtain ⟨ho, rfl, rfl⟩ := hp
    have hI := ho.is
    obtain ⟨A, n, c, A', n', c', rfl⟩ := hI.form
    exact ⟨A, n, c, A', n', c', rfl, .inl ho, hb⟩
  | error er =>
    rw [h] at hp
    obtain ⟨rfl, rfl, rfl⟩ := hp
    exact ⟨none, 0, 0, none, 0, 0, rfl, .inr ⟨rfl, rfl⟩, hb⟩
end Go.Proofs.YtpkkjoiglemlgaaGreatDoor
