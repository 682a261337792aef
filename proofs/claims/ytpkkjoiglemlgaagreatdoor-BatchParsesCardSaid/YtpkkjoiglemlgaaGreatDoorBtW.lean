import Derived.Test.YtpkkjoiglemlgaaGreatDoorBtQ
import Derived.Test.YtpkkjoiglemlgaaGreatDoorOpX
import Derived.Test.YtpkkjoiglemlgaaGreatDoorIdL
/-
  Rows of entries compared by the document; the law's Wrong (layer 13).
-/
namespace Go.Proofs.YtpkkjoiglemlgaaGreatDoor
set_option linter.unusedVariables false
open Go.ChangeShapes Go.WideShapes Go.ChangeAt Go.RowKit Go.Extern.Stop Go.Stop Go.Extern

/-- An operation as a value, its parts not too many. -/
def OpL (w : World) (v : Value) (o : OOp) : Prop := OpIs w v o ∧ o.guards.length ≤ maxLen ∧ o.steps.length ≤ maxLen
theorem OpL.below {w w' : World} {v : Value} {o : OOp} (h : OpL w v o) (hb : Below w.heap.size w w') : OpL w' v o := ⟨h.1.below hb, h.2⟩
/-- A row of entries that lies somewhere. -/
def ERow (w : World) (v : Value) (l : List Ent) : Prop := ∃ A cap its, v = .slice A l.length cap ∧ its.map (·.1) = l ∧ Reads w w.heap.size 4 A l.length (List.flatMap mk4 its) ∧ ∀ it ∈ its, OpL w (.agg #[it.2.1, it.2.2]) it.1.op
theorem ERow.below {w w' : World} {v : Value} {l : List Ent} (h : ERow w v l) (hb : Below w.heap.size w w') : ERow w' v l := by
  obtain ⟨A, cap, its, e, h1, h2, h3⟩ := h
  exact ⟨A, cap, its, e, h1, (h2.below hb).more hb.size, fun it hi => (h3 it hi).below hb⟩
theorem own_max {w : World} {B size n : Nat} {te : TypeId} {v : Value} {xs : List Value} (h : w.ownsRow B te size v n xs) : n ≤ maxLen := by
  rcases h.2 with ⟨_, h0⟩ | ⟨g, cap, cur, _, _, _, h1, h2, _⟩
  · rw [h0]; exact Nat.zero_le _
  · exact Nat.le_trans h1 h2
theorem OwnOp.l {w : World} {B : Nat} {v : Value} {o : OOp} (h : OwnOp w B v o) : OpL w v o := by
  refine ⟨h.is, ?_⟩
  obtain ⟨A, c, A', c', e, h1, h2⟩ := h
  exact ⟨own_max h1, own_max h2⟩
theorem EntRow.row {w : World} {B : Nat} {v : Value} {l : List Ent} (h : EntRow w B v l) : ERow w v l := by
  obtain ⟨its, h1, h2, h3⟩ := h
  obtain ⟨A, c, rfl⟩ := slice_ownE h2
  exact ⟨A, c, its, rfl, h1, Reads.of_own h2, fun it hi => (h3 it hi).l⟩
theorem ERow.nil (w : World) : ERow w (.slice none 0 0) [] := ⟨none, 0, [], rfl, rfl, Reads.none_, by simp⟩
noncomputable def eSame (a b : List Ent) : Bool := @decide (a = b) (Classical.propDecidable _)
theorem eSame_true {a b : List Ent} (h : a = b) : eSame a b = true := by unfold eSame; exact @decide_eq_true _ (Classical.propDecidable _) h
theorem eSame_false {a b : List Ent} (h : a ≠ b) : eSame a b = false := by unfold eSame; exact @decide_eq_false _ (Classical.propDecidable _) h
theorem its_at {its : List EItem} {l : List Ent} (h : its.map (·.1) = l) {k : Nat} {it : EItem} (hx : its[k]? = some it) : l[k]? = some it.1 := by
  rw [← h, List.getElem?_map, hx]; rfl
theorem take_same {a b : List Ent} {k : Nat} {x : Ent} (h : a.take k = b.take k) (ha : a[k]? = some x) (hb : b[k]? = some x) : a.take (k + 1) = b.take (k + 1) := by
  rw [List.take_add_one, List.take_add_one, h, ha, hb]
theorem take_diff {a b : List Ent} {k : Nat} {x y : Ent} (ha : a[k]? = some x) (hb : b[k]? = some y) (h : x ≠ y) : a ≠ b := fun e => by
  rw [e, hb] at ha
  injection ha with ha
  exact h ha.symm
set_option maxHeartbeats 4000000 in
set_option maxRecDepth 100000 in
theorem refSameE_any {w : World} {v1 v2 : Value} {l1 l2 : List Ent} (h1 : ERow w v1 l1) (h2 : ERow w v2 l2) (hn : l1.length ≤ 1000000) :
    Calls Tryz.prog 21 #[v1, v2] w fun e w' => e = .returned (.bool (eSame l1 l2)) ∧ Below w.heap.size w w' := by
  obtain ⟨A, cap, its, rfl, e1, r1, o1⟩ := h1
  obtain ⟨A2, cap2, its2, rfl, e2, r2, o2⟩ := h2
  have g1 : its.length = l1.length := by rw [← e1]; simp
  have g2 : its2.length = l2.length := by rw [← e2]; simp
  by_cases hlen : l1.length = l2.length
  · obtain ⟨n, hl1⟩ : ∃ n, l1.length = n := ⟨_, rfl⟩
    have hl2 : l2.length = n := by omega
    rw [hl1] at r1 g1 hn ⊢
    rw [hl2] at r2 g2 ⊢
    replace r1 := Lib.hid r1
    replace r2 := Lib.hid r2
    replace o1 := Lib.hid o1
    replace o2 := Lib.hid o2
    replace e1 := Lib.hid e1
    replace e2 := Lib.hid e2
    replace g1 := Lib.hid g1
    replace g2 := Lib.hid g2
    replace hl1 := Lib.hid hl1
    replace hl2 := Lib.hid hl2
    replace hlen := Lib.hid hlen
    go_enter Tryz.func21, Tryz.ntmps21
    go_wp2_with fail
    go_loopw [5] (fun i wr => ∃ k : Nat, i = .int .i64 k ∧ k ≤ n ∧ Hid (l1.take k = l2.take k) ∧ Below w.heap.size w wr) (fun i _ => n + 1 - (intOf i).toNat)
    case atStart => exact ⟨0, rfl, Nat.zero_le _, by simp [Hid], Below.refl _ _⟩
    case round =>
      obtain ⟨k, rfl, hk, hpre, hb⟩ := hrel
      by_cases hlt : k < n
      · obtain ⟨ad, it, rfl, hab, hx, _⟩ := ent_at (r1.out.below hb) g1.out hlt
        obtain ⟨ad2, it2, rfl, hab2, hx2, _⟩ := ent_at (r2.out.below hb) g2.out hlt
        have hA : ∀ W, Below w.heap.size w W → (W.cell? (ad.add (k * 4)) = some (.int .i64 it.1.id.1) ∧ W.cell? ⟨(ad.add (k * 4)).block, (ad.add (k * 4)).off + 1, none⟩ = some (.int .i64 it.1.id.2) ∧ W.cell? ⟨(ad.add (k * 4)).block, (ad.add (k * 4)).off + 2, none⟩ = some it.2.1 ∧ W.cell? ⟨(ad.add (k * 4)).block, (ad.add (k * 4)).off + 3, none⟩ = some it.2.2) := fun W hW => by
          obtain ⟨ad', it', e, _, hx', hc⟩ := ent_at (r1.out.below hW) g1.out hlt
          injection e with e
          subst e
          rw [hx] at hx'
          injection hx' with hx'
          subst hx'
          exact hc
        have hB : ∀ W, Below w.heap.size w W → (W.cell? (ad2.add (k * 4)) = some (.int .i64 it2.1.id.1) ∧ W.cell? ⟨(ad2.add (k * 4)).block, (ad2.add (k * 4)).off + 1, none⟩ = some (.int .i64 it2.1.id.2) ∧ W.cell? ⟨(ad2.add (k * 4)).block, (ad2.add (k * 4)).off + 2, none⟩ = some it2.2.1 ∧ W.cell? ⟨(ad2.add (k * 4)).block, (ad2.add (k * 4)).off + 3, none⟩ = some it2.2.2) := fun W hW => by
          obtain ⟨ad', it', e, _, hx', hc⟩ := ent_at (r2.out.below hW) g2.out hlt
          injection e with e
          subst e
          rw [hx2] at hx'
          injection hx' with hx'
          subst hx'
          exact hc
        have p1 := o1.out it (List.mem_of_getElem? hx)
        have p2 := o2.out it2 (List.mem_of_getElem? hx2)
        have y1 := its_at e1.out hx
        have y2 := its_at e2.out hx2
        obtain ⟨Ag, ng, cg, At, nt, ct, hf⟩ := p1.1.form
        obtain ⟨Bg, mg, dg, Bt, mt, dt, hf2⟩ := p2.1.form
        obtain ⟨⟨⟨i1, i2⟩, op⟩, gv, tv⟩ := it
        obtain ⟨⟨⟨j1, j2⟩, op2⟩, gv2, tv2⟩ := it2
        simp only at hA hB p1 p2 y1 y2 hf hf2
        obtain ⟨rfl, rfl⟩ := op_parts hf
        obtain ⟨rfl, rfl⟩ := op_parts hf2
        clear hf hf2
        have hS := fun W (h : Below w.heap.size w W) => sameO_any _ _ op op2 W (p1.1.below h) (p2.1.below h) p1.2.1 p1.2.2 p2.2.1 p2.2.2
        replace hx := Lib.hid hx
        replace hx2 := Lib.hid hx2
        replace y1 := Lib.hid y1
        replace y2 := Lib.hid y2
        replace hA := Lib.hid hA
        replace hB := Lib.hid hB
        replace hS := Lib.hid hS
        clear p1 p2
        by_cases hid : (i1, i2) = (j1, j2)
        · injection hid with hi1 hi2
          subst hi1 hi2
          by_cases hop : op = op2
          · subst hop
            have hpre2 := Lib.hid (take_same hpre.out y1.out y2.out)
            have hSo := oSame_self op
            rw [hSo] at hS
            go_upto_region 6 with fail
            refine wp_region_lex [(true, 0), (true, 1), (true, 2), (true, 3), (true, 4), (true, 5), (true, 6), (true, 7), (true, 8), (true, 9), (true, 10), (true, 11), (true, 12), (true, 13), (true, 14), (true, 15), (true, 16), (true, 17), (true, 18), (true, 19), (true, 20), (true, 21), (false, 22), (true, 23), (true, 24)] (fun W : World => (W.cell? (ad.add (k * 4)) = some (.int .i64 i1) ∧ W.cell? ⟨(ad.add (k * 4)).block, (ad.add (k * 4)).off + 1, none⟩ = some (.int .i64 i2) ∧ W.cell? ⟨(ad.add (k * 4)).block, (ad.add (k * 4)).off + 2, none⟩ = some (.slice Ag ng cg) ∧ W.cell? ⟨(ad.add (k * 4)).block, (ad.add (k * 4)).off + 3, none⟩ = some (.slice At nt ct)) ∧ (W.cell? (ad2.add (k * 4)) = some (.int .i64 i1) ∧ W.cell? ⟨(ad2.add (k * 4)).block, (ad2.add (k * 4)).off + 1, none⟩ = some (.int .i64 i2) ∧ W.cell? ⟨(ad2.add (k * 4)).block, (ad2.add (k * 4)).off + 2, none⟩ = some (.slice Bg mg dg) ∧ W.cell? ⟨(ad2.add (k * 4)).block, (ad2.add (k * 4)).off + 3, none⟩ = some (.slice Bt mt dt))) (by kernel_rfl) (by kernel_rfl) (fun R hR => ?_)
            have hHeld : (fun W : World => (W.cell? (ad.add (k * 4)) = some (.int .i64 i1) ∧ W.cell? ⟨(ad.add (k * 4)).block, (ad.add (k * 4)).off + 1, none⟩ = some (.int .i64 i2) ∧ W.cell? ⟨(ad.add (k * 4)).block, (ad.add (k * 4)).off + 2, none⟩ = some (.slice Ag ng cg) ∧ W.cell? ⟨(ad.add (k * 4)).block, (ad.add (k * 4)).off + 3, none⟩ = some (.slice At nt ct)) ∧ (W.cell? (ad2.add (k * 4)) = some (.int .i64 i1) ∧ W.cell? ⟨(ad2.add (k * 4)).block, (ad2.add (k * 4)).off + 1, none⟩ = some (.int .i64 i2) ∧ W.cell? ⟨(ad2.add (k * 4)).block, (ad2.add (k * 4)).off + 2, none⟩ = some (.slice Bg mg dg) ∧ W.cell? ⟨(ad2.add (k * 4)).block, (ad2.add (k * 4)).off + 3, none⟩ = some (.slice Bt mt dt))) wr.drew := ⟨hA.out _ hb.drew, hB.out _ hb.drew⟩
            repeat (first | (refine lex_take (v := ?_) rfl (by rfl) (by assumption) ?_ ?_; rotate_left 1; (focus (intro w hSw; (try dsimp only at hSw); go_simp; (try with_reducible rfl))); (try simp only [Act.put, List.setIfInBounds_toArray, List.set_cons_zero, List.set_cons_succ])) | (refine lex_pass rfl (by rfl) (by assumption) ?_; (try simp only [Act.put, List.setIfInBounds_toArray, List.set_cons_zero, List.set_cons_succ])))
            (refine lex_call rfl (by rfl) (fun K hq => ?_); go_simp)
            go_at_call 51
            refine (hS.out _ hb.drew).mono ?_; rintro e w4 ⟨rfl, hb4⟩
            have qb := Below.next_ hb.drew hb4
            clear hHeld hb4
            have hHeld : (fun W : World => (W.cell? (ad.add (k * 4)) = some (.int .i64 i1) ∧ W.cell? ⟨(ad.add (k * 4)).block, (ad.add (k * 4)).off + 1, none⟩ = some (.int .i64 i2) ∧ W.cell? ⟨(ad.add (k * 4)).block, (ad.add (k * 4)).off + 2, none⟩ = some (.slice Ag ng cg) ∧ W.cell? ⟨(ad.add (k * 4)).block, (ad.add (k * 4)).off + 3, none⟩ = some (.slice At nt ct)) ∧ (W.cell? (ad2.add (k * 4)) = some (.int .i64 i1) ∧ W.cell? ⟨(ad2.add (k * 4)).block, (ad2.add (k * 4)).off + 1, none⟩ = some (.int .i64 i2) ∧ W.cell? ⟨(ad2.add (k * 4)).block, (ad2.add (k * 4)).off + 2, none⟩ = some (.slice Bg mg dg) ∧ W.cell? ⟨(ad2.add (k * 4)).block, (ad2.add (k * 4)).off + 3, none⟩ = some (.slice Bt mt dt))) w4 := ⟨hA.out _ qb, hB.out _ qb⟩
            go_wp2_with fail
            (refine hq.out _ _ (fun W : World => (W.cell? (ad.add (k * 4)) = some (.int .i64 i1) ∧ W.cell? ⟨(ad.add (k * 4)).block, (ad.add (k * 4)).off + 1, none⟩ = some (.int .i64 i2) ∧ W.cell? ⟨(ad.add (k * 4)).block, (ad.add (k * 4)).off + 2, none⟩ = some (.slice Ag ng cg) ∧ W.cell? ⟨(ad.add (k * 4)).block, (ad.add (k * 4)).off + 3, none⟩ = some (.slice At nt ct)) ∧ (W.cell? (ad2.add (k * 4)) = some (.int .i64 i1) ∧ W.cell? ⟨(ad2.add (k * 4)).block, (ad2.add (k * 4)).off + 1, none⟩ = some (.int .i64 i2) ∧ W.cell? ⟨(ad2.add (k * 4)).block, (ad2.add (k * 4)).off + 2, none⟩ = some (.slice Bg mg dg) ∧ W.cell? ⟨(ad2.add (k * 4)).block, (ad2.add (k * 4)).off + 3, none⟩ = some (.slice Bt mt dt))) (fun _ h => h) hHeld ?_; clear hq K; (try simp only [Act.put, List.setIfInBounds_toArray, List.set_cons_zero, List.set_cons_succ]))
            repeat (first | (refine lex_take (v := ?_) rfl (by rfl) (by assumption) ?_ ?_; rotate_left 1; (focus (intro w hSw; (try dsimp only at hSw); go_simp; (try with_reducible rfl))); (try simp only [Act.put, List.setIfInBounds_toArray, List.set_cons_zero, List.set_cons_succ])) | (refine lex_pass rfl (by rfl) (by assumption) ?_; (try simp only [Act.put, List.setIfInBounds_toArray, List.set_cons_zero, List.set_cons_succ])))
            refine lex_end ?_
            refine hR.out _ _ ?_
            clear hR R hHeld
            go_wp2_with fail
            go_roundw
            case rel => exact ⟨k + 1, by go_num, by omega, hpre2, qb⟩
            case measure => simp [intOf] <;> omega
          · have hfin := Lib.hid (eSame_false (take_diff y1.out y2.out (fun e => hop (by injection e))))
            have hSo : oSame op op2 = false := by simp [oSame, hop]
            rw [hSo] at hS
            replace hop := Lib.hid hop
            go_upto_region 6 with fail
            refine wp_region_lex [(true, 0), (true, 1), (true, 2), (true, 3), (true, 4), (true, 5), (true, 6), (true, 7), (true, 8), (true, 9), (true, 10), (true, 11), (true, 12), (true, 13), (true, 14), (true, 15), (true, 16), (true, 17), (true, 18), (true, 19), (true, 20), (true, 21), (false, 22), (true, 23), (true, 24)] (fun W : World => (W.cell? (ad.add (k * 4)) = some (.int .i64 i1) ∧ W.cell? ⟨(ad.add (k * 4)).block, (ad.add (k * 4)).off + 1, none⟩ = some (.int .i64 i2) ∧ W.cell? ⟨(ad.add (k * 4)).block, (ad.add (k * 4)).off + 2, none⟩ = some (.slice Ag ng cg) ∧ W.cell? ⟨(ad.add (k * 4)).block, (ad.add (k * 4)).off + 3, none⟩ = some (.slice At nt ct)) ∧ (W.cell? (ad2.add (k * 4)) = some (.int .i64 i1) ∧ W.cell? ⟨(ad2.add (k * 4)).block, (ad2.add (k * 4)).off + 1, none⟩ = some (.int .i64 i2) ∧ W.cell? ⟨(ad2.add (k * 4)).block, (ad2.add (k * 4)).off + 2, none⟩ = some (.slice Bg mg dg) ∧ W.cell? ⟨(ad2.add (k * 4)).block, (ad2.add (k * 4)).off + 3, none⟩ = some (.slice Bt mt dt))) (by kernel_rfl) (by kernel_rfl) (fun R hR => ?_)
            have hHeld : (fun W : World => (W.cell? (ad.add (k * 4)) = some (.int .i64 i1) ∧ W.cell? ⟨(ad.add (k * 4)).block, (ad.add (k * 4)).off + 1, none⟩ = some (.int .i64 i2) ∧ W.cell? ⟨(ad.add (k * 4)).block, (ad.add (k * 4)).off + 2, none⟩ = some (.slice Ag ng cg) ∧ W.cell? ⟨(ad.add (k * 4)).block, (ad.add (k * 4)).off + 3, none⟩ = some (.slice At nt ct)) ∧ (W.cell? (ad2.add (k * 4)) = some (.int .i64 i1) ∧ W.cell? ⟨(ad2.add (k * 4)).block, (ad2.add (k * 4)).off + 1, none⟩ = some (.int .i64 i2) ∧ W.cell? ⟨(ad2.add (k * 4)).block, (ad2.add (k * 4)).off + 2, none⟩ = some (.slice Bg mg dg) ∧ W.cell? ⟨(ad2.add (k * 4)).block, (ad2.add (k * 4)).off + 3, none⟩ = some (.slice Bt mt dt))) wr.drew := ⟨hA.out _ hb.drew, hB.out _ hb.drew⟩
            repeat (first | (refine lex_take (v := ?_) rfl (by rfl) (by assumption) ?_ ?_; rotate_left 1; (focus (intro w hSw; (try dsimp only at hSw); go_simp; (try with_reducible rfl))); (try simp only [Act.put, List.setIfInBounds_toArray, List.set_cons_zero, List.set_cons_succ])) | (refine lex_pass rfl (by rfl) (by assumption) ?_; (try simp only [Act.put, List.setIfInBounds_toArray, List.set_cons_zero, List.set_cons_succ])))
            (refine lex_call rfl (by rfl) (fun K hq => ?_); go_simp)
            go_at_call 51
            refine (hS.out _ hb.drew).mono ?_; rintro e w4 ⟨rfl, hb4⟩
            have qb := Below.next_ hb.drew hb4
            clear hHeld hb4
            have hHeld : (fun W : World => (W.cell? (ad.add (k * 4)) = some (.int .i64 i1) ∧ W.cell? ⟨(ad.add (k * 4)).block, (ad.add (k * 4)).off + 1, none⟩ = some (.int .i64 i2) ∧ W.cell? ⟨(ad.add (k * 4)).block, (ad.add (k * 4)).off + 2, none⟩ = some (.slice Ag ng cg) ∧ W.cell? ⟨(ad.add (k * 4)).block, (ad.add (k * 4)).off + 3, none⟩ = some (.slice At nt ct)) ∧ (W.cell? (ad2.add (k * 4)) = some (.int .i64 i1) ∧ W.cell? ⟨(ad2.add (k * 4)).block, (ad2.add (k * 4)).off + 1, none⟩ = some (.int .i64 i2) ∧ W.cell? ⟨(ad2.add (k * 4)).block, (ad2.add (k * 4)).off + 2, none⟩ = some (.slice Bg mg dg) ∧ W.cell? ⟨(ad2.add (k * 4)).block, (ad2.add (k * 4)).off + 3, none⟩ = some (.slice Bt mt dt))) w4 := ⟨hA.out _ qb, hB.out _ qb⟩
            go_wp2_with fail
            (refine hq.out _ _ (fun W : World => (W.cell? (ad.add (k * 4)) = some (.int .i64 i1) ∧ W.cell? ⟨(ad.add (k * 4)).block, (ad.add (k * 4)).off + 1, none⟩ = some (.int .i64 i2) ∧ W.cell? ⟨(ad.add (k * 4)).block, (ad.add (k * 4)).off + 2, none⟩ = some (.slice Ag ng cg) ∧ W.cell? ⟨(ad.add (k * 4)).block, (ad.add (k * 4)).off + 3, none⟩ = some (.slice At nt ct)) ∧ (W.cell? (ad2.add (k * 4)) = some (.int .i64 i1) ∧ W.cell? ⟨(ad2.add (k * 4)).block, (ad2.add (k * 4)).off + 1, none⟩ = some (.int .i64 i2) ∧ W.cell? ⟨(ad2.add (k * 4)).block, (ad2.add (k * 4)).off + 2, none⟩ = some (.slice Bg mg dg) ∧ W.cell? ⟨(ad2.add (k * 4)).block, (ad2.add (k * 4)).off + 3, none⟩ = some (.slice Bt mt dt))) (fun _ h => h) hHeld ?_; clear hq K; (try simp only [Act.put, List.setIfInBounds_toArray, List.set_cons_zero, List.set_cons_succ]))
            repeat (first | (refine lex_take (v := ?_) rfl (by rfl) (by assumption) ?_ ?_; rotate_left 1; (focus (intro w hSw; (try dsimp only at hSw); go_simp; (try with_reducible rfl))); (try simp only [Act.put, List.setIfInBounds_toArray, List.set_cons_zero, List.set_cons_succ])) | (refine lex_pass rfl (by rfl) (by assumption) ?_; (try simp only [Act.put, List.setIfInBounds_toArray, List.set_cons_zero, List.set_cons_succ])))
            refine lex_end ?_
            refine hR.out _ _ ?_
            clear hR R hHeld
            go_wp2_with fail
            go_ret
            exact ⟨by rw [hfin.out]; rfl, qb⟩
        · have hfin := Lib.hid (eSame_false (take_diff y1.out y2.out (fun e => hid (by injection e))))
          rcases id_eq_false hid with h | ⟨h0, h⟩
          · replace hid := Lib.hid hid
            go_upto_region 6 with fail
            refine wp_region_lex [(true, 0), (true, 1), (true, 2), (true, 3), (true, 4), (true, 5), (true, 6), (true, 7), (true, 8), (true, 9), (true, 10), (true, 11), (true, 12), (true, 13), (true, 14), (true, 15), (true, 16), (true, 17), (true, 18), (true, 19), (true, 20), (true, 21), (false, 22), (true, 23), (true, 24)] (fun W : World => (W.cell? (ad.add (k * 4)) = some (.int .i64 i1) ∧ W.cell? ⟨(ad.add (k * 4)).block, (ad.add (k * 4)).off + 1, none⟩ = some (.int .i64 i2) ∧ W.cell? ⟨(ad.add (k * 4)).block, (ad.add (k * 4)).off + 2, none⟩ = some (.slice Ag ng cg) ∧ W.cell? ⟨(ad.add (k * 4)).block, (ad.add (k * 4)).off + 3, none⟩ = some (.slice At nt ct)) ∧ (W.cell? (ad2.add (k * 4)) = some (.int .i64 j1) ∧ W.cell? ⟨(ad2.add (k * 4)).block, (ad2.add (k * 4)).off + 1, none⟩ = some (.int .i64 j2) ∧ W.cell? ⟨(ad2.add (k * 4)).block, (ad2.add (k * 4)).off + 2, none⟩ = some (.slice Bg mg dg) ∧ W.cell? ⟨(ad2.add (k * 4)).block, (ad2.add (k * 4)).off + 3, none⟩ = some (.slice Bt mt dt))) (by kernel_rfl) (by kernel_rfl) (fun R hR => ?_)
            have hHeld : (fun W : World => (W.cell? (ad.add (k * 4)) = some (.int .i64 i1) ∧ W.cell? ⟨(ad.add (k * 4)).block, (ad.add (k * 4)).off + 1, none⟩ = some (.int .i64 i2) ∧ W.cell? ⟨(ad.add (k * 4)).block, (ad.add (k * 4)).off + 2, none⟩ = some (.slice Ag ng cg) ∧ W.cell? ⟨(ad.add (k * 4)).block, (ad.add (k * 4)).off + 3, none⟩ = some (.slice At nt ct)) ∧ (W.cell? (ad2.add (k * 4)) = some (.int .i64 j1) ∧ W.cell? ⟨(ad2.add (k * 4)).block, (ad2.add (k * 4)).off + 1, none⟩ = some (.int .i64 j2) ∧ W.cell? ⟨(ad2.add (k * 4)).block, (ad2.add (k * 4)).off + 2, none⟩ = some (.slice Bg mg dg) ∧ W.cell? ⟨(ad2.add (k * 4)).block, (ad2.add (k * 4)).off + 3, none⟩ = some (.slice Bt mt dt))) wr.drew := ⟨hA.out _ hb.drew, hB.out _ hb.drew⟩
            repeat (first | (refine lex_take (v := ?_) rfl (by rfl) (by assumption) ?_ ?_; rotate_left 1; (focus (intro w hSw; (try dsimp only at hSw); go_simp; (try with_reducible rfl))); (try simp only [Act.put, List.setIfInBounds_toArray, List.set_cons_zero, List.set_cons_succ])) | (refine lex_pass rfl (by rfl) (by assumption) ?_; (try simp only [Act.put, List.setIfInBounds_toArray, List.set_cons_zero, List.set_cons_succ])))
            refine lex_end ?_
            refine hR.out _ _ ?_
            clear hR R hHeld
            go_wp2_with fail
            go_ret
            exact ⟨by rw [hfin.out]; rfl, hb.drew⟩
          · replace hid := Lib.hid hid
            subst h0
            go_upto_region 6 with fail
            refine wp_region_lex [(true, 0), (true, 1), (true, 2), (true, 3), (true, 4), (true, 5), (true, 6), (true, 7), (true, 8), (true, 9), (true, 10), (true, 11), (true, 12), (true, 13), (true, 14), (true, 15), (true, 16), (true, 17), (true, 18), (true, 19), (true, 20), (true, 21), (false, 22), (true, 23), (true, 24)] (fun W : World => (W.cell? (ad.add (k * 4)) = some (.int .i64 i1) ∧ W.cell? ⟨(ad.add (k * 4)).block, (ad.add (k * 4)).off + 1, none⟩ = some (.int .i64 i2) ∧ W.cell? ⟨(ad.add (k * 4)).block, (ad.add (k * 4)).off + 2, none⟩ = some (.slice Ag ng cg) ∧ W.cell? ⟨(ad.add (k * 4)).block, (ad.add (k * 4)).off + 3, none⟩ = some (.slice At nt ct)) ∧ (W.cell? (ad2.add (k * 4)) = some (.int .i64 i1) ∧ W.cell? ⟨(ad2.add (k * 4)).block, (ad2.add (k * 4)).off + 1, none⟩ = some (.int .i64 j2) ∧ W.cell? ⟨(ad2.add (k * 4)).block, (ad2.add (k * 4)).off + 2, none⟩ = some (.slice Bg mg dg) ∧ W.cell? ⟨(ad2.add (k * 4)).block, (ad2.add (k * 4)).off + 3, none⟩ = some (.slice Bt mt dt))) (by kernel_rfl) (by kernel_rfl) (fun R hR => ?_)
            have hHeld : (fun W : World => (W.cell? (ad.add (k * 4)) = some (.int .i64 i1) ∧ W.cell? ⟨(ad.add (k * 4)).block, (ad.add (k * 4)).off + 1, none⟩ = some (.int .i64 i2) ∧ W.cell? ⟨(ad.add (k * 4)).block, (ad.add (k * 4)).off + 2, none⟩ = some (.slice Ag ng cg) ∧ W.cell? ⟨(ad.add (k * 4)).block, (ad.add (k * 4)).off + 3, none⟩ = some (.slice At nt ct)) ∧ (W.cell? (ad2.add (k * 4)) = some (.int .i64 i1) ∧ W.cell? ⟨(ad2.add (k * 4)).block, (ad2.add (k * 4)).off + 1, none⟩ = some (.int .i64 j2) ∧ W.cell? ⟨(ad2.add (k * 4)).block, (ad2.add (k * 4)).off + 2, none⟩ = some (.slice Bg mg dg) ∧ W.cell? ⟨(ad2.add (k * 4)).block, (ad2.add (k * 4)).off + 3, none⟩ = some (.slice Bt mt dt))) wr.drew := ⟨hA.out _ hb.drew, hB.out _ hb.drew⟩
            repeat (first | (refine lex_take (v := ?_) rfl (by rfl) (by assumption) ?_ ?_; rotate_left 1; (focus (intro w hSw; (try dsimp only at hSw); go_simp; (try with_reducible rfl))); (try simp only [Act.put, List.setIfInBounds_toArray, List.set_cons_zero, List.set_cons_succ])) | (refine lex_pass rfl (by rfl) (by assumption) ?_; (try simp only [Act.put, List.setIfInBounds_toArray, List.set_cons_zero, List.set_cons_succ])))
            refine lex_end ?_
            refine hR.out _ _ ?_
            clear hR R hHeld
            go_wp2_with fail
            go_ret
            exact ⟨by rw [hfin.out]; rfl, hb.drew⟩
      · obtain rfl : k = n := by omega
        have hfin := Lib.hid (eSame_true (show l1 = l2 by
          have h := hpre.out
          rwa [List.take_of_length_le (by rw [hl1.out]; exact Nat.le_refl _), List.take_of_length_le (by rw [hl2.out]; exact Nat.le_refl _)] at h))
        go_wp2_with fail
        go_ret
        exact ⟨by rw [hfin.out]; rfl, hb⟩
  · have hfin := Lib.hid (eSame_false (a := l1) (b := l2) (fun e => hlen (by rw [e])))
    have hne : ((l1.length : Int) == (l2.length : Int)) = false := beq_eq_false_iff_ne.2 (by omega)
    clear r1 r2 o1 o2
    go_enter Tryz.func21, Tryz.ntmps21
    go_wp2_with fail
    go_ret
    exact ⟨by rw [hfin.out]; rfl, Below.refl _ _⟩
end Go.Proofs.YtpkkjoiglemlgaaGreatDoor

/-
  The law's Wrong, and its awake (layer 13). Where the sentinels and errors.errorType lie.
-/
namespace Go.Proofs.YtpkkjoiglemlgaaGreatDoor
set_option linter.unusedVariables false
open Go.ChangeShapes Go.WideShapes Go.ChangeAt Go.RowKit Go.Extern.Stop Go.Stop Go.Extern

/-- An error, and what the document says is wrong, are one. -/
def WrIs (w : World) (sv : Nat → Addr) (v : Value) (c : Int) (pv : Value) (pl : List Int) : Prop := (c = 0 ∧ v = .nilIface) ∨ (c ≠ 0 ∧ ErrIs w sv v pl (sIdx c) ∧ sCode (sIdx c) = c ∧ IntRow w pv pl ∧ pl.length ≤ 1000000)
set_option maxRecDepth 100000 in
set_option maxHeartbeats 4000000 in
theorem wrong13_any {w : World} {sv : Nat → Addr} (S : Sent w sv) (T : ETy w) (v : Value) (c : Int) (A : Option Addr) (n cp : Nat) (pl : List Int) (hv : WrIs w sv v c (.slice A n cp) pl) :
    Calls Tryz.prog 22 #[v, .agg #[.int .i64 c, .slice A n cp]] w fun e w' => e = .returned (.bool true) ∧ Below w.heap.size w w' := by
  have hW1 : Below w.heap.size w (w.alloc (.cells #[.int .i64 c, .slice A n cp] 42)) := (Below.refl _ _).alloc (Nat.le_refl _) _
  rcases hv with ⟨rfl, rfl⟩ | ⟨h0, hv, hc, hp, hpl⟩
  · clear S T
    replace hW1 := Lib.hid hW1
    go_enter Tryz.func22, Tryz.ntmps22
    go_wp2_with fail
    go_ret
    exact ⟨rfl, hW1.out⟩
  · have h0b : (c == 0) = false := beq_eq_false_iff_ne.2 h0
    have hcd := fun W (hW : Below w.heap.size w W) => code_any (w := W) (sv := sv) (S.below hW) v pl (sIdx c) (ErrIs.under hW hv)
    rw [hc] at hcd
    have hP := fun W (hW : Below w.heap.size w W) => places_any (w := W) (T.below hW) v pl (sIdx c) (ErrIs.under hW hv) hpl
    obtain ⟨ty, u, rfl⟩ := hv.iface
    obtain ⟨A', c', e, hr⟩ := hp
    injection e with e1 e2 e3
    subst e1 e2 e3
    have B1 := Blk.new w 42 #[.int .i64 c, .slice A pl.length cp]
    replace hP := Lib.hid hP
    replace hcd := Lib.hid hcd
    replace hv := Lib.hid hv
    replace hc := Lib.hid hc
    replace h0 := Lib.hid h0
    replace hr := Lib.hid hr
    replace hW1 := Lib.hid hW1
    replace B1 := Lib.hid B1
    have x0 := B1.out.cell 0
    have x1 := B1.out.cell 1
    clear S T
    go_enter Tryz.func22, Tryz.ntmps22
    go_upto_region 3 with fail
    refine wp_region_lex [(true, 0), (true, 1), (true, 2), (true, 3), (true, 5), (true, 6), (false, 4), (true, 7), (true, 8), (true, 9), (true, 10), (true, 12), (true, 13), (false, 11), (false, 14), (true, 15), (true, 16)] (fun W : World => W.cell? ⟨w.heap.size, 0, none⟩ = some (.int .i64 c) ∧ W.cell? ⟨w.heap.size, 1, none⟩ = some (.slice A pl.length cp)) (by kernel_rfl) (by kernel_rfl) (fun R hR => ?_)
    have hHeld : (fun W : World => W.cell? ⟨w.heap.size, 0, none⟩ = some (.int .i64 c) ∧ W.cell? ⟨w.heap.size, 1, none⟩ = some (.slice A pl.length cp)) (w.alloc (.cells #[.int .i64 c, .slice A pl.length cp] 42)).drew := ⟨x0, x1⟩
    have q0 := Lib.hid hW1.out.drew
    have D0 := Lib.hid B1.out.drew
    clear x0 x1
    repeat (first | (refine lex_take (v := ?_) rfl (by rfl) (by assumption) ?_ ?_; rotate_left 1; (focus (intro w hSw; (try dsimp only at hSw); go_simp; (try with_reducible rfl))); (try simp only [Act.put, List.setIfInBounds_toArray, List.set_cons_zero, List.set_cons_succ])) | (refine lex_pass rfl (by rfl) (by assumption) ?_; (try simp only [Act.put, List.setIfInBounds_toArray, List.set_cons_zero, List.set_cons_succ])))
    (refine lex_call rfl (by rfl) (fun K hq => ?_); go_simp)
    go_at_call 26
    refine (hcd.out _ q0.out).mono ?_; rintro e w4 ⟨rfl, hw4⟩
    subst hw4
    go_wp2_with fail
    (refine hq.out _ _ (fun W : World => W.cell? ⟨w.heap.size, 0, none⟩ = some (.int .i64 c) ∧ W.cell? ⟨w.heap.size, 1, none⟩ = some (.slice A pl.length cp)) (fun _ h => h) hHeld ?_; clear hq K; (try simp only [Act.put, List.setIfInBounds_toArray, List.set_cons_zero, List.set_cons_succ]))
    repeat (first | (refine lex_take (v := ?_) rfl (by rfl) (by assumption) ?_ ?_; rotate_left 1; (focus (intro w hSw; (try dsimp only at hSw); go_simp; (try with_reducible rfl))); (try simp only [Act.put, List.setIfInBounds_toArray, List.set_cons_zero, List.set_cons_succ])) | (refine lex_pass rfl (by rfl) (by assumption) ?_; (try simp only [Act.put, List.setIfInBounds_toArray, List.set_cons_zero, List.set_cons_succ])))
    (refine lex_call rfl (by rfl) (fun K hq => ?_); go_simp)
    go_at_call 27
    refine (hP.out _ q0.out).mono ?_; rintro e w5 ⟨r, rfl, hown, hb5⟩
    obtain ⟨A5, c5, rfl⟩ := slice_ownE hown
    have q5 := Below.next_ q0.out hb5
    have D5 := D0.out.below hb5 D0.out.lt
    have hI := ints_any (cap := c5) (cap2 := cp) rfl hpl (Reads.of_own hown) ((hr.out.below q5).more q5.size)
    clear hHeld hb5 hown
    have hHeld : (fun W : World => W.cell? ⟨w.heap.size, 0, none⟩ = some (.int .i64 c) ∧ W.cell? ⟨w.heap.size, 1, none⟩ = some (.slice A pl.length cp)) w5 := ⟨D5.cell 0, D5.cell 1⟩
    replace hI := Lib.hid hI
    replace q5 := Lib.hid q5
    replace D5 := Lib.hid D5
    go_wp2_with fail
    (refine hq.out _ _ (fun W : World => W.cell? ⟨w.heap.size, 0, none⟩ = some (.int .i64 c) ∧ W.cell? ⟨w.heap.size, 1, none⟩ = some (.slice A pl.length cp)) (fun _ h => h) hHeld ?_; clear hq K; (try simp only [Act.put, List.setIfInBounds_toArray, List.set_cons_zero, List.set_cons_succ]))
    repeat (first | (refine lex_take (v := ?_) rfl (by rfl) (by assumption) ?_ ?_; rotate_left 1; (focus (intro w hSw; (try dsimp only at hSw); go_simp; (try with_reducible rfl))); (try simp only [Act.put, List.setIfInBounds_toArray, List.set_cons_zero, List.set_cons_succ])) | (refine lex_pass rfl (by rfl) (by assumption) ?_; (try simp only [Act.put, List.setIfInBounds_toArray, List.set_cons_zero, List.set_cons_succ])))
    (refine lex_call rfl (by rfl) (fun K hq => ?_); go_simp)
    go_at_call 52
    refine (hI.out).mono ?_; rintro e w6 ⟨rfl, hb6⟩
    have q6 := Below.next_ q5.out hb6
    have D6 := D5.out.below hb6 D5.out.lt
    clear hHeld hb6
    have hHeld : (fun W : World => W.cell? ⟨w.heap.size, 0, none⟩ = some (.int .i64 c) ∧ W.cell? ⟨w.heap.size, 1, none⟩ = some (.slice A pl.length cp)) w6 := ⟨D6.cell 0, D6.cell 1⟩
    replace q6 := Lib.hid q6
    clear D6
    go_wp2_with fail
    (refine hq.out _ _ (fun W : World => W.cell? ⟨w.heap.size, 0, none⟩ = some (.int .i64 c) ∧ W.cell? ⟨w.heap.size, 1, none⟩ = some (.slice A pl.length cp)) (fun _ h => h) hHeld ?_; clear hq K; (try simp only [Act.put, List.setIfInBounds_toArray, List.set_cons_zero, List.set_cons_succ]))
    repeat (first | (refine lex_take (v := ?_) rfl (by rfl) (by assumption) ?_ ?_; rotate_left 1; (focus (intro w hSw; (try dsimp only at hSw); go_simp; (try with_reducible rfl))); (try simp only [Act.put, List.setIfInBounds_toArray, List.set_cons_zero, List.set_cons_succ])) | (refine lex_pass rfl (by rfl) (by assumption) ?_; (try simp only [Act.put, List.setIfInBounds_toArray, List.set_cons_zero, List.set_cons_succ])))
    refine lex_end ?_
    refine hR.out _ _ ?_
    clear hR R hHeld
    go_wp2_with fail
    go_ret
    exact ⟨rfl, q6.out⟩
set_option maxHeartbeats 1000000 in
theorem btRightNil_any (w : World) : Calls Tryz.prog 28 #[.slice none 0 0] w fun e w' => e = .returned (.bool true) ∧ Below w.heap.size w w' := by
  have hI := btIds_any (w := w) (A := none) (n := 0) (cap := 0) (its := []) rfl (by decide) Reads.none_ (by simp)
  replace hI := Lib.hid hI
  go_enter Tryz.func28, Tryz.ntmps28
  go_wp2_with fail
  go_loopw [10] (fun i wr => i = .int .i64 0 ∧ wr = w) (fun _ _ => 0)
  case atStart => exact ⟨rfl, rfl⟩
  case round =>
    obtain ⟨rfl, rfl⟩ := hrel
    go_wp2_with fail
    refine (hI.out).mono ?_; rintro e w1 ⟨B, c, rfl, hown, hb1⟩
    have hOf := setOf_any (w := w1) (A := B) (n := 0) (cap := c) (l := []) rfl (by decide) (Reads.of_own hown) (by simp)
    replace hOf := Lib.hid hOf
    replace hb1 := Lib.hid hb1
    go_wp2_with fail
    refine (hOf.out).mono ?_; rintro e w2 ⟨b, rfl, ⟨F, hS, _⟩, hb2⟩
    have hAll := setAll_any hS (by decide)
    have hb3 := Below.next_ hb1.out hb2
    replace hAll := Lib.hid hAll
    replace hb3 := Lib.hid hb3
    go_wp2_with fail
    refine (hAll.out).mono ?_; rintro e w3 ⟨A, cp, rfl, hown, hb4⟩
    have hb5 := Below.next_ hb3.out hb4
    go_wp2_with fail
    go_ret
    exact ⟨rfl, hb5⟩
set_option maxHeartbeats 1000000 in
theorem btPrintNil_any (w : World) : Calls Tryz.prog 24 #[.slice none 0 0] w fun e w' => e = .returned (.tuple #[.string ⟨#[0]⟩, .nilIface]) ∧ Below w.heap.size w w' := by
  have hR := btRightNil_any w
  have hP := fun W => put_any 0 (by decide) W
  rw [show strL (sput 0) = .string ⟨#[0]⟩ by kernel_rfl] at hP
  replace hR := Lib.hid hR
  replace hP := Lib.hid hP
  go_enter Tryz.func24, Tryz.ntmps24
  go_wp2_with fail
  refine (hR.out).mono ?_; rintro e w1 ⟨rfl, hb1⟩
  go_wp2_with fail
  refine (hP.out _).mono ?_; rintro e w2 ⟨rfl, hb2⟩
  have hb3 := Below.next_ hb1 hb2
  replace hb3 := Lib.hid hb3
  clear hb1 hb2
  go_wp2_with fail
  go_loopw [4, 19] (fun o i wr => o = .string ⟨#[0]⟩ ∧ i = .int .i64 0 ∧ wr = w2) (fun _ _ _ => 0)
  case atStart => exact ⟨rfl, rfl, rfl⟩
  case round =>
    obtain ⟨rfl, rfl, rfl⟩ := hrel
    go_wp2_with fail
    exact bodyPost_ret (results_tmp2 Tryz.results24 _ _ _) rfl ⟨rfl, hb3.out⟩
theorem bParse_zero : bParse ⟨#[0]⟩ = .ok [] := by kernel_rfl
theorem bParse_none : bParse ⟨#[]⟩ = .error (2, [0]) := by kernel_rfl
set_option maxHeartbeats 2000000 in
set_option maxRecDepth 100000 in
theorem awake13_any {w : World} {sv : Nat → Addr} (S : Sent w sv) (T : ETy w) : Calls Tryz.prog 18 #[] w fun e w' => e = .returned (.bool true) ∧ Below w.heap.size w w' := by
  have hP := btPrintNil_any w
  have hA := fun W (h : Below w.heap.size w W) => btParse_any (S.below h) (T.below h) ⟨#[0]⟩ (by decide)
  have hB := fun W (h : Below w.heap.size w W) => btParse_any (S.below h) (T.below h) ⟨#[]⟩ (by decide)
  rw [bParse_zero] at hA
  rw [bParse_none] at hB
  have hWr := fun W (h : Below w.heap.size w W) v c A n cp pl hv => wrong13_any (S.below h) (T.below h) v c A n cp pl hv
  replace hP := Lib.hid hP
  replace hA := Lib.hid hA
  replace hB := Lib.hid hB
  replace hWr := Lib.hid hWr
  clear S T
  go_enter Tryz.func18, Tryz.ntmps18
  go_wp2_with fail
  refine (hP.out).mono ?_; rintro e w1 ⟨rfl, hb1⟩
  go_wp2_with fail
  refine (hA.out _ hb1).mono ?_; rintro e w2 ⟨v, err, rfl, ⟨hrow, rfl⟩, hb2⟩
  obtain ⟨A0, c0, rfl⟩ := hrow.len
  have hb3 := Below.next_ hb1 hb2
  replace hb3 := Lib.hid hb3
  clear hrow hb1 hb2
  go_wp2_with fail
  refine (hB.out _ hb3.out).mono ?_; rintro e w4 ⟨v, err, rfl, ⟨rfl, he⟩, hb4⟩
  obtain ⟨ty, u, rfl⟩ := he.iface
  have hb5 := Below.next_ hb3.out hb4
  have hbX : Below w4.heap.size w4 (w4.alloc (.cells #[.int .i64 0] 3)) := (Below.refl _ _).alloc (Nat.le_refl _) _
  have hb6 := Below.next_ hb5 hbX
  have hW := hWr.out _ hb6 _ 2 _ _ _ _ (.inr ⟨by decide, he.under hbX, by decide, intRow_new w4 [0], by decide⟩)
  replace hW := Lib.hid hW
  replace hb6 := Lib.hid hb6
  clear he hb4 hb5 hbX
  go_wp2_with fail
  refine (hW.out).mono ?_; rintro e w5 ⟨rfl, hb7⟩
  have hb8 := Below.next_ hb6.out hb7
  replace hb8 := Lib.hid hb8
  clear hb7
  go_wp2_with fail
  refine (btRightNil_any _).mono ?_; rintro e w9 ⟨rfl, hb9⟩
  have hb10 := Below.next_ hb8.out hb9
  go_wp2_with fail
  go_ret
  exact ⟨rfl, hb10⟩
end Go.Proofs.YtpkkjoiglemlgaaGreatDoor
