/-
  opcode's reader: step. No condition.
-/
import Derived.Test.YtpmnppjiipbonaaDoorRdg
namespace Go.Proofs.YtpmnppjiipbonaaDoor
set_option linter.unusedVariables false
open Go.RowKit Go.Extern.Stop Go.Stop Go.Extern Go.ChangeShapes

/-- What step has read. -/
def sRes (s : ByteArray) (p : Int) (k : Nat) : Except (Int × Int) Int := if k = 1 then thenT s 32 (thenT s 16 (ofKind s p 4)) else if k = 3 then thenI s (thenT s 16 (ofKind s p 4)) else if k = 4 then thenT s 32 (thenT s 32 (thenT s 16 (ofKind s p 4))) else thenT s 16 (ofKind s p 4)
structure SVals (s : ByteArray) (p : Int) (k : Nat) (x y z : ByteArray) (m : Int) : Prop where
  kind : ∀ u, knd s p 4 = .ok u → k = u.1
  kerr : ∀ c, knd s p 4 = .error c → k = 0
  key : ∀ q, ofKind s p 4 = .ok q → (tkt s q 16).2.2 = 0 → x = (tkt s q 16).1
  put : k = 1 → ∀ q, thenT s 16 (ofKind s p 4) = .ok q → (tkt s q 32).2.2 = 0 → y = (tkt s q 32).1
  add : k = 3 → ∀ q, thenT s 16 (ofKind s p 4) = .ok q → (tki s q).2.2 = 0 → m = (tki s q).1
  old : k = 4 → ∀ q, thenT s 16 (ofKind s p 4) = .ok q → (tkt s q 32).2.2 = 0 → z = (tkt s q 32).1
  cas : k = 4 → ∀ q, thenT s 32 (thenT s 16 (ofKind s p 4)) = .ok q → (tkt s q 32).2.2 = 0 → y = (tkt s q 32).1
  noY : k ≠ 1 → k ≠ 4 → y = ⟨#[]⟩
  noZ : k ≠ 4 → z = ⟨#[]⟩
  noM : k ≠ 3 → m = 0
set_option maxRecDepth 100000 in
set_option maxHeartbeats 8000000 in
theorem step_any {w : World} {sv : Nat → Addr} (S : Sent w sv) (rb ob B : Nat) (s : ByteArray) (p : Int) (hs : s.size ≤ 1000000) (h : Rd w rb s p .nilIface) (tv gv : Value) (n : Nat) (xs : List Value)
    (hO : Blk w ob 44 #[tv, gv]) (hown : w.ownsRow B 92 5 gv n xs) (hn : n ≤ 1000) (hB : B ≤ w.heap.size) :
    Calls Tryd.prog 56 #[.pointer (some ⟨rb, 0, none⟩), .pointer (some ⟨ob, 0, none⟩)] w fun e w' => e = .returned (.tuple #[]) ∧ ∃ (k : Nat) (x y z : ByteArray) (m : Int), k ≤ 4 ∧ SVals s p k x y z m ∧
      PtOut w w' rb ob B s sv 92 5 gv n xs [.int .i64 k, .string x, .string y, .string z, .int .i64 m] (fun v => #[tv, v]) (sRes s p k) := by
  obtain ⟨i0, hi, hz0, hz1, hz2⟩ := info_parts infoSt
  have hK := Lib.hid (kind_rs S rb s p 4 hs (by decide) h)
  have hrl := h.lt
  have hor : ob ≠ rb := Blk.ne_ hO (show Blk w rb 101 _ from h) (by decide)
  have hSn := Lib.hid (fun W q u (hR : Rd W rb s q u) (hW : Chg (fun k => k = rb) w W) => sent_chg S h hR hW)
  have hOW := Lib.hid (fun W (hW : Chg (fun k => k = rb) w W) => (Blk.keep hO (hW.block ob hO.lt hor) : Blk W ob 44 #[tv, gv]))
  have hoW := Lib.hid (fun W (hW : Chg (fun k => k = rb) w W) => (ownKeep hown fun g hg' => hW.block g (World.ownsRow.lt hown g hg').2 fun e' => by
        subst e'
        exact own_blk_ne hown (show Blk w _ 101 _ from h) (by decide) hg' : W.ownsRow B 92 5 gv n xs))
  have hfin := Lib.hid (fun W w5 w6 lb v' cl cs r => part_fin (w := w) (W := W) (w5 := w5) (w6 := w6) (rb := rb) (ob := ob) (lb := lb) (B := B) (s := s) (sv := sv) (te := 92) (size := 5) (n := n) (v := gv) (v' := v') (xs := xs) (cs := cs) (cl := cl) (mk := fun v => #[tv, v]) (r := r) hO hown (by decide) ⟨_, _, h⟩)
  have hobl := hO.lt
  obtain ⟨A0, n0, p0, rfl⟩ : ∃ A n0 c, gv = .slice A n0 c := by rcases hown.2 with ⟨rfl, _⟩ | ⟨g, cap, cur, rfl, _⟩ <;> exact ⟨_, _, _, rfl⟩
  replace hown := Lib.hid hown
  replace hO := Lib.hid hO
  replace h := Lib.hid h
  replace hor := Lib.hid hor
  clear S
  go_enter Tryd.func56, Tryd.ntmps56
  go_wp2_with fail
  refine (hK.out).mono ?_; rintro e w1 ⟨k, rfl, hk4, hr1, hk1, hk0, hc1⟩
  have hs1 := hc1.size
  have hr2 := hr1.below (w' := w1.alloc (.cells #[.int .i64 k, .string ⟨#[]⟩, .string ⟨#[]⟩, .string ⟨#[]⟩, .int .i64 0] 92)) ((Below.refl _ _).alloc (Nat.le_refl _) _)
  have hc2 := hc1.alloc (.cells #[.int .i64 k, .string ⟨#[]⟩, .string ⟨#[]⟩, .string ⟨#[]⟩, .int .i64 0] 92)
  obtain ⟨q2, u2, hR2⟩ := hr2.rd
  have hT2 := Lib.hid (text_rs (hSn.out _ _ _ hR2 hc2) rb s 16 _ hs (by decide) hr2)
  have hL2 := Lib.hid (Blk.new w1 92 #[.int .i64 k, .string ⟨#[]⟩, .string ⟨#[]⟩, .string ⟨#[]⟩, .int .i64 0])
  replace hr1 := Lib.hid hr1
  replace hr2 := Lib.hid hr2
  replace hR2 := Lib.hid hR2
  replace hc1 := Lib.hid hc1
  replace hc2 := Lib.hid hc2
  replace hk1 := Lib.hid hk1
  replace hk0 := Lib.hid hk0
  go_wp2_with fail
  refine (hT2.out).mono ?_; rintro e w3 ⟨x, rfl, hr3, hx, hc3⟩
  have hlr : w1.heap.size ≠ rb := by omega
  have hL3 := Lib.hid (Blk.keep hL2.out (hc3.block w1.heap.size (by simp) hlr))
  have d0 := hL3.out.cell 0
  have g1 := hL3.out.frozen 1
  have hr3' := Lib.hid hr3
  have hc3' := Lib.hid (Chg.trans hc2.out hc3 fun i hi => .inl hi)
  have hx' : Hid (∀ q, ofKind s p 4 = .ok q → (tkt s q 16).2.2 = 0 → x = (tkt s q 16).1) := Lib.hid hx
  have d1 := hL3.out.cell 1
  have hs3 := hc3'.out.size
  have hl3 := hL3.out.lt
  have hr4 : RS (w3.setCell ⟨w1.heap.size, 1, none⟩ (.string x)) rb s sv (thenT s 16 (ofKind s p 4)) := hr3'.out.keep fun b t cs ht hB => hB.far (fun e => by
    have hL := hL3.out
    simp only at e
    rw [← e] at hL
    rcases ht with rfl | rfl
    · exact Blk.ne_ hL hB (by decide) rfl
    · exact Blk.ne_ hL hB (by decide) rfl) _
  have hc4 : Chg (fun k => k = rb) w (w3.setCell ⟨w1.heap.size, 1, none⟩ (.string x)) := hc3'.out.setCell (.inr (by simp only; omega)) _
  have hL4 : Blk (w3.setCell ⟨w1.heap.size, 1, none⟩ (.string x)) w1.heap.size 92 #[.int .i64 k, .string x, .string ⟨#[]⟩, .string ⟨#[]⟩, .int .i64 0] := Blk.eq_cs (Blk.set_ hL3.out 1 _) rfl
  obtain ⟨q4, u4, hR4⟩ := hr4.rd
  have hS4 := Lib.hid (hSn.out _ _ _ hR4 hc4)
  replace hR4 := Lib.hid hR4
  clear hr3 hx hc3
  have hcase : k = 1 ∨ k = 3 ∨ k = 4 ∨ (k ≠ 1 ∧ k ≠ 3 ∧ k ≠ 4) := by omega
  rcases hcase with hk | hk | hk | ⟨hk, hk', hk''⟩
  · have kb1 : ((k : Int) == 1) = true := beq_iff_eq.2 (by omega)
    have kb3 : ((k : Int) == 3) = false := beq_eq_false_iff_ne.2 (by omega)
    have kb4 : ((k : Int) == 4) = false := beq_eq_false_iff_ne.2 (by omega)
    replace hk := Lib.hid hk
    replace hr4 := Lib.hid hr4
    replace hc4 := Lib.hid hc4
    replace hL4 := Lib.hid hL4
    have hll4 : w1.heap.size < w3.heap.size := hl3
    have hT5 := Lib.hid (text_rs hS4.out rb s 32 _ hs (by decide) hr4.out)
    go_wp2_with fail
    refine (hT5.out).mono ?_; rintro e v5 ⟨y, rfl, hrr, hy5, hcc⟩
    clear d0 d1 g1
    have hcc5 := Lib.hid (Chg.trans hc4.out hcc fun i hi => .inl hi)
    have hLL5 := Lib.hid (Blk.keep hL4.out (hcc.block w1.heap.size (by rw [size_setCell]; exact hll4) hlr))
    have hl5 := hLL5.out.lt
    have hs5 := hcc5.out.size
    have d0 := hLL5.out.cell 0
    have d1 := hLL5.out.cell 2
    have g1 := hLL5.out.frozen 2
    have hr5 := Lib.hid (hrr.keep (w' := v5.setCell ⟨w1.heap.size, 2, none⟩ (.string y)) fun b t cs ht hB => hB.far (fun e => by
        have hL := hLL5.out
        simp only at e
        rw [← e] at hL
        rcases ht with rfl | rfl
        · exact Blk.ne_ hL hB (by decide) rfl
        · exact Blk.ne_ hL hB (by decide) rfl) _)
    have hc5 := Lib.hid (hcc5.out.setCell (p := ⟨w1.heap.size, 2, none⟩) (.inr (by simp only; omega)) (.string y))
    have hll5 : w1.heap.size < v5.heap.size := hl5
    obtain ⟨q5, u5, hRR5⟩ := hr5.out.rd
    have hS5 := Lib.hid (hSn.out _ _ _ hRR5 hc5.out)
    replace hRR5 := Lib.hid hRR5
    replace hy5 := Lib.hid hy5
    clear hrr hcc
    have hL5 : Blk (v5.setCell ⟨w1.heap.size, 2, none⟩ (.string y)) w1.heap.size 92 #[.int .i64 k, .string x, .string y, .string ⟨#[]⟩, .int .i64 0] := Blk.eq_cs (Blk.set_ hLL5.out 2 _) rfl
    replace hL5 := Lib.hid hL5
    go_wp2_with fail
    refine code_world (fun W => GPre w W rb w1.heap.size s sv 92 #[.int .i64 k, .string x, .string y, .string ⟨#[]⟩, .int .i64 0] (thenT s 32 (thenT s 16 (ofKind s p 4)))) ?_ fun W hW => ?_
    · exact ⟨hr5.out, hL5.out, by omega, hc5.out⟩
    clear d0 d1 g1 hT5 hL5 hLL5
    have hO4 := hOW.out _ hW.chg
    have c0 := hO4.cell 1
    have f0 := hO4.frozen 1
    have hrb4 := hW.new
    have d0 := hW.blk.cell 0
    have d1 := hW.blk.cell 1
    have d2 := hW.blk.cell 2
    have d3 := hW.blk.cell 3
    have d4 := hW.blk.cell 4
    have hne4 : some ob ≠ (Value.slice A0 n0 p0).ownBlock := fun e => own_blk_ne (hoW.out _ hW.chg) hO4 (by decide) e.symm
    have hown4 := Lib.hid (fun W' (hW' : Below W.heap.size W W') => own_under (hoW.out _ hW.chg) hW')
    have hrd := Lib.hid (fun (W' : World) (hW' : W'.heap.size = W.heap.size) => (by have h1 := readsN W' 92 #[.int .i64 k, .string x, .string y, .string ⟨#[]⟩, .int .i64 0] 5 rfl; rw [hW'] at h1; exact h1 : Reads (W'.alloc (.cells #[.int .i64 k, .string x, .string y, .string ⟨#[]⟩, .int .i64 0] 92)) (W.heap.size + 1) 5 (some ⟨W.heap.size, 0, none⟩) 1 [.int .i64 k, .string x, .string y, .string ⟨#[]⟩, .int .i64 0]))
    have hO4' := Lib.hid (fun W' (hW' : Below W.heap.size W W') => (hO4.below hW' hO4.lt : Blk W' ob 44 #[tv, .slice A0 n0 p0]))
    have hszW := hW.chg.size
    have obW := hO4.lt
    have lbW := hW.blk.lt
    replace hO4 := Lib.hid hO4
    replace hW := Lib.hid hW
    replace hne4 := Lib.hid hne4
    clear hT2 hL2 hL3
    go_region_law (refine step_append_any _ rfl (.tmp 57) (.tmp 59) 42 rfl B 92 i0 (.agg #[.int .i64 0, .string ⟨#[]⟩, .string ⟨#[]⟩, .string ⟨#[]⟩, .int .i64 0]) 5 64 Tryd.underlying42 hi hz0 hz1 hz2 rfl (by decide) (.slice A0 n0 p0) n xs (by simp [Act.eval]) (hown4.out _ (by (repeat first | exact Below.refl _ _ | assumption | refine Below.drew ?_ | refine below_drewN ?_ _ | refine Below.more_ ?_ _ | refine Below.setCell ?_ (by first | exact Nat.le_refl _ | (simp; done) | (simp; omega)) _))) (W.heap.size + 1) (some ⟨W.heap.size, 0, none⟩) 1 1 [.int .i64 k, .string x, .string y, .string ⟨#[]⟩, .int .i64 0] (by simp [Act.eval]) (hrd.out _ (by simp)) (by simp [Value.oneCell']) (by unfold maxLen; omega) (by omega) (by simp; omega) ?_; intro v' w5 hown5 hgrow hloc; obtain ⟨gg, cp, rfl⟩ := ownSucc hown5; have B5 := Blk.grown (hO4'.out _ (by (repeat first | exact Below.refl _ _ | assumption | refine Below.drew ?_ | refine below_drewN ?_ _ | refine Below.more_ ?_ _ | refine Below.setCell ?_ (by first | exact Nat.le_refl _ | (simp; done) | (simp; omega)) _))) hgrow hne4.out; have c0' := B5.cell 1; have f0' := B5.frozen 1; replace B5 := Lib.hid B5; replace hown5 := Lib.hid hown5; replace hgrow := Lib.hid hgrow; replace hloc := Lib.hid hloc)
    all_goals
      go_wp2_with fail
      have hR : ∀ w6, Chg (fun k => k = ob) w5 w6 → Blk w6 ob 44 #[tv, .slice (some ⟨gg, 0, none⟩) (n + 1) cp] → _ := fun w6 hc hB => hfin.out W w5 w6 _ _ _ [.int .i64 k, .string x, .string y, .string ⟨#[]⟩, .int .i64 0] _ hW.out _ (by (repeat first | exact Below.refl _ _ | assumption | refine Below.drew ?_ | refine below_drewN ?_ _ | refine Below.more_ ?_ _ | refine Below.setCell ?_ (by first | exact Nat.le_refl _ | (simp; done) | (simp; omega)) _)) hown5.out hgrow.out hloc.out hB hc
      refine bodyPost_end (v := .tuple #[]) (results_none (by kernel_rfl) _ _ _) rfl ⟨rfl, k, x, y, ⟨#[]⟩, 0, by omega, ⟨hk1.out, hk0.out, hx'.out, fun _ => hy5.out, fun h0 => absurd h0 (by have := hk.out; omega), fun h0 => absurd h0 (by have := hk.out; omega), fun h0 => absurd h0 (by have := hk.out; omega), fun h0 => absurd hk.out h0, fun _ => rfl, fun _ => rfl⟩, ?_⟩
      exact (show sRes s p k = thenT s 32 (thenT s 16 (ofKind s p 4)) from by unfold sRes; rw [if_pos hk.out]).symm ▸ hR _ (by (repeat first | exact Chg.refl _ _ | assumption | refine Chg.drew ?_ | refine Chg.drewN ?_ _ | refine Chg.alloc ?_ _ | refine Chg.setCell ?_ (by first | (left; rfl) | (left; assumption) | (right; exact Nat.le_refl _) | (right; simp; done) | (right; simp; omega)) _ | refine Chg.setBlock ?_ (by first | (left; rfl) | (left; assumption) | (right; exact Nat.le_refl _) | (right; simp; done) | (right; simp; omega)) _)) (Blk.eq_cs (B5.out.set_ 1 _) rfl)
  · have kb1 : ((k : Int) == 1) = false := beq_eq_false_iff_ne.2 (by omega)
    have kb3 : ((k : Int) == 3) = true := beq_iff_eq.2 (by omega)
    have kb4 : ((k : Int) == 4) = false := beq_eq_false_iff_ne.2 (by omega)
    replace hk := Lib.hid hk
    cases hr : thenT s 16 (ofKind s p 4) with
    | error e4 =>
      rw [hr] at hr4
      have hrE := hr4
      obtain ⟨q5, v5, hR5, hv5⟩ := hr4
      obtain ⟨ty, u, rfl⟩ := hv5.iface
      obtain ⟨_, _, c5, _, _⟩ := nil_cell hR5
      have c5' : w3.cell? ⟨rb, 2, none⟩ = some (.iface ty u) := (World.cell?_setCell_other w3 _ ⟨rb, 2, none⟩ _ (fun e => by injection e with e1; exact hlr e1)).symm.trans c5
      replace hrE := Lib.hid hrE
      replace hR5 := Lib.hid hR5
      replace hv5 := Lib.hid hv5
      replace hr := Lib.hid hr
      replace hc4 := Lib.hid hc4
      replace hL4 := Lib.hid hL4
      go_wp2_with fail
      refine code_world (fun W => GPre w W rb w1.heap.size s sv 92 #[.int .i64 k, .string x, .string ⟨#[]⟩, .string ⟨#[]⟩, .int .i64 0] (.error e4)) ?_ fun W hW => ?_
      · exact ⟨hrE.out, hL4.out, by omega, hc4.out⟩
      clear d0 d1 g1 c5 c5'
      have hO4 := hOW.out _ hW.chg
      have c0 := hO4.cell 1
      have f0 := hO4.frozen 1
      have hrb4 := hW.new
      have d0 := hW.blk.cell 0
      have d1 := hW.blk.cell 1
      have d2 := hW.blk.cell 2
      have d3 := hW.blk.cell 3
      have d4 := hW.blk.cell 4
      have hne4 : some ob ≠ (Value.slice A0 n0 p0).ownBlock := fun e => own_blk_ne (hoW.out _ hW.chg) hO4 (by decide) e.symm
      have hown4 := Lib.hid (fun W' (hW' : Below W.heap.size W W') => own_under (hoW.out _ hW.chg) hW')
      have hrd := Lib.hid (fun (W' : World) (hW' : W'.heap.size = W.heap.size) => (by have h1 := readsN W' 92 #[.int .i64 k, .string x, .string ⟨#[]⟩, .string ⟨#[]⟩, .int .i64 0] 5 rfl; rw [hW'] at h1; exact h1 : Reads (W'.alloc (.cells #[.int .i64 k, .string x, .string ⟨#[]⟩, .string ⟨#[]⟩, .int .i64 0] 92)) (W.heap.size + 1) 5 (some ⟨W.heap.size, 0, none⟩) 1 [.int .i64 k, .string x, .string ⟨#[]⟩, .string ⟨#[]⟩, .int .i64 0]))
      have hO4' := Lib.hid (fun W' (hW' : Below W.heap.size W W') => (hO4.below hW' hO4.lt : Blk W' ob 44 #[tv, .slice A0 n0 p0]))
      have hszW := hW.chg.size
      have obW := hO4.lt
      have lbW := hW.blk.lt
      replace hO4 := Lib.hid hO4
      replace hW := Lib.hid hW
      replace hne4 := Lib.hid hne4
      clear hT2 hL2 hL3
      go_region_law (refine step_append_any _ rfl (.tmp 57) (.tmp 59) 42 rfl B 92 i0 (.agg #[.int .i64 0, .string ⟨#[]⟩, .string ⟨#[]⟩, .string ⟨#[]⟩, .int .i64 0]) 5 64 Tryd.underlying42 hi hz0 hz1 hz2 rfl (by decide) (.slice A0 n0 p0) n xs (by simp [Act.eval]) (hown4.out _ (by (repeat first | exact Below.refl _ _ | assumption | refine Below.drew ?_ | refine below_drewN ?_ _ | refine Below.more_ ?_ _ | refine Below.setCell ?_ (by first | exact Nat.le_refl _ | (simp; done) | (simp; omega)) _))) (W.heap.size + 1) (some ⟨W.heap.size, 0, none⟩) 1 1 [.int .i64 k, .string x, .string ⟨#[]⟩, .string ⟨#[]⟩, .int .i64 0] (by simp [Act.eval]) (hrd.out _ (by simp)) (by simp [Value.oneCell']) (by unfold maxLen; omega) (by omega) (by simp; omega) ?_; intro v' w5 hown5 hgrow hloc; obtain ⟨gg, cp, rfl⟩ := ownSucc hown5; have B5 := Blk.grown (hO4'.out _ (by (repeat first | exact Below.refl _ _ | assumption | refine Below.drew ?_ | refine below_drewN ?_ _ | refine Below.more_ ?_ _ | refine Below.setCell ?_ (by first | exact Nat.le_refl _ | (simp; done) | (simp; omega)) _))) hgrow hne4.out; have c0' := B5.cell 1; have f0' := B5.frozen 1; replace B5 := Lib.hid B5; replace hown5 := Lib.hid hown5; replace hgrow := Lib.hid hgrow; replace hloc := Lib.hid hloc)
      all_goals
        go_wp2_with fail
        have hR : ∀ w6, Chg (fun k => k = ob) w5 w6 → Blk w6 ob 44 #[tv, .slice (some ⟨gg, 0, none⟩) (n + 1) cp] → _ := fun w6 hc hB => hfin.out W w5 w6 _ _ _ [.int .i64 k, .string x, .string ⟨#[]⟩, .string ⟨#[]⟩, .int .i64 0] _ hW.out _ (by (repeat first | exact Below.refl _ _ | assumption | refine Below.drew ?_ | refine below_drewN ?_ _ | refine Below.more_ ?_ _ | refine Below.setCell ?_ (by first | exact Nat.le_refl _ | (simp; done) | (simp; omega)) _)) hown5.out hgrow.out hloc.out hB hc
        refine bodyPost_end (v := .tuple #[]) (results_none (by kernel_rfl) _ _ _) rfl ⟨rfl, k, x, ⟨#[]⟩, ⟨#[]⟩, 0, by omega, ⟨hk1.out, hk0.out, hx'.out, fun h0 => absurd h0 (by have := hk.out; omega), fun _ q hq => absurd (hr.out.symm.trans hq) (by simp), fun h0 => absurd h0 (by have := hk.out; omega), fun h0 => absurd h0 (by have := hk.out; omega), fun _ _ => rfl, fun _ => rfl, fun _ => rfl⟩, ?_⟩
        exact (show sRes s p k = .error e4 from by unfold sRes; rw [if_neg (by have := hk.out; omega), if_pos hk.out, hr.out]; rfl).symm ▸ hR _ (by (repeat first | exact Chg.refl _ _ | assumption | refine Chg.drew ?_ | refine Chg.drewN ?_ _ | refine Chg.alloc ?_ _ | refine Chg.setCell ?_ (by first | (left; rfl) | (left; assumption) | (right; exact Nat.le_refl _) | (right; simp; done) | (right; simp; omega)) _ | refine Chg.setBlock ?_ (by first | (left; rfl) | (left; assumption) | (right; exact Nat.le_refl _) | (right; simp; done) | (right; simp; omega)) _)) (Blk.eq_cs (B5.out.set_ 1 _) rfl)
    | ok q4' =>
      rw [hr] at hr4
      have W4s : (w3.setCell ⟨w1.heap.size, 1, none⟩ (.string x)).heap.size = w3.heap.size := size_setCell _ _ _
      have hTI := Lib.hid (fun W (hW : Below (w3.setCell ⟨w1.heap.size, 1, none⟩ (.string x)).heap.size (w3.setCell ⟨w1.heap.size, 1, none⟩ (.string x)) W) => takeInt_any (hS4.out.below hW) s q4' hs)
      obtain ⟨c3, c4, c5, f4, f5⟩ := nil_cell hr4
      have e3 : ∀ j, w3.cell? ⟨rb, j, none⟩ = (w3.setCell ⟨w1.heap.size, 1, none⟩ (.string x)).cell? ⟨rb, j, none⟩ := fun j => (World.cell?_setCell_other w3 _ ⟨rb, j, none⟩ _ (fun e => by injection e with e1; exact hlr e1)).symm
      rw [← e3] at c3 c4 c5
      have hRb := Lib.hid (fun W (hW : Below (w3.setCell ⟨w1.heap.size, 1, none⟩ (.string x)).heap.size (w3.setCell ⟨w1.heap.size, 1, none⟩ (.string x)) W) => (Blk.below hr4 hW hr4.lt : Rd W rb s q4' .nilIface))
      have hLb := Lib.hid (fun W (hW : Below (w3.setCell ⟨w1.heap.size, 1, none⟩ (.string x)).heap.size (w3.setCell ⟨w1.heap.size, 1, none⟩ (.string x)) W) => hL4.below hW hL4.lt)
      have hC4 := Lib.hid hc4
      have hthen : thenI s (thenT s 16 (ofKind s p 4)) = if (tki s q4').2.2 ≠ 0 then .error ((tki s q4').2.2, q4') else .ok (tki s q4').2.1 := by rw [hr]; rfl
      have hadd : ∀ m, m = (tki s q4').1 → (k = 3 → ∀ q, thenT s 16 (ofKind s p 4) = .ok q → (tki s q).2.2 = 0 → m = (tki s q).1) := fun m hm _ q hq _ => by rw [hr] at hq; injection hq with hq; rw [← hq]; exact hm
      replace hadd := Lib.hid hadd
      generalize (tki s q4').1 = m at *
      generalize (tki s q4').2.1 = b5 at *
      generalize (tki s q4').2.2 = c6 at *
      replace hr4 := Lib.hid hr4
      replace hL4 := Lib.hid hL4
      replace hr := Lib.hid hr
      replace e3 := Lib.hid e3
      replace W4s := Lib.hid W4s
      clear hc4
      by_cases h6 : c6 = 0
      · subst h6
        rw [if_neg (by decide)] at hthen
        replace hthen := Lib.hid hthen
        go_wp2_with fail
        clear d0 d1 g1
        go_region_with (first
          | (go_at_call 82; refine (hTI.out _ (by first | exact Below.refl _ _ | exact (Below.refl _ _).drew)).mono ?_; rintro e w6 ⟨v, rfl, hv, hb6'⟩; have hb6 : Below (w3.setCell ⟨w1.heap.size, 1, none⟩ (.string x)).heap.size (w3.setCell ⟨w1.heap.size, 1, none⟩ (.string x)) w6 := ⟨hb6'.os, hb6'.tape, hb6'.output, hb6'.size, hb6'.block⟩; obtain rfl := tk_nil hv; clear hv; have hR6 := hRb.out _ hb6; have hL6 := hLb.out _ hb6; obtain ⟨c3', c4', c5', f4', f5'⟩ := nil_cell hR6; have l4 := hL6.cell 4; have lf4 := hL6.frozen 4; have hC6 := hC4.out.next_ hb6; replace hR6 := Lib.hid hR6; replace hL6 := Lib.hid hL6; replace hC6 := Lib.hid hC6))
        all_goals
          go_wp2_with fail
          refine code_world (fun W => GPre w W rb w1.heap.size s sv 92 #[.int .i64 k, .string x, .string ⟨#[]⟩, .string ⟨#[]⟩, .int .i64 m] (.ok b5)) ?_ fun W hW => ?_
          · refine ⟨rd_err (rd_at (Blk.far hR6.out hlr.symm _) _) _, Blk.far (Blk.far (Blk.eq_cs (Blk.set_ hL6.out 4 _) rfl) hlr _) hlr _, by omega, ((hC6.out.setCell (.inr (by simp only; omega)) _).setCell (.inl rfl) _).setCell (.inl rfl) _⟩
          clear l4 lf4 c3 c4 c5 c3' c4' c5' f4' f5'
          have hO4 := hOW.out _ hW.chg
          have c0 := hO4.cell 1
          have f0 := hO4.frozen 1
          have hrb4 := hW.new
          have d0 := hW.blk.cell 0
          have d1 := hW.blk.cell 1
          have d2 := hW.blk.cell 2
          have d3 := hW.blk.cell 3
          have d4 := hW.blk.cell 4
          have hne4 : some ob ≠ (Value.slice A0 n0 p0).ownBlock := fun e => own_blk_ne (hoW.out _ hW.chg) hO4 (by decide) e.symm
          have hown4 := Lib.hid (fun W' (hW' : Below W.heap.size W W') => own_under (hoW.out _ hW.chg) hW')
          have hrd := Lib.hid (fun (W' : World) (hW' : W'.heap.size = W.heap.size) => (by have h1 := readsN W' 92 #[.int .i64 k, .string x, .string ⟨#[]⟩, .string ⟨#[]⟩, .int .i64 m] 5 rfl; rw [hW'] at h1; exact h1 : Reads (W'.alloc (.cells #[.int .i64 k, .string x, .string ⟨#[]⟩, .string ⟨#[]⟩, .int .i64 m] 92)) (W.heap.size + 1) 5 (some ⟨W.heap.size, 0, none⟩) 1 [.int .i64 k, .string x, .string ⟨#[]⟩, .string ⟨#[]⟩, .int .i64 m]))
          have hO4' := Lib.hid (fun W' (hW' : Below W.heap.size W W') => (hO4.below hW' hO4.lt : Blk W' ob 44 #[tv, .slice A0 n0 p0]))
          have hszW := hW.chg.size
          have obW := hO4.lt
          have lbW := hW.blk.lt
          replace hO4 := Lib.hid hO4
          replace hW := Lib.hid hW
          replace hne4 := Lib.hid hne4
          clear hT2 hL2 hL3
          go_region_law (refine step_append_any _ rfl (.tmp 57) (.tmp 59) 42 rfl B 92 i0 (.agg #[.int .i64 0, .string ⟨#[]⟩, .string ⟨#[]⟩, .string ⟨#[]⟩, .int .i64 0]) 5 64 Tryd.underlying42 hi hz0 hz1 hz2 rfl (by decide) (.slice A0 n0 p0) n xs (by simp [Act.eval]) (hown4.out _ (by (repeat first | exact Below.refl _ _ | assumption | refine Below.drew ?_ | refine below_drewN ?_ _ | refine Below.more_ ?_ _ | refine Below.setCell ?_ (by first | exact Nat.le_refl _ | (simp; done) | (simp; omega)) _))) (W.heap.size + 1) (some ⟨W.heap.size, 0, none⟩) 1 1 [.int .i64 k, .string x, .string ⟨#[]⟩, .string ⟨#[]⟩, .int .i64 m] (by simp [Act.eval]) (hrd.out _ (by simp)) (by simp [Value.oneCell']) (by unfold maxLen; omega) (by omega) (by simp; omega) ?_; intro v' w5 hown5 hgrow hloc; obtain ⟨gg, cp, rfl⟩ := ownSucc hown5; have B5 := Blk.grown (hO4'.out _ (by (repeat first | exact Below.refl _ _ | assumption | refine Below.drew ?_ | refine below_drewN ?_ _ | refine Below.more_ ?_ _ | refine Below.setCell ?_ (by first | exact Nat.le_refl _ | (simp; done) | (simp; omega)) _))) hgrow hne4.out; have c0' := B5.cell 1; have f0' := B5.frozen 1; replace B5 := Lib.hid B5; replace hown5 := Lib.hid hown5; replace hgrow := Lib.hid hgrow; replace hloc := Lib.hid hloc)
          all_goals
            go_wp2_with fail
            have hR : ∀ w6, Chg (fun k => k = ob) w5 w6 → Blk w6 ob 44 #[tv, .slice (some ⟨gg, 0, none⟩) (n + 1) cp] → _ := fun w6 hc hB => hfin.out W w5 w6 _ _ _ [.int .i64 k, .string x, .string ⟨#[]⟩, .string ⟨#[]⟩, .int .i64 m] _ hW.out _ (by (repeat first | exact Below.refl _ _ | assumption | refine Below.drew ?_ | refine below_drewN ?_ _ | refine Below.more_ ?_ _ | refine Below.setCell ?_ (by first | exact Nat.le_refl _ | (simp; done) | (simp; omega)) _)) hown5.out hgrow.out hloc.out hB hc
            refine bodyPost_end (v := .tuple #[]) (results_none (by kernel_rfl) _ _ _) rfl ⟨rfl, k, x, ⟨#[]⟩, ⟨#[]⟩, m, by omega, ⟨hk1.out, hk0.out, hx'.out, fun h0 => absurd h0 (by have := hk.out; omega), hadd.out m rfl, fun h0 => absurd h0 (by have := hk.out; omega), fun h0 => absurd h0 (by have := hk.out; omega), fun _ _ => rfl, fun _ => rfl, fun h0 => absurd hk.out h0⟩, ?_⟩
            exact (show sRes s p k = .ok b5 from by unfold sRes; rw [if_neg (by have := hk.out; omega), if_pos hk.out, hthen.out]).symm ▸ hR _ (by (repeat first | exact Chg.refl _ _ | assumption | refine Chg.drew ?_ | refine Chg.drewN ?_ _ | refine Chg.alloc ?_ _ | refine Chg.setCell ?_ (by first | (left; rfl) | (left; assumption) | (right; exact Nat.le_refl _) | (right; simp; done) | (right; simp; omega)) _ | refine Chg.setBlock ?_ (by first | (left; rfl) | (left; assumption) | (right; exact Nat.le_refl _) | (right; simp; done) | (right; simp; omega)) _)) (Blk.eq_cs (B5.out.set_ 1 _) rfl)
      · rw [if_pos h6] at hthen
        replace hthen := Lib.hid hthen
        replace h6 := Lib.hid h6
        go_wp2_with fail
        clear d0 d1 g1
        go_region_with (first
          | (go_at_call 82; refine (hTI.out _ (by first | exact Below.refl _ _ | exact (Below.refl _ _).drew)).mono ?_; rintro e w6 ⟨v, rfl, hv, hb6'⟩; have hb6 : Below (w3.setCell ⟨w1.heap.size, 1, none⟩ (.string x)).heap.size (w3.setCell ⟨w1.heap.size, 1, none⟩ (.string x)) w6 := ⟨hb6'.os, hb6'.tape, hb6'.output, hb6'.size, hb6'.block⟩; replace hv := hv.resolve_left (fun hx => h6.out hx.1); obtain ⟨ty, u, rfl⟩ := hv.2.iface; replace hv := Lib.hid hv; have hR6 := hRb.out _ hb6; have hL6 := hLb.out _ hb6; obtain ⟨c3', c4', c5', f4', f5'⟩ := nil_cell hR6; have l4 := hL6.cell 4; have lf4 := hL6.frozen 4; have hC6 := hC4.out.next_ hb6; replace hR6 := Lib.hid hR6; replace hL6 := Lib.hid hL6; replace hC6 := Lib.hid hC6))
        all_goals
          go_wp2_with fail
          refine code_world (fun W => GPre w W rb w1.heap.size s sv 92 #[.int .i64 k, .string x, .string ⟨#[]⟩, .string ⟨#[]⟩, .int .i64 m] (.error (c6, q4'))) ?_ fun W hW => ?_
          · refine ⟨⟨b5, _, rd_err (rd_at (Blk.far hR6.out hlr.symm _) _) _, ?_⟩, Blk.far (Blk.far (Blk.eq_cs (Blk.set_ hL6.out 4 _) rfl) hlr _) hlr _, by omega, ((hC6.out.setCell (.inr (by simp only; omega)) _).setCell (.inl rfl) _).setCell (.inl rfl) _⟩
            exact err_set (rd_at (Blk.far hR6.out hlr.symm _) _) 2 _ (err_set (Blk.far hR6.out hlr.symm _) 1 _ (err_stays (fun b cs hb => Blk.far hb (fun e => by
              simp only at e
              have hL := hL6.out
              rw [← e] at hL
              exact Blk.ne_ hL hb (by decide) rfl) _) hv.out.2))
          clear l4 lf4 c3 c4 c5 c3' c4' c5' f4' f5'
          have hO4 := hOW.out _ hW.chg
          have c0 := hO4.cell 1
          have f0 := hO4.frozen 1
          have hrb4 := hW.new
          have d0 := hW.blk.cell 0
          have d1 := hW.blk.cell 1
          have d2 := hW.blk.cell 2
          have d3 := hW.blk.cell 3
          have d4 := hW.blk.cell 4
          have hne4 : some ob ≠ (Value.slice A0 n0 p0).ownBlock := fun e => own_blk_ne (hoW.out _ hW.chg) hO4 (by decide) e.symm
          have hown4 := Lib.hid (fun W' (hW' : Below W.heap.size W W') => own_under (hoW.out _ hW.chg) hW')
          have hrd := Lib.hid (fun (W' : World) (hW' : W'.heap.size = W.heap.size) => (by have h1 := readsN W' 92 #[.int .i64 k, .string x, .string ⟨#[]⟩, .string ⟨#[]⟩, .int .i64 m] 5 rfl; rw [hW'] at h1; exact h1 : Reads (W'.alloc (.cells #[.int .i64 k, .string x, .string ⟨#[]⟩, .string ⟨#[]⟩, .int .i64 m] 92)) (W.heap.size + 1) 5 (some ⟨W.heap.size, 0, none⟩) 1 [.int .i64 k, .string x, .string ⟨#[]⟩, .string ⟨#[]⟩, .int .i64 m]))
          have hO4' := Lib.hid (fun W' (hW' : Below W.heap.size W W') => (hO4.below hW' hO4.lt : Blk W' ob 44 #[tv, .slice A0 n0 p0]))
          have hszW := hW.chg.size
          have obW := hO4.lt
          have lbW := hW.blk.lt
          replace hO4 := Lib.hid hO4
          replace hW := Lib.hid hW
          replace hne4 := Lib.hid hne4
          clear hT2 hL2 hL3
          go_region_law (refine step_append_any _ rfl (.tmp 57) (.tmp 59) 42 rfl B 92 i0 (.agg #[.int .i64 0, .string ⟨#[]⟩, .string ⟨#[]⟩, .string ⟨#[]⟩, .int .i64 0]) 5 64 Tryd.underlying42 hi hz0 hz1 hz2 rfl (by decide) (.slice A0 n0 p0) n xs (by simp [Act.eval]) (hown4.out _ (by (repeat first | exact Below.refl _ _ | assumption | refine Below.drew ?_ | refine below_drewN ?_ _ | refine Below.more_ ?_ _ | refine Below.setCell ?_ (by first | exact Nat.le_refl _ | (simp; done) | (simp; omega)) _))) (W.heap.size + 1) (some ⟨W.heap.size, 0, none⟩) 1 1 [.int .i64 k, .string x, .string ⟨#[]⟩, .string ⟨#[]⟩, .int .i64 m] (by simp [Act.eval]) (hrd.out _ (by simp)) (by simp [Value.oneCell']) (by unfold maxLen; omega) (by omega) (by simp; omega) ?_; intro v' w5 hown5 hgrow hloc; obtain ⟨gg, cp, rfl⟩ := ownSucc hown5; have B5 := Blk.grown (hO4'.out _ (by (repeat first | exact Below.refl _ _ | assumption | refine Below.drew ?_ | refine below_drewN ?_ _ | refine Below.more_ ?_ _ | refine Below.setCell ?_ (by first | exact Nat.le_refl _ | (simp; done) | (simp; omega)) _))) hgrow hne4.out; have c0' := B5.cell 1; have f0' := B5.frozen 1; replace B5 := Lib.hid B5; replace hown5 := Lib.hid hown5; replace hgrow := Lib.hid hgrow; replace hloc := Lib.hid hloc)
          all_goals
            go_wp2_with fail
            have hR : ∀ w6, Chg (fun k => k = ob) w5 w6 → Blk w6 ob 44 #[tv, .slice (some ⟨gg, 0, none⟩) (n + 1) cp] → _ := fun w6 hc hB => hfin.out W w5 w6 _ _ _ [.int .i64 k, .string x, .string ⟨#[]⟩, .string ⟨#[]⟩, .int .i64 m] _ hW.out _ (by (repeat first | exact Below.refl _ _ | assumption | refine Below.drew ?_ | refine below_drewN ?_ _ | refine Below.more_ ?_ _ | refine Below.setCell ?_ (by first | exact Nat.le_refl _ | (simp; done) | (simp; omega)) _)) hown5.out hgrow.out hloc.out hB hc
            refine bodyPost_end (v := .tuple #[]) (results_none (by kernel_rfl) _ _ _) rfl ⟨rfl, k, x, ⟨#[]⟩, ⟨#[]⟩, m, by omega, ⟨hk1.out, hk0.out, hx'.out, fun h0 => absurd h0 (by have := hk.out; omega), hadd.out m rfl, fun h0 => absurd h0 (by have := hk.out; omega), fun h0 => absurd h0 (by have := hk.out; omega), fun _ _ => rfl, fun _ => rfl, fun h0 => absurd hk.out h0⟩, ?_⟩
            exact (show sRes s p k = .error (c6, q4') from by unfold sRes; rw [if_neg (by have := hk.out; omega), if_pos hk.out, hthen.out]).symm ▸ hR _ (by (repeat first | exact Chg.refl _ _ | assumption | refine Chg.drew ?_ | refine Chg.drewN ?_ _ | refine Chg.alloc ?_ _ | refine Chg.setCell ?_ (by first | (left; rfl) | (left; assumption) | (right; exact Nat.le_refl _) | (right; simp; done) | (right; simp; omega)) _ | refine Chg.setBlock ?_ (by first | (left; rfl) | (left; assumption) | (right; exact Nat.le_refl _) | (right; simp; done) | (right; simp; omega)) _)) (Blk.eq_cs (B5.out.set_ 1 _) rfl)
  · have kb1 : ((k : Int) == 1) = false := beq_eq_false_iff_ne.2 (by omega)
    have kb3 : ((k : Int) == 3) = false := beq_eq_false_iff_ne.2 (by omega)
    have kb4 : ((k : Int) == 4) = true := beq_iff_eq.2 (by omega)
    replace hk := Lib.hid hk
    replace hr4 := Lib.hid hr4
    replace hc4 := Lib.hid hc4
    replace hL4 := Lib.hid hL4
    have hll4 : w1.heap.size < w3.heap.size := hl3
    have hT5 := Lib.hid (text_rs hS4.out rb s 32 _ hs (by decide) hr4.out)
    go_wp2_with fail
    refine (hT5.out).mono ?_; rintro e v5 ⟨z, rfl, hrr, hy5, hcc⟩
    clear d0 d1 g1
    have hcc5 := Lib.hid (Chg.trans hc4.out hcc fun i hi => .inl hi)
    have hLL5 := Lib.hid (Blk.keep hL4.out (hcc.block w1.heap.size (by rw [size_setCell]; exact hll4) hlr))
    have hl5 := hLL5.out.lt
    have hs5 := hcc5.out.size
    have d0 := hLL5.out.cell 0
    have d1 := hLL5.out.cell 3
    have g1 := hLL5.out.frozen 3
    have hr5 := Lib.hid (hrr.keep (w' := v5.setCell ⟨w1.heap.size, 3, none⟩ (.string z)) fun b t cs ht hB => hB.far (fun e => by
        have hL := hLL5.out
        simp only at e
        rw [← e] at hL
        rcases ht with rfl | rfl
        · exact Blk.ne_ hL hB (by decide) rfl
        · exact Blk.ne_ hL hB (by decide) rfl) _)
    have hc5 := Lib.hid (hcc5.out.setCell (p := ⟨w1.heap.size, 3, none⟩) (.inr (by simp only; omega)) (.string z))
    have hll5 : w1.heap.size < v5.heap.size := hl5
    obtain ⟨q5, u5, hRR5⟩ := hr5.out.rd
    have hS5 := Lib.hid (hSn.out _ _ _ hRR5 hc5.out)
    replace hRR5 := Lib.hid hRR5
    replace hy5 := Lib.hid hy5
    clear hrr hcc
    have hL5 : Blk (v5.setCell ⟨w1.heap.size, 3, none⟩ (.string z)) w1.heap.size 92 #[.int .i64 k, .string x, .string ⟨#[]⟩, .string z, .int .i64 0] := Blk.eq_cs (Blk.set_ hLL5.out 3 _) rfl
    replace hL5 := Lib.hid hL5
    have hT6 := Lib.hid (text_rs hS5.out rb s 32 _ hs (by decide) hr5.out)
    go_wp2_with fail
    refine (hT6.out).mono ?_; rintro e v6 ⟨y, rfl, hrr, hy6, hcc⟩
    clear d0 d1 g1
    have hcc6 := Lib.hid (Chg.trans hc5.out hcc fun i hi => .inl hi)
    have hLL6 := Lib.hid (Blk.keep hL5.out (hcc.block w1.heap.size (by rw [size_setCell]; exact hll5) hlr))
    have hl6 := hLL6.out.lt
    have hs6 := hcc6.out.size
    have d0 := hLL6.out.cell 0
    have d1 := hLL6.out.cell 2
    have g1 := hLL6.out.frozen 2
    have hr6 := Lib.hid (hrr.keep (w' := v6.setCell ⟨w1.heap.size, 2, none⟩ (.string y)) fun b t cs ht hB => hB.far (fun e => by
        have hL := hLL6.out
        simp only at e
        rw [← e] at hL
        rcases ht with rfl | rfl
        · exact Blk.ne_ hL hB (by decide) rfl
        · exact Blk.ne_ hL hB (by decide) rfl) _)
    have hc6 := Lib.hid (hcc6.out.setCell (p := ⟨w1.heap.size, 2, none⟩) (.inr (by simp only; omega)) (.string y))
    have hll6 : w1.heap.size < v6.heap.size := hl6
    obtain ⟨q6, u6, hRR6⟩ := hr6.out.rd
    have hS6 := Lib.hid (hSn.out _ _ _ hRR6 hc6.out)
    replace hRR6 := Lib.hid hRR6
    replace hy6 := Lib.hid hy6
    clear hrr hcc
    have hL6 : Blk (v6.setCell ⟨w1.heap.size, 2, none⟩ (.string y)) w1.heap.size 92 #[.int .i64 k, .string x, .string y, .string z, .int .i64 0] := Blk.eq_cs (Blk.set_ hLL6.out 2 _) rfl
    replace hL6 := Lib.hid hL6
    go_wp2_with fail
    refine code_world (fun W => GPre w W rb w1.heap.size s sv 92 #[.int .i64 k, .string x, .string y, .string z, .int .i64 0] (thenT s 32 (thenT s 32 (thenT s 16 (ofKind s p 4))))) ?_ fun W hW => ?_
    · exact ⟨hr6.out, hL6.out, by omega, hc6.out⟩
    clear d0 d1 g1 hT5 hL5 hLL5 hT6 hL6 hLL6
    have hO4 := hOW.out _ hW.chg
    have c0 := hO4.cell 1
    have f0 := hO4.frozen 1
    have hrb4 := hW.new
    have d0 := hW.blk.cell 0
    have d1 := hW.blk.cell 1
    have d2 := hW.blk.cell 2
    have d3 := hW.blk.cell 3
    have d4 := hW.blk.cell 4
    have hne4 : some ob ≠ (Value.slice A0 n0 p0).ownBlock := fun e => own_blk_ne (hoW.out _ hW.chg) hO4 (by decide) e.symm
    have hown4 := Lib.hid (fun W' (hW' : Below W.heap.size W W') => own_under (hoW.out _ hW.chg) hW')
    have hrd := Lib.hid (fun (W' : World) (hW' : W'.heap.size = W.heap.size) => (by have h1 := readsN W' 92 #[.int .i64 k, .string x, .string y, .string z, .int .i64 0] 5 rfl; rw [hW'] at h1; exact h1 : Reads (W'.alloc (.cells #[.int .i64 k, .string x, .string y, .string z, .int .i64 0] 92)) (W.heap.size + 1) 5 (some ⟨W.heap.size, 0, none⟩) 1 [.int .i64 k, .string x, .string y, .string z, .int .i64 0]))
    have hO4' := Lib.hid (fun W' (hW' : Below W.heap.size W W') => (hO4.below hW' hO4.lt : Blk W' ob 44 #[tv, .slice A0 n0 p0]))
    have hszW := hW.chg.size
    have obW := hO4.lt
    have lbW := hW.blk.lt
    replace hO4 := Lib.hid hO4
    replace hW := Lib.hid hW
    replace hne4 := Lib.hid hne4
    clear hT2 hL2 hL3
    go_region_law (refine step_append_any _ rfl (.tmp 57) (.tmp 59) 42 rfl B 92 i0 (.agg #[.int .i64 0, .string ⟨#[]⟩, .string ⟨#[]⟩, .string ⟨#[]⟩, .int .i64 0]) 5 64 Tryd.underlying42 hi hz0 hz1 hz2 rfl (by decide) (.slice A0 n0 p0) n xs (by simp [Act.eval]) (hown4.out _ (by (repeat first | exact Below.refl _ _ | assumption | refine Below.drew ?_ | refine below_drewN ?_ _ | refine Below.more_ ?_ _ | refine Below.setCell ?_ (by first | exact Nat.le_refl _ | (simp; done) | (simp; omega)) _))) (W.heap.size + 1) (some ⟨W.heap.size, 0, none⟩) 1 1 [.int .i64 k, .string x, .string y, .string z, .int .i64 0] (by simp [Act.eval]) (hrd.out _ (by simp)) (by simp [Value.oneCell']) (by unfold maxLen; omega) (by omega) (by simp; omega) ?_; intro v' w5 hown5 hgrow hloc; obtain ⟨gg, cp, rfl⟩ := ownSucc hown5; have B5 := Blk.grown (hO4'.out _ (by (repeat first | exact Below.refl _ _ | assumption | refine Below.drew ?_ | refine below_drewN ?_ _ | refine Below.more_ ?_ _ | refine Below.setCell ?_ (by first | exact Nat.le_refl _ | (simp; done) | (simp; omega)) _))) hgrow hne4.out; have c0' := B5.cell 1; have f0' := B5.frozen 1; replace B5 := Lib.hid B5; replace hown5 := Lib.hid hown5; replace hgrow := Lib.hid hgrow; replace hloc := Lib.hid hloc)
    all_goals
      go_wp2_with fail
      have hR : ∀ w6, Chg (fun k => k = ob) w5 w6 → Blk w6 ob 44 #[tv, .slice (some ⟨gg, 0, none⟩) (n + 1) cp] → _ := fun w6 hc hB => hfin.out W w5 w6 _ _ _ [.int .i64 k, .string x, .string y, .string z, .int .i64 0] _ hW.out _ (by (repeat first | exact Below.refl _ _ | assumption | refine Below.drew ?_ | refine below_drewN ?_ _ | refine Below.more_ ?_ _ | refine Below.setCell ?_ (by first | exact Nat.le_refl _ | (simp; done) | (simp; omega)) _)) hown5.out hgrow.out hloc.out hB hc
      refine bodyPost_end (v := .tuple #[]) (results_none (by kernel_rfl) _ _ _) rfl ⟨rfl, k, x, y, z, 0, by omega, ⟨hk1.out, hk0.out, hx'.out, fun h0 => absurd h0 (by have := hk.out; omega), fun h0 => absurd h0 (by have := hk.out; omega), fun _ => hy5.out, fun _ => hy6.out, fun _ h0 => absurd hk.out h0, fun h0 => absurd hk.out h0, fun _ => rfl⟩, ?_⟩
      exact (show sRes s p k = thenT s 32 (thenT s 32 (thenT s 16 (ofKind s p 4))) from by unfold sRes; rw [if_neg (by have := hk.out; omega), if_neg (by have := hk.out; omega), if_pos hk.out]).symm ▸ hR _ (by (repeat first | exact Chg.refl _ _ | assumption | refine Chg.drew ?_ | refine Chg.drewN ?_ _ | refine Chg.alloc ?_ _ | refine Chg.setCell ?_ (by first | (left; rfl) | (left; assumption) | (right; exact Nat.le_refl _) | (right; simp; done) | (right; simp; omega)) _ | refine Chg.setBlock ?_ (by first | (left; rfl) | (left; assumption) | (right; exact Nat.le_refl _) | (right; simp; done) | (right; simp; omega)) _)) (Blk.eq_cs (B5.out.set_ 1 _) rfl)
  · have kb1 : ((k : Int) == 1) = false := beq_eq_false_iff_ne.2 (by omega)
    have kb3 : ((k : Int) == 3) = false := beq_eq_false_iff_ne.2 (by omega)
    have kb4 : ((k : Int) == 4) = false := beq_eq_false_iff_ne.2 (by omega)
    replace hk := Lib.hid hk
    replace hk' := Lib.hid hk'
    replace hk'' := Lib.hid hk''
    replace hr4 := Lib.hid hr4
    replace hc4 := Lib.hid hc4
    replace hL4 := Lib.hid hL4
    have hll4 : w1.heap.size < w3.heap.size := hl3
    go_wp2_with fail
    refine code_world (fun W => GPre w W rb w1.heap.size s sv 92 #[.int .i64 k, .string x, .string ⟨#[]⟩, .string ⟨#[]⟩, .int .i64 0] (thenT s 16 (ofKind s p 4))) ?_ fun W hW => ?_
    · exact ⟨hr4.out, hL4.out, by omega, hc4.out⟩
    clear d0 d1 g1
    have hO4 := hOW.out _ hW.chg
    have c0 := hO4.cell 1
    have f0 := hO4.frozen 1
    have hrb4 := hW.new
    have d0 := hW.blk.cell 0
    have d1 := hW.blk.cell 1
    have d2 := hW.blk.cell 2
    have d3 := hW.blk.cell 3
    have d4 := hW.blk.cell 4
    have hne4 : some ob ≠ (Value.slice A0 n0 p0).ownBlock := fun e => own_blk_ne (hoW.out _ hW.chg) hO4 (by decide) e.symm
    have hown4 := Lib.hid (fun W' (hW' : Below W.heap.size W W') => own_under (hoW.out _ hW.chg) hW')
    have hrd := Lib.hid (fun (W' : World) (hW' : W'.heap.size = W.heap.size) => (by have h1 := readsN W' 92 #[.int .i64 k, .string x, .string ⟨#[]⟩, .string ⟨#[]⟩, .int .i64 0] 5 rfl; rw [hW'] at h1; exact h1 : Reads (W'.alloc (.cells #[.int .i64 k, .string x, .string ⟨#[]⟩, .string ⟨#[]⟩, .int .i64 0] 92)) (W.heap.size + 1) 5 (some ⟨W.heap.size, 0, none⟩) 1 [.int .i64 k, .string x, .string ⟨#[]⟩, .string ⟨#[]⟩, .int .i64 0]))
    have hO4' := Lib.hid (fun W' (hW' : Below W.heap.size W W') => (hO4.below hW' hO4.lt : Blk W' ob 44 #[tv, .slice A0 n0 p0]))
    have hszW := hW.chg.size
    have obW := hO4.lt
    have lbW := hW.blk.lt
    replace hO4 := Lib.hid hO4
    replace hW := Lib.hid hW
    replace hne4 := Lib.hid hne4
    clear hT2 hL2 hL3
    go_region_law (refine step_append_any _ rfl (.tmp 57) (.tmp 59) 42 rfl B 92 i0 (.agg #[.int .i64 0, .string ⟨#[]⟩, .string ⟨#[]⟩, .string ⟨#[]⟩, .int .i64 0]) 5 64 Tryd.underlying42 hi hz0 hz1 hz2 rfl (by decide) (.slice A0 n0 p0) n xs (by simp [Act.eval]) (hown4.out _ (by (repeat first | exact Below.refl _ _ | assumption | refine Below.drew ?_ | refine below_drewN ?_ _ | refine Below.more_ ?_ _ | refine Below.setCell ?_ (by first | exact Nat.le_refl _ | (simp; done) | (simp; omega)) _))) (W.heap.size + 1) (some ⟨W.heap.size, 0, none⟩) 1 1 [.int .i64 k, .string x, .string ⟨#[]⟩, .string ⟨#[]⟩, .int .i64 0] (by simp [Act.eval]) (hrd.out _ (by simp)) (by simp [Value.oneCell']) (by unfold maxLen; omega) (by omega) (by simp; omega) ?_; intro v' w5 hown5 hgrow hloc; obtain ⟨gg, cp, rfl⟩ := ownSucc hown5; have B5 := Blk.grown (hO4'.out _ (by (repeat first | exact Below.refl _ _ | assumption | refine Below.drew ?_ | refine below_drewN ?_ _ | refine Below.more_ ?_ _ | refine Below.setCell ?_ (by first | exact Nat.le_refl _ | (simp; done) | (simp; omega)) _))) hgrow hne4.out; have c0' := B5.cell 1; have f0' := B5.frozen 1; replace B5 := Lib.hid B5; replace hown5 := Lib.hid hown5; replace hgrow := Lib.hid hgrow; replace hloc := Lib.hid hloc)
    all_goals
      go_wp2_with fail
      have hR : ∀ w6, Chg (fun k => k = ob) w5 w6 → Blk w6 ob 44 #[tv, .slice (some ⟨gg, 0, none⟩) (n + 1) cp] → _ := fun w6 hc hB => hfin.out W w5 w6 _ _ _ [.int .i64 k, .string x, .string ⟨#[]⟩, .string ⟨#[]⟩, .int .i64 0] _ hW.out _ (by (repeat first | exact Below.refl _ _ | assumption | refine Below.drew ?_ | refine below_drewN ?_ _ | refine Below.more_ ?_ _ | refine Below.setCell ?_ (by first | exact Nat.le_refl _ | (simp; done) | (simp; omega)) _)) hown5.out hgrow.out hloc.out hB hc
      refine bodyPost_end (v := .tuple #[]) (results_none (by kernel_rfl) _ _ _) rfl ⟨rfl, k, x, ⟨#[]⟩, ⟨#[]⟩, 0, by omega, ⟨hk1.out, hk0.out, hx'.out, fun h0 => absurd h0 hk.out, fun h0 => absurd h0 hk'.out, fun h0 => absurd h0 hk''.out, fun h0 => absurd h0 hk''.out, fun _ _ => rfl, fun _ => rfl, fun _ => rfl⟩, ?_⟩
      exact (show sRes s p k = thenT s 16 (ofKind s p 4) from by unfold sRes; rw [if_neg hk.out, if_neg hk'.out, if_neg hk''.out]).symm ▸ hR _ (by (repeat first | exact Chg.refl _ _ | assumption | refine Chg.drew ?_ | refine Chg.drewN ?_ _ | refine Chg.alloc ?_ _ | refine Chg.setCell ?_ (by first | (left; rfl) | (left; assumption) | (right; exact Nat.le_refl _) | (right; simp; done) | (right; simp; omega)) _ | refine Chg.setBlock ?_ (by first | (left; rfl) | (left; assumption) | (right; exact Nat.le_refl _) | (right; simp; done) | (right; simp; omega)) _)) (Blk.eq_cs (B5.out.set_ 1 _) rfl)
end Go.Proofs.YtpmnppjiipbonaaDoor
