/-
  opcode's reader: guard. No condition.
-/
import Derived.Test.YtpmnppjiipbonaaDoorRds
namespace Go.Proofs.YtpmnppjiipbonaaDoor
set_option linter.unusedVariables false
open Go.RowKit Go.Extern.Stop Go.Stop Go.Extern Go.ChangeShapes

theorem code_world {α : World → Prop} (Pw : World → Prop) {W : World} (h : Pw W) (k : ∀ W', Pw W' → α W') : α W := k W h
/-- The world ahead of the append: the reader, the part, what else there was. -/
structure GPre (w W : World) (rb lb : Nat) (s : ByteArray) (sv : Nat → Addr) (t : TypeId) (cs : Array Value) (r : Except (Int × Int) Int) : Prop where
  rs : RS W rb s sv r
  blk : Blk W lb t cs
  new : w.heap.size ≤ lb
  chg : Chg (fun k => k = rb) w W
/-- Behind the append and its store. -/
theorem part_fin {w W w5 w6 : World} {rb ob lb B : Nat} {s : ByteArray} {sv : Nat → Addr} {te : TypeId} {size n : Nat} {v v' : Value} {xs cs : List Value} {cl : Array Value} {mk : Value → Array Value} {r : Except (Int × Int) Int}
    (hob : Blk w ob 44 (mk v)) (hown : w.ownsRow B te size v n xs) (hte : te ≠ 44 ∧ te ≠ 101 ∧ te ≠ 111) (hrb : ∃ q u, Rd w rb s q u)
    (hP : GPre w W rb lb s sv te cl r) (W' : World) (hW' : Below W.heap.size W W') (hown5 : w5.ownsRow B te size v' (n + 1) (xs ++ cs)) (hg : W'.grownBy w5 v.ownBlock) (hloc : v'.ownBlock = v.ownBlock ∨ v'.ownBlock = some W'.heap.size)
    (h6 : Blk w6 ob 44 (mk v')) (hc6 : Chg (fun k => k = ob) w5 w6) : PtOut w w6 rb ob B s sv te size v n xs cs mk r := by
  obtain ⟨q0, u0, hR0⟩ := hrb
  have hne : v.ownBlock ≠ some ob := own_blk_ne hown hob hte.1
  have hsz := hP.chg.size
  have hobl := hob.lt
  have hsz' := hW'.size
  refine ⟨hP.rs.keep fun b t cs ht hB => ?_, ⟨v', h6, ?_, fun g hg' => ?_⟩, ?_⟩
  · have h1 : Blk w5 b t cs := Blk.grown (hB.below hW' hB.lt) hg (fun e => ?_)
    · have hbo : b ≠ ob := fun e => by
        subst e
        have hobW : Blk W b 44 (mk v) := Blk.keep hob (hP.chg.block b hobl fun e => (Blk.ne_ hob (show Blk w rb 101 _ from hR0) (by decide)) e)
        rcases ht with rfl | rfl
        · exact Blk.ne_ hobW hB (by decide) rfl
        · exact Blk.ne_ hobW hB (by decide) rfl
      exact Blk.keep h1 (hc6.block b h1.lt hbo)
    · have hlt := (World.ownsRow.lt hown b e.symm)
      have hWown : W.ownsRow B te size v n xs := ownKeep hown fun g hg' => hP.chg.block g (World.ownsRow.lt hown g hg').2 fun e' => by
        subst e'
        exact own_blk_ne hown (show Blk w _ 101 _ from hR0) hte.2.1 hg'
      refine own_blk_ne hWown hB ?_ e.symm
      rcases ht with rfl | rfl
      · exact hte.2.1
      · exact hte.2.2
  · refine ownKeep hown5 fun g hg' => hc6.block g (World.ownsRow.lt hown5 g hg').2 fun e => ?_
    subst e
    rcases hloc with h | h
    · rw [h] at hg'; exact hne hg'
    · rw [h] at hg'
      injection hg' with hg'
      omega
  · rcases hloc with h | h
    · rw [h] at hg'; exact .inl hg'
    · rw [h] at hg'
      injection hg' with hg'
      right; omega
  · have hc5 : Chg (fun k => k = rb ∨ k = ob ∨ v.ownBlock = some k) w w5 := by
      have h1 : Chg (fun k => v.ownBlock = some k) W' w5 := ⟨hg.os, hg.tape, hg.output, hg.size, fun k hk hn => hg.block k hk fun e => hn e.symm⟩
      exact Chg.trans ((hP.chg.next_ hW').mono fun i hi => .inl hi) h1 fun i hi => .inl (.inr (.inr hi))
    exact hc5.trans hc6 fun i hi => .inl (.inr (.inl hi))
/-- What guard has read. -/
def gRes (s : ByteArray) (p : Int) (k : Nat) : Except (Int × Int) Int := if k = 3 then thenT s 32 (thenT s 16 (ofKind s p 3)) else thenT s 16 (ofKind s p 3)
set_option maxRecDepth 100000 in
set_option maxHeartbeats 4000000 in
theorem guard_any {w : World} {sv : Nat → Addr} (S : Sent w sv) (rb ob B : Nat) (s : ByteArray) (p : Int) (hs : s.size ≤ 1000000) (h : Rd w rb s p .nilIface) (gv tv : Value) (n : Nat) (xs : List Value)
    (hO : Blk w ob 44 #[gv, tv]) (hown : w.ownsRow B 90 3 gv n xs) (hn : n ≤ 1000) (hB : B ≤ w.heap.size) :
    Calls Tryd.prog 55 #[.pointer (some ⟨rb, 0, none⟩), .pointer (some ⟨ob, 0, none⟩)] w fun e w' => e = .returned (.tuple #[]) ∧ ∃ (k : Nat) (x y : ByteArray), k ≤ 3 ∧ (∀ z, knd s p 3 = .ok z → k = z.1) ∧ (∀ c, knd s p 3 = .error c → k = 0) ∧ (∀ q, ofKind s p 3 = .ok q → (tkt s q 16).2.2 = 0 → x = (tkt s q 16).1) ∧ (k = 3 → ∀ q, thenT s 16 (ofKind s p 3) = .ok q → (tkt s q 32).2.2 = 0 → y = (tkt s q 32).1) ∧ (k ≠ 3 → y = ⟨#[]⟩) ∧
      PtOut w w' rb ob B s sv 90 3 gv n xs [.int .i64 k, .string x, .string y] (fun v => #[v, tv]) (gRes s p k) := by
  obtain ⟨i0, hi, hz0, hz1, hz2⟩ := info_parts infoGd
  have hK := Lib.hid (kind_rs S rb s p 3 hs (by decide) h)
  have hrl := h.lt
  have hor : ob ≠ rb := Blk.ne_ hO (show Blk w rb 101 _ from h) (by decide)
  have hSn := Lib.hid (fun W q u (hR : Rd W rb s q u) (hW : Chg (fun k => k = rb) w W) => sent_chg S h hR hW)
  have hOW := Lib.hid (fun W (hW : Chg (fun k => k = rb) w W) => (Blk.keep hO (hW.block ob hO.lt hor) : Blk W ob 44 #[gv, tv]))
  have hoW := Lib.hid (fun W (hW : Chg (fun k => k = rb) w W) => (ownKeep hown fun g hg' => hW.block g (World.ownsRow.lt hown g hg').2 fun e' => by
        subst e'
        exact own_blk_ne hown (show Blk w _ 101 _ from h) (by decide) hg' : W.ownsRow B 90 3 gv n xs))
  have hfin := Lib.hid (fun W w5 w6 lb v' cl cs r => part_fin (w := w) (W := W) (w5 := w5) (w6 := w6) (rb := rb) (ob := ob) (lb := lb) (B := B) (s := s) (sv := sv) (te := 90) (size := 3) (n := n) (v := gv) (v' := v') (xs := xs) (cs := cs) (cl := cl) (mk := fun v => #[v, tv]) (r := r) hO hown (by decide) ⟨_, _, h⟩)
  have hobl := hO.lt
  obtain ⟨A0, n0, p0, rfl⟩ : ∃ A n0 c, gv = .slice A n0 c := by rcases hown.2 with ⟨rfl, _⟩ | ⟨g, cap, cur, rfl, _⟩ <;> exact ⟨_, _, _, rfl⟩
  replace hown := Lib.hid hown
  replace hO := Lib.hid hO
  replace h := Lib.hid h
  replace hor := Lib.hid hor
  clear S
  go_enter Tryd.func55, Tryd.ntmps55
  go_wp2_with fail
  refine (hK.out).mono ?_; rintro e w1 ⟨k, rfl, hk3, hr1, hk1, hk0, hc1⟩
  have hs1 := hc1.size
  have hr2 := hr1.below (w' := w1.alloc (.cells #[.int .i64 k, .string ⟨#[]⟩, .string ⟨#[]⟩] 90)) ((Below.refl _ _).alloc (Nat.le_refl _) _)
  have hc2 := hc1.alloc (.cells #[.int .i64 k, .string ⟨#[]⟩, .string ⟨#[]⟩] 90)
  obtain ⟨q2, u2, hR2⟩ := hr2.rd
  have hT2 := Lib.hid (text_rs (hSn.out _ _ _ hR2 hc2) rb s 16 _ hs (by decide) hr2)
  have hL2 := Lib.hid (Blk.new w1 90 #[.int .i64 k, .string ⟨#[]⟩, .string ⟨#[]⟩])
  replace hr1 := Lib.hid hr1
  replace hr2 := Lib.hid hr2
  replace hR2 := Lib.hid hR2
  replace hc1 := Lib.hid hc1
  replace hc2 := Lib.hid hc2
  replace hk1 := Lib.hid hk1
  replace hk0 := Lib.hid hk0
  go_wp2_with fail
  refine (hT2.out).mono ?_; rintro e w3 ⟨x, rfl, hr3, hx, hc3⟩
  have hlr : w1.heap.size ≠ rb := by omega
  have hL3 := Lib.hid (Blk.keep hL2.out (hc3.block w1.heap.size (by simp) hlr))
  have d0 := hL3.out.cell 0
  have d1 := hL3.out.cell 1
  have d2 := hL3.out.cell 2
  have g1 := hL3.out.frozen 1
  have hr3' := Lib.hid hr3
  have hc3' := Lib.hid (Chg.trans hc2.out hc3 fun i hi => .inl hi)
  have hx' : ∀ q, ofKind s p 3 = .ok q → (tkt s q 16).2.2 = 0 → x = (tkt s q 16).1 := hx
  have hs3 := hc3'.out.size
  have hl3 := hL3.out.lt
  have hr4 : RS (w3.setCell ⟨w1.heap.size, 1, none⟩ (.string x)) rb s sv (thenT s 16 (ofKind s p 3)) := hr3'.out.keep fun b t cs ht hB => hB.far (fun e => by
    have hL := hL3.out
    simp only at e
    rw [← e] at hL
    rcases ht with rfl | rfl
    · exact Blk.ne_ hL hB (by decide) rfl
    · exact Blk.ne_ hL hB (by decide) rfl) _
  have hc4 : Chg (fun k => k = rb) w (w3.setCell ⟨w1.heap.size, 1, none⟩ (.string x)) := hc3'.out.setCell (.inr (by simp only; omega)) _
  have hL4 : Blk (w3.setCell ⟨w1.heap.size, 1, none⟩ (.string x)) w1.heap.size 90 #[.int .i64 k, .string x, .string ⟨#[]⟩] := Blk.eq_cs (Blk.set_ hL3.out 1 _) rfl
  by_cases hk : k = 3
  · have hkb : ((k : Int) == 3) = true := beq_iff_eq.2 (by omega)
    replace hk := Lib.hid hk
    obtain ⟨q4, u4, hR4⟩ := hr4.rd
    have hT4 := Lib.hid (text_rs (hSn.out _ _ _ hR4 hc4) rb s 32 _ hs (by decide) hr4)
    replace hr4 := Lib.hid hr4
    replace hc4 := Lib.hid hc4
    replace hL4 := Lib.hid hL4
    replace hR4 := Lib.hid hR4
    replace hx' := Lib.hid hx'
    clear hr3 hx hc3
    go_wp2_with fail
    refine (hT4.out).mono ?_; rintro e w4 ⟨y, rfl, hr5, hy, hc5⟩
    clear d0 d1 d2 g1
    have hc5' := Lib.hid (Chg.trans hc4.out hc5 fun i hi => .inl hi)
    have hL5 := Lib.hid (Blk.keep hL4.out (hc5.block w1.heap.size (by rw [size_setCell]; exact hl3) hlr))
    have hl5 := hL5.out.lt
    have hs5 := hc5'.out.size
    have d0 := hL5.out.cell 0
    have d1 := hL5.out.cell 1
    have d2 := hL5.out.cell 2
    have g2 := hL5.out.frozen 2
    replace hr5 := Lib.hid hr5
    replace hy := Lib.hid hy
    replace hc5 := Lib.hid hc5
    go_wp2_with fail
    refine code_world (fun W => GPre w W rb w1.heap.size s sv 90 #[.int .i64 k, .string x, .string y] (thenT s 32 (thenT s 16 (ofKind s p 3)))) ?_ fun W hW => ?_
    · exact ⟨hr5.out.keep fun b t cs ht hB => hB.far (fun e => by
        have hL := hL5.out
        simp only at e
        rw [← e] at hL
        rcases ht with rfl | rfl
        · exact Blk.ne_ hL hB (by decide) rfl
        · exact Blk.ne_ hL hB (by decide) rfl) _, Blk.eq_cs (Blk.set_ hL5.out 2 _) rfl, by omega, hc5'.out.setCell (.inr (by simp only; omega)) _⟩
    clear d0 d1 d2 g2 hT4 hL5
    have hO4 := hOW.out _ hW.chg
    have c0 := hO4.cell 0
    have f0 := hO4.frozen 0
    have hrb4 := hW.new
    have d0 := hW.blk.cell 0
    have d1 := hW.blk.cell 1
    have d2 := hW.blk.cell 2
    have hne4 : some ob ≠ (Value.slice A0 n0 p0).ownBlock := fun e => own_blk_ne (hoW.out _ hW.chg) hO4 (by decide) e.symm
    have hown4 := Lib.hid (fun W' (hW' : Below W.heap.size W W') => own_under (hoW.out _ hW.chg) hW')
    have hrd := Lib.hid (fun (W' : World) (hW' : W'.heap.size = W.heap.size) => (by have h1 := readsN W' 90 #[.int .i64 k, .string x, .string y] 3 rfl; rw [hW'] at h1; exact h1 : Reads (W'.alloc (.cells #[.int .i64 k, .string x, .string y] 90)) (W.heap.size + 1) 3 (some ⟨W.heap.size, 0, none⟩) 1 [.int .i64 k, .string x, .string y]))
    have hO4' := Lib.hid (fun W' (hW' : Below W.heap.size W W') => (hO4.below hW' hO4.lt : Blk W' ob 44 #[.slice A0 n0 p0, tv]))
    have hszW := hW.chg.size
    have obW := hO4.lt
    have lbW := hW.blk.lt
    replace hO4 := Lib.hid hO4
    replace hW := Lib.hid hW
    replace hne4 := Lib.hid hne4
    clear hT2 hL2 hL3
    go_region_law (refine step_append_any _ rfl (.tmp 21) (.tmp 23) 41 rfl B 90 i0 (.agg #[.int .i64 0, .string ⟨#[]⟩, .string ⟨#[]⟩]) 3 40 Tryd.underlying41 hi hz0 hz1 hz2 rfl (by decide) (.slice A0 n0 p0) n xs (by simp [Act.eval]) (hown4.out _ (by (repeat first | exact Below.refl _ _ | assumption | refine Below.drew ?_ | refine below_drewN ?_ _ | refine Below.more_ ?_ _ | refine Below.setCell ?_ (by first | exact Nat.le_refl _ | (simp; done) | (simp; omega)) _))) (W.heap.size + 1) (some ⟨W.heap.size, 0, none⟩) 1 1 [.int .i64 k, .string x, .string y] (by simp [Act.eval]) (hrd.out _ (by simp)) (by simp [Value.oneCell']) (by unfold maxLen; omega) (by omega) (by simp; omega) ?_; intro v' w5 hown5 hgrow hloc; obtain ⟨gg, cp, rfl⟩ := ownSucc hown5; have B5 := Blk.grown (hO4'.out _ (by (repeat first | exact Below.refl _ _ | assumption | refine Below.drew ?_ | refine below_drewN ?_ _ | refine Below.more_ ?_ _ | refine Below.setCell ?_ (by first | exact Nat.le_refl _ | (simp; done) | (simp; omega)) _))) hgrow hne4.out; have c0' := B5.cell 0; have f0' := B5.frozen 0; replace B5 := Lib.hid B5; replace hown5 := Lib.hid hown5; replace hgrow := Lib.hid hgrow; replace hloc := Lib.hid hloc)
    all_goals
      go_wp2_with fail
      have hR : ∀ w6, Chg (fun k => k = ob) w5 w6 → Blk w6 ob 44 #[.slice (some ⟨gg, 0, none⟩) (n + 1) cp, tv] → _ := fun w6 hc hB => hfin.out W w5 w6 _ _ _ [.int .i64 k, .string x, .string y] _ hW.out _ (by (repeat first | exact Below.refl _ _ | assumption | refine Below.drew ?_ | refine below_drewN ?_ _ | refine Below.more_ ?_ _ | refine Below.setCell ?_ (by first | exact Nat.le_refl _ | (simp; done) | (simp; omega)) _)) hown5.out hgrow.out hloc.out hB hc
      refine bodyPost_end (v := .tuple #[]) (results_none (by kernel_rfl) _ _ _) rfl ⟨rfl, k, x, y, by omega, hk1.out, hk0.out, hx'.out, fun _ => hy.out, fun h0 => absurd hk.out h0, ?_⟩
      exact (show gRes s p k = thenT s 32 (thenT s 16 (ofKind s p 3)) from if_pos hk.out).symm ▸ hR _ (by (repeat first | exact Chg.refl _ _ | assumption | refine Chg.drew ?_ | refine Chg.drewN ?_ _ | refine Chg.alloc ?_ _ | refine Chg.setCell ?_ (by first | (left; rfl) | (left; assumption) | (right; exact Nat.le_refl _) | (right; simp; done) | (right; simp; omega)) _ | refine Chg.setBlock ?_ (by first | (left; rfl) | (left; assumption) | (right; exact Nat.le_refl _) | (right; simp; done) | (right; simp; omega)) _)) (Blk.eq_cs (B5.out.set_ 0 _) rfl)
  · have hkb : ((k : Int) == 3) = false := beq_eq_false_iff_ne.2 (by omega)
    replace hr4 := Lib.hid hr4
    replace hc4 := Lib.hid hc4
    replace hL4 := Lib.hid hL4
    replace hx' := Lib.hid hx'
    clear hr3 hx hc3
    go_wp2_with fail
    refine code_world (fun W => GPre w W rb w1.heap.size s sv 90 #[.int .i64 k, .string x, .string ⟨#[]⟩] (thenT s 16 (ofKind s p 3))) ?_ fun W hW => ?_
    · exact ⟨hr4.out, hL4.out, by omega, hc4.out⟩
    clear d0 d1 d2 g1
    have hO4 := hOW.out _ hW.chg
    have c0 := hO4.cell 0
    have f0 := hO4.frozen 0
    have hrb4 := hW.new
    have d0 := hW.blk.cell 0
    have d1 := hW.blk.cell 1
    have d2 := hW.blk.cell 2
    have hne4 : some ob ≠ (Value.slice A0 n0 p0).ownBlock := fun e => own_blk_ne (hoW.out _ hW.chg) hO4 (by decide) e.symm
    have hown4 := Lib.hid (fun W' (hW' : Below W.heap.size W W') => own_under (hoW.out _ hW.chg) hW')
    have hrd := Lib.hid (fun (W' : World) (hW' : W'.heap.size = W.heap.size) => (by have h1 := readsN W' 90 #[.int .i64 k, .string x, .string ⟨#[]⟩] 3 rfl; rw [hW'] at h1; exact h1 : Reads (W'.alloc (.cells #[.int .i64 k, .string x, .string ⟨#[]⟩] 90)) (W.heap.size + 1) 3 (some ⟨W.heap.size, 0, none⟩) 1 [.int .i64 k, .string x, .string ⟨#[]⟩]))
    have hO4' := Lib.hid (fun W' (hW' : Below W.heap.size W W') => (hO4.below hW' hO4.lt : Blk W' ob 44 #[.slice A0 n0 p0, tv]))
    have hszW := hW.chg.size
    have obW := hO4.lt
    have lbW := hW.blk.lt
    replace hO4 := Lib.hid hO4
    replace hW := Lib.hid hW
    replace hne4 := Lib.hid hne4
    clear hT2 hL2 hL3
    go_region_law (refine step_append_any _ rfl (.tmp 21) (.tmp 23) 41 rfl B 90 i0 (.agg #[.int .i64 0, .string ⟨#[]⟩, .string ⟨#[]⟩]) 3 40 Tryd.underlying41 hi hz0 hz1 hz2 rfl (by decide) (.slice A0 n0 p0) n xs (by simp [Act.eval]) (hown4.out _ (by (repeat first | exact Below.refl _ _ | assumption | refine Below.drew ?_ | refine below_drewN ?_ _ | refine Below.more_ ?_ _ | refine Below.setCell ?_ (by first | exact Nat.le_refl _ | (simp; done) | (simp; omega)) _))) (W.heap.size + 1) (some ⟨W.heap.size, 0, none⟩) 1 1 [.int .i64 k, .string x, .string ⟨#[]⟩] (by simp [Act.eval]) (hrd.out _ (by simp)) (by simp [Value.oneCell']) (by unfold maxLen; omega) (by omega) (by simp; omega) ?_; intro v' w5 hown5 hgrow hloc; obtain ⟨gg, cp, rfl⟩ := ownSucc hown5; have B5 := Blk.grown (hO4'.out _ (by (repeat first | exact Below.refl _ _ | assumption | refine Below.drew ?_ | refine below_drewN ?_ _ | refine Below.more_ ?_ _ | refine Below.setCell ?_ (by first | exact Nat.le_refl _ | (simp; done) | (simp; omega)) _))) hgrow hne4.out; have c0' := B5.cell 0; have f0' := B5.frozen 0; replace B5 := Lib.hid B5; replace hown5 := Lib.hid hown5; replace hgrow := Lib.hid hgrow; replace hloc := Lib.hid hloc)
    all_goals
      go_wp2_with fail
      have hR : ∀ w6, Chg (fun k => k = ob) w5 w6 → Blk w6 ob 44 #[.slice (some ⟨gg, 0, none⟩) (n + 1) cp, tv] → _ := fun w6 hc hB => hfin.out W w5 w6 _ _ _ [.int .i64 k, .string x, .string ⟨#[]⟩] _ hW.out _ (by (repeat first | exact Below.refl _ _ | assumption | refine Below.drew ?_ | refine below_drewN ?_ _ | refine Below.more_ ?_ _ | refine Below.setCell ?_ (by first | exact Nat.le_refl _ | (simp; done) | (simp; omega)) _)) hown5.out hgrow.out hloc.out hB hc
      refine bodyPost_end (v := .tuple #[]) (results_none (by kernel_rfl) _ _ _) rfl ⟨rfl, k, x, ⟨#[]⟩, by omega, hk1.out, hk0.out, hx'.out, fun h0 => absurd h0 hk, fun _ => rfl, ?_⟩
      exact (show gRes s p k = thenT s 16 (ofKind s p 3) from if_neg hk).symm ▸ hR _ (by (repeat first | exact Chg.refl _ _ | assumption | refine Chg.drew ?_ | refine Chg.drewN ?_ _ | refine Chg.alloc ?_ _ | refine Chg.setCell ?_ (by first | (left; rfl) | (left; assumption) | (right; exact Nat.le_refl _) | (right; simp; done) | (right; simp; omega)) _ | refine Chg.setBlock ?_ (by first | (left; rfl) | (left; assumption) | (right; exact Nat.le_refl _) | (right; simp; done) | (right; simp; omega)) _)) (Blk.eq_cs (B5.out.set_ 0 _) rfl)
end Go.Proofs.YtpmnppjiipbonaaDoor
