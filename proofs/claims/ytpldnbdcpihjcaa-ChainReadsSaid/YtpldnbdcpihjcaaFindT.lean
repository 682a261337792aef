/-
  The routine that looks for a key's shelf (layer 23): what it takes. No condition.
-/
import Derived.Test.YtpldnbdcpihjcaaFind
namespace Go.Proofs.Ytpldnbdcpihjcaa
set_option linter.unusedVariables false
open Go.ChangeShapes Go.WideShapes Go.ChangeAt Go.RowKit
open Go.ChangeMaps (setBlock)

theorem ftxt_ne {x y : ByteArray} (h : x ≠ y) : ¬ x.toList = y.toList := fun e => h (by rw [ByteArray.toList_eq, ByteArray.toList_eq] at e; exact ByteArray.ext (Array.toList_inj.mp e))
set_option maxRecDepth 100000 in
set_option maxHeartbeats 16000000 in
theorem findTake_any {w : World} {b : Nat} {s : PFind} (h : FindIn w b s) (g : PGot) (hg : g.Ok) : Calls Try.prog 19 #[.pointer (some ⟨b, 0, none⟩), g.val] w fun e w' => e = .returned (.tuple #[]) ∧ FindIn w' b (s.take g) ∧ Chg (fun k => k = b) w w' := by
  have hO := fun W (hb : Below w.heap.size w W) => fover_any (h.below hb)
  obtain ⟨gw, gt⟩ := g
  rw [show PGot.val ⟨gw, gt⟩ = .agg #[.int .u64 gw, .string gt] from rfl]
  have hz : Below w.heap.size w (w.alloc (.cells #[.int .u64 gw, .string gt] 45)) := (Below.refl _ _).alloc (Nat.le_refl _) _
  cases hid : s.idle with
  | true =>
    rw [hid] at hO
    have hT : s.take ⟨gw, gt⟩ = s := by unfold PFind.take; rw [if_pos hid]
    rw [hT]
    replace hO := Lib.hid hO
    replace hid := Lib.hid hid
    go_enter Try.func19, Try.ntmps19
    go_wp2
    go_step3
    go_wp2_with fail
    refine (hO.out _ hz).mono ?_; rintro e w1 ⟨rfl, rfl⟩
    go_wp2_with fail
    rw [Exit.noGoto_ret]
    exact bodyPost_ret (v := .tuple #[]) (results_none (by kernel_rfl) _ _ _) rfl ⟨rfl, h.below hz, Chg.of_below hz _⟩
  | false =>
    rw [hid] at hO
    have hmk : s.made = true ∧ s.kind = 0 := by
      have hI : s.idle = (!s.made || s.kind != 0) := rfl
      rw [hid] at hI
      cases hm : s.made with
      | false => rw [hm] at hI; cases hI
      | true => rw [hm] at hI; exact ⟨rfl, by simpa using hI.symm⟩
    have hsh0 := h.free hmk.2
    have hR := h.right hmk.1
    have hi := h.i hmk.1
    have hil := hi.2.2 hmk.2
    have hsr := hR.shelves
    have hSh := fun W (hb : Below w.heap.size w W) => fshelf_any (h.below hb) hmk.1 hmk.2
    have hT : s.take ⟨gw, gt⟩ = if s.block = 0 then (if gw = 0 then { s with kind := 2, shelf := s.place } else { s with block := gw }) else if gt = s.key then { s with kind := 1, shelf := s.place } else if s.i + 1 = s.cfg.shelves then { s with block := 0, i := s.i + 1, kind := 3, shelf := 0 } else { s with block := 0, i := s.i + 1 } := by unfold PFind.take; rw [if_neg (by rw [hid]; simp)]
    rw [hT]
    generalize s.place = pl at *
    have hsum := h.sum
    have hblk := h.block
    have hkey := h.key
    obtain ⟨hm, hk⟩ := hmk
    obtain ⟨⟨a, p, sh, q, t, z⟩, key, sum, i, block, kind, shelf, made⟩ := s
    simp only at hm hk hsh0 hi hil hsr hsum hblk hkey hT ⊢
    subst hm hk hsh0
    have hB : Blk w b 112 #[.int .i64 a, .int .i64 p, .int .i64 sh, .int .i64 q, .int .i64 t, .int .u64 z, .string key, .int .u64 sum, .int .i64 i, .int .u64 block, .int .i64 0, .int .i64 0, .bool true] := h.blk
    have c2 := hB.cell 2
    have c6 := hB.cell 6
    have c8 := hB.cell 8
    have c9 := hB.cell 9
    have c10 := hB.cell 10
    have c11 := hB.cell 11
    have f8 := hB.frozen 8
    have f9 := hB.frozen 9
    have f10 := hB.frozen 10
    have f11 := hB.frozen 11
    have hlt := hB.lt
    have hw : IntKind.i64.wrap (i + 1) = i + 1 := IntWalk.i64_in _ (by omega)
    replace h := Lib.hid h
    replace hB := Lib.hid hB
    replace hT := Lib.hid hT
    replace hO := Lib.hid hO
    replace hSh := Lib.hid hSh
    replace hid := Lib.hid hid
    replace hz := Lib.hid hz
    have hR := Lib.hid hR
    by_cases hb0 : block = 0
    · subst hb0
      simp only [if_true]
      by_cases hg0 : gw = 0
      · subst hg0
        simp only [if_true]
        as_aux_lemma =>
          go_enter Try.func19, Try.ntmps19
          go_wp2
          go_step3
          go_wp2_with fail
          refine (hO.out _ hz.out).mono ?_; rintro e w1 ⟨rfl, rfl⟩
          go_wp2_with fail
          go_step3
          go_wp2_with fail
          go_loopw [30] (fun _ W => W = w.alloc (.cells #[.int .u64 0, .string gt] 45)) (fun _ _ => 0)
          case atStart => exact rfl
          subst hrel
          go_wp2_with fail
          refine (hSh.out _ (by first | exact hz.out | exact hz.out.drew | exact below_drewN hz.out _ | exact (below_drewN hz.out _).drew)).mono ?_; rintro e w1 ⟨rfl, n1, rfl⟩
          go_wp2_with fail
          rw [Exit.noGoto_normal]
          refine gen_world (α := fun W' => bodyPost _ _ _ _ _ W') (fun W' => Blk W' b 112 #[.int .i64 a, .int .i64 p, .int .i64 sh, .int .i64 q, .int .i64 t, .int .u64 z, .string key, .int .u64 sum, .int .i64 i, .int .u64 0, .int .i64 2, .int .i64 pl, .bool true] ∧ Chg (fun k => k = b) w W') ⟨?_, ?_⟩ ?_
          · refine Blk.eq_cs (cs := (((#[.int .i64 a, .int .i64 p, .int .i64 sh, .int .i64 q, .int .i64 t, .int .u64 z, .string key, .int .u64 sum, .int .i64 i, .int .u64 0, .int .i64 0, .int .i64 0, .bool true] : Array Value).setIfInBounds 10 (.int .i64 2)).setIfInBounds 11 (.int .i64 pl))) ?_ rfl
            have hB := hB.out
            (repeat first | with_reducible exact hB | with_reducible refine Blk.drewN ?_ _ | with_reducible refine Blk.drew ?_ | with_reducible refine Blk.alloc ?_ _ | with_reducible refine Blk.set_ ?_ _ _ | refine Blk.far ?_ (by simp; omega) _)
          · have hC := Chg.refl (fun k => k = b) w
            repeat first | with_reducible exact hC | with_reducible refine Chg.drew ?_ | with_reducible refine Chg.drewN ?_ _ | with_reducible refine Chg.alloc ?_ _ | refine Chg.setCell ?_ (by left; rfl) _
          rintro W' ⟨g1, g2⟩
          exact bodyPost_end (v := .tuple #[]) (results_none (by kernel_rfl) _ _ _) rfl ⟨rfl, ⟨g1, fun _ => hR.out, fun _ => ⟨hi.1, hi.2.1, fun _ => hil⟩, hsum, hblk, by show (0 : Int) ≤ 2 ∧ (2 : Int) ≤ 3; decide, fun e => (by cases e), hkey⟩, g2⟩
      · rw [if_neg hg0]
        have d1 : (gw == 0) = false := by simp [hg0]
        replace hg0 := Lib.hid hg0
        as_aux_lemma =>
          go_enter Try.func19, Try.ntmps19
          go_wp2
          go_step3
          go_wp2_with fail
          refine (hO.out _ hz.out).mono ?_; rintro e w1 ⟨rfl, rfl⟩
          go_wp2_with fail
          go_step3
          go_wp2_with fail
          go_loopw [30] (fun _ W => W = w.alloc (.cells #[.int .u64 gw, .string gt] 45)) (fun _ _ => 0)
          case atStart => exact rfl
          subst hrel
          go_wp2_with fail
          rw [Exit.noGoto_normal]
          refine gen_world (α := fun W' => bodyPost _ _ _ _ _ W') (fun W' => Blk W' b 112 #[.int .i64 a, .int .i64 p, .int .i64 sh, .int .i64 q, .int .i64 t, .int .u64 z, .string key, .int .u64 sum, .int .i64 i, .int .u64 gw, .int .i64 0, .int .i64 0, .bool true] ∧ Chg (fun k => k = b) w W') ⟨?_, ?_⟩ ?_
          · refine Blk.eq_cs (cs := ((#[.int .i64 a, .int .i64 p, .int .i64 sh, .int .i64 q, .int .i64 t, .int .u64 z, .string key, .int .u64 sum, .int .i64 i, .int .u64 0, .int .i64 0, .int .i64 0, .bool true] : Array Value).setIfInBounds 9 (.int .u64 gw))) ?_ rfl
            have hB := hB.out
            (repeat first | with_reducible exact hB | with_reducible refine Blk.drewN ?_ _ | with_reducible refine Blk.drew ?_ | with_reducible refine Blk.alloc ?_ _ | with_reducible refine Blk.set_ ?_ _ _ | refine Blk.far ?_ (by simp; omega) _)
          · have hC := Chg.refl (fun k => k = b) w
            repeat first | with_reducible exact hC | with_reducible refine Chg.drew ?_ | with_reducible refine Chg.drewN ?_ _ | with_reducible refine Chg.alloc ?_ _ | refine Chg.setCell ?_ (by left; rfl) _
          rintro W' ⟨g1, g2⟩
          exact bodyPost_end (v := .tuple #[]) (results_none (by kernel_rfl) _ _ _) rfl ⟨rfl, ⟨g1, fun _ => hR.out, fun _ => ⟨hi.1, hi.2.1, fun _ => hil⟩, hsum, hg, by show (0 : Int) ≤ 0 ∧ (0 : Int) ≤ 3; decide, fun _ => rfl, hkey⟩, g2⟩
    · rw [if_neg hb0]
      have d1 : (block == 0) = false := by simp [hb0]
      replace hb0 := Lib.hid hb0
      by_cases hgk : gt = key
      · subst hgk
        simp only [if_true]
        as_aux_lemma =>
          go_enter Try.func19, Try.ntmps19
          go_wp2
          go_step3
          go_wp2_with fail
          refine (hO.out _ hz.out).mono ?_; rintro e w1 ⟨rfl, rfl⟩
          go_wp2_with fail
          go_step3
          go_wp2_with fail
          go_loopw [30] (fun _ W => W = w.alloc (.cells #[.int .u64 gw, .string gt] 45)) (fun _ _ => 0)
          case atStart => exact rfl
          subst hrel
          go_wp2_with fail
          go_quiet (fail)
          go_wp2_with fail
          refine (hSh.out _ (by first | exact hz.out | exact hz.out.drew | exact below_drewN hz.out _ | exact (below_drewN hz.out _).drew)).mono ?_; rintro e w1 ⟨rfl, n1, rfl⟩
          go_wp2_with fail
          rw [Exit.noGoto_normal]
          refine gen_world (α := fun W' => bodyPost _ _ _ _ _ W') (fun W' => Blk W' b 112 #[.int .i64 a, .int .i64 p, .int .i64 sh, .int .i64 q, .int .i64 t, .int .u64 z, .string gt, .int .u64 sum, .int .i64 i, .int .u64 block, .int .i64 1, .int .i64 pl, .bool true] ∧ Chg (fun k => k = b) w W') ⟨?_, ?_⟩ ?_
          · refine Blk.eq_cs (cs := (((#[.int .i64 a, .int .i64 p, .int .i64 sh, .int .i64 q, .int .i64 t, .int .u64 z, .string gt, .int .u64 sum, .int .i64 i, .int .u64 block, .int .i64 0, .int .i64 0, .bool true] : Array Value).setIfInBounds 10 (.int .i64 1)).setIfInBounds 11 (.int .i64 pl))) ?_ rfl
            have hB := hB.out
            (repeat first | with_reducible exact hB | with_reducible refine Blk.drewN ?_ _ | with_reducible refine Blk.drew ?_ | with_reducible refine Blk.alloc ?_ _ | with_reducible refine Blk.set_ ?_ _ _ | refine Blk.far ?_ (by simp; omega) _)
          · have hC := Chg.refl (fun k => k = b) w
            repeat first | with_reducible exact hC | with_reducible refine Chg.drew ?_ | with_reducible refine Chg.drewN ?_ _ | with_reducible refine Chg.alloc ?_ _ | refine Chg.setCell ?_ (by left; rfl) _
          rintro W' ⟨g1, g2⟩
          exact bodyPost_end (v := .tuple #[]) (results_none (by kernel_rfl) _ _ _) rfl ⟨rfl, ⟨g1, fun _ => hR.out, fun _ => ⟨hi.1, hi.2.1, fun _ => hil⟩, hsum, hblk, by show (0 : Int) ≤ 1 ∧ (1 : Int) ≤ 3; decide, fun e => (by cases e), hkey⟩, g2⟩
      · rw [if_neg hgk]
        have d2 := ftxt_ne hgk
        have d2b : (gt.toList == key.toList) = false := by rw [beq_eq_false_iff_ne]; exact d2
        replace hgk := Lib.hid hgk
        by_cases hie : i + 1 = sh
        · rw [if_pos hie]
          have d3 : (i + 1 == sh) = true := by simp [hie]
          have hie2 := Lib.hid hie
          clear hie
          as_aux_lemma =>
            go_enter Try.func19, Try.ntmps19
            go_wp2
            go_step3
            go_wp2_with fail
            refine (hO.out _ hz.out).mono ?_; rintro e w1 ⟨rfl, rfl⟩
            go_wp2_with fail
            go_step3
            go_wp2_with fail
            go_loopw [30] (fun _ W => W = w.alloc (.cells #[.int .u64 gw, .string gt] 45)) (fun _ _ => 0)
            case atStart => exact rfl
            subst hrel
            go_wp2_with fail
            go_quiet (fail)
            go_wp2_with fail
            go_quiet (fail)
            go_wp2_with fail
            rw [Exit.noGoto_normal]
            refine gen_world (α := fun W' => bodyPost _ _ _ _ _ W') (fun W' => Blk W' b 112 #[.int .i64 a, .int .i64 p, .int .i64 sh, .int .i64 q, .int .i64 t, .int .u64 z, .string key, .int .u64 sum, .int .i64 (i + 1), .int .u64 0, .int .i64 3, .int .i64 0, .bool true] ∧ Chg (fun k => k = b) w W') ⟨?_, ?_⟩ ?_
            · refine Blk.eq_cs (cs := (((((#[.int .i64 a, .int .i64 p, .int .i64 sh, .int .i64 q, .int .i64 t, .int .u64 z, .string key, .int .u64 sum, .int .i64 i, .int .u64 block, .int .i64 0, .int .i64 0, .bool true] : Array Value).setIfInBounds 9 (.int .u64 0)).setIfInBounds 8 (.int .i64 (i + 1))).setIfInBounds 10 (.int .i64 3)).setIfInBounds 11 (.int .i64 0))) ?_ rfl
              have hB := hB.out
              (repeat first | with_reducible exact hB | with_reducible refine Blk.drewN ?_ _ | with_reducible refine Blk.drew ?_ | with_reducible refine Blk.alloc ?_ _ | with_reducible refine Blk.set_ ?_ _ _ | refine Blk.far ?_ (by simp; omega) _)
            · have hC := Chg.refl (fun k => k = b) w
              repeat first | with_reducible exact hC | with_reducible refine Chg.drew ?_ | with_reducible refine Chg.drewN ?_ _ | with_reducible refine Chg.alloc ?_ _ | refine Chg.setCell ?_ (by left; rfl) _
            rintro W' ⟨g1, g2⟩
            exact bodyPost_end (v := .tuple #[]) (results_none (by kernel_rfl) _ _ _) rfl ⟨rfl, ⟨g1, fun _ => hR.out, fun _ => ⟨by show 0 ≤ i + 1; omega, by show i + 1 ≤ sh; have := hie2.out; omega, fun e => by cases e⟩, hsum, by show (0 : Int) ≤ 0 ∧ (0 : Int) ≤ 18446744073709551615; decide, by show (0 : Int) ≤ 3 ∧ (3 : Int) ≤ 3; decide, fun _ => rfl, hkey⟩, g2⟩
        · rw [if_neg hie]
          have d3 : (i + 1 == sh) = false := by simp [hie]
          have hie2 := Lib.hid hie
          clear hie
          as_aux_lemma =>
            go_enter Try.func19, Try.ntmps19
            go_wp2
            go_step3
            go_wp2_with fail
            refine (hO.out _ hz.out).mono ?_; rintro e w1 ⟨rfl, rfl⟩
            go_wp2_with fail
            go_step3
            go_wp2_with fail
            go_loopw [30] (fun _ W => W = w.alloc (.cells #[.int .u64 gw, .string gt] 45)) (fun _ _ => 0)
            case atStart => exact rfl
            subst hrel
            go_wp2_with fail
            go_quiet (fail)
            go_wp2_with fail
            go_quiet (fail)
            go_wp2_with fail
            rw [Exit.noGoto_normal]
            refine gen_world (α := fun W' => bodyPost _ _ _ _ _ W') (fun W' => Blk W' b 112 #[.int .i64 a, .int .i64 p, .int .i64 sh, .int .i64 q, .int .i64 t, .int .u64 z, .string key, .int .u64 sum, .int .i64 (i + 1), .int .u64 0, .int .i64 0, .int .i64 0, .bool true] ∧ Chg (fun k => k = b) w W') ⟨?_, ?_⟩ ?_
            · refine Blk.eq_cs (cs := (((#[.int .i64 a, .int .i64 p, .int .i64 sh, .int .i64 q, .int .i64 t, .int .u64 z, .string key, .int .u64 sum, .int .i64 i, .int .u64 block, .int .i64 0, .int .i64 0, .bool true] : Array Value).setIfInBounds 9 (.int .u64 0)).setIfInBounds 8 (.int .i64 (i + 1)))) ?_ rfl
              have hB := hB.out
              (repeat first | with_reducible exact hB | with_reducible refine Blk.drewN ?_ _ | with_reducible refine Blk.drew ?_ | with_reducible refine Blk.alloc ?_ _ | with_reducible refine Blk.set_ ?_ _ _ | refine Blk.far ?_ (by simp; omega) _)
            · have hC := Chg.refl (fun k => k = b) w
              repeat first | with_reducible exact hC | with_reducible refine Chg.drew ?_ | with_reducible refine Chg.drewN ?_ _ | with_reducible refine Chg.alloc ?_ _ | refine Chg.setCell ?_ (by left; rfl) _
            rintro W' ⟨g1, g2⟩
            exact bodyPost_end (v := .tuple #[]) (results_none (by kernel_rfl) _ _ _) rfl ⟨rfl, ⟨g1, fun _ => hR.out, fun _ => ⟨by show 0 ≤ i + 1; omega, by show i + 1 ≤ sh; omega, fun _ => by show i + 1 < sh; have := hie2.out; omega⟩, hsum, by show (0 : Int) ≤ 0 ∧ (0 : Int) ≤ 18446744073709551615; decide, by show (0 : Int) ≤ 0 ∧ (0 : Int) ≤ 3; decide, fun _ => rfl, hkey⟩, g2⟩
end Go.Proofs.Ytpldnbdcpihjcaa
