/-
  The law's awake (layer 12). Where the sentinels, errors.errorType and the table of powers lie.
-/
import Derived.Test.YtpkkjoiglemlgaaGreatDoorIdL
import Derived.Test.YtpkkjoiglemlgaaGreatDoorIdN
import Derived.Test.YtpkkjoiglemlgaaGreatDoorIdP
import Derived.Test.YtpkkjoiglemlgaaGreatDoorIdW
import Derived.Test.YtpkkjoiglemlgaaGreatDoorQCut
namespace Go.Proofs.YtpkkjoiglemlgaaGreatDoor
set_option linter.unusedVariables false
open Go.ChangeShapes Go.WideShapes Go.ChangeAt Go.RowKit Go.Extern.Stop Go.Stop Go.Extern

theorem err_farI {w : World} {sv : Nat → Addr} {b : Nat} {t : TypeId} {cs : Array Value} (hB : Blk w b t cs) (ht : 105 ≠ t) (i : Nat) (u : Value) : ∀ {ps : List Int} {v : Value} {j : Nat}, ErrIs w sv v ps j → ErrIs (w.setCell ⟨b, i, none⟩ u) sv v ps j
  | [], _, _, h => h
  | _ :: _, _, _, ⟨b', x, hv, hb, h⟩ => ⟨b', x, hv, Blk.far hb (show b' ≠ b from Blk.ne_ hb hB ht) _, err_farI hB ht i u h⟩
theorem worldI {α : World → Prop} (Pw : World → Prop) {W : World} (h : Pw W) (k : ∀ W', Pw W' → α W') : α W := k W h
theorem reads_made (w : World) (t : TypeId) (cs : Array Value) (n size : Nat) (h : cs.size = n * size) : Reads (w.alloc (.cells cs t)) (w.heap.size + 1) size (some ⟨w.heap.size, 0, none⟩) n cs.toList := by
  refine ⟨by simpa using h, fun _ => ⟨_, rfl, by show w.heap.size < w.heap.size + 1; omega, fun j u hu => ?_⟩⟩
  have h := (Blk.new w t cs).cell j
  have e : (⟨w.heap.size, 0, none⟩ : Addr).add j = ⟨w.heap.size, j, none⟩ := by unfold Addr.add; split <;> simp_all
  rw [e, h]
  simpa using hu
set_option maxHeartbeats 1000000 in
set_option maxRecDepth 100000 in
theorem parse7_any {w : World} {sv : Nat → Addr} (S : Sent w sv) : Calls Tryz.prog 9 #[.string ⟨#[55]⟩] w fun e w' => ∃ v, e = .returned (.tuple #[.agg #[.int .i64 0, .int .i64 0], v]) ∧ ErrIs w' sv v [1] (sIdx 1) ∧ Below w.heap.size w w' := by
  have hW1 : Below w.heap.size w (w.alloc (.cells #[.int .i64 0, .int .i64 0] 23)) := (Below.refl _ _).alloc (Nat.le_refl _) _
  have hC := fun W => cutMiss ⟨#[55]⟩ 46 W (by decide)
  have hN := new_any (S.below hW1) 1
  have hA := fun W (h : ErrIs W sv (newV sv 1) [] (sIdx 1)) => at_any (w := W) (sv := sv) 1 (newV sv 1) [] (sIdx 1) h
  have hL : ∀ W, ErrIs W sv (newV sv 1) [] (sIdx 1) := fun W => ⟨by decide, rfl⟩
  have B1 := Blk.new w 23 #[.int .i64 0, .int .i64 0]
  replace hC := Lib.hid hC
  replace hN := Lib.hid hN
  replace hA := Lib.hid hA
  replace hL := Lib.hid hL
  replace hW1 := Lib.hid hW1
  replace B1 := Lib.hid B1
  clear S
  go_enter Tryz.func9, Tryz.ntmps9
  go_wp2_with fail
  refine (hC.out _).mono ?_; rintro e w1 ⟨rfl, hw⟩
  obtain rfl := hw
  go_wp2_with fail
  refine (hN.out).mono ?_; rintro e w1 ⟨rfl, hw⟩
  obtain rfl := hw
  go_wp2_with fail
  refine (hA.out _ (hL.out _)).mono ?_; rintro e w5 ⟨v, rfl, hv, hb⟩
  have B5 := B1.out.below hb B1.out.lt
  have hb5 := Below.next_ hW1.out hb
  have c0 := B5.cell 0
  have c1 := B5.cell 1
  have f0 := B5.frozen 0
  have f1 := B5.frozen 1
  replace B5 := Lib.hid B5
  replace hv := Lib.hid hv
  replace hb5 := Lib.hid hb5
  clear hb
  go_wp2_with fail
  refine worldI (α := fun W' => bodyPost _ _ _ _ _ W') (fun W => Blk W w.heap.size 23 #[.int .i64 0, .int .i64 0] ∧ ErrIs W sv v [1] (sIdx 1) ∧ Below w.heap.size w W) ?_ fun W hW => ?_
  · exact ⟨Blk.eq_cs (Blk.set_ (Blk.set_ B5.out 0 _) 1 _) rfl, err_farI (Blk.set_ B5.out 0 _) (by decide) 1 _ (err_farI B5.out (by decide) 0 _ hv.out), (hb5.out.setCell (Nat.le_refl _) _).setCell (Nat.le_refl _) _⟩
  obtain ⟨k1, k2, k3⟩ := hW
  have z0 := k1.cell 0
  have z1 := k1.cell 1
  replace k2 := Lib.hid k2
  exact bodyPost_ret (v := .tuple #[.agg #[.int .i64 0, .int .i64 0], v]) (by simp [results, Tryz.results9, go_sem, z0, z1]) rfl ⟨_, rfl, k2.out, k3⟩
theorem OwnSet.is_ {w0 w : World} {b : Nat} {c : Int} {ids : List (Int × Int)} (h : OwnSet w0 w b c ids) : ∃ F, SetIs w b F c ids := by
  obtain ⟨F, h1, _⟩ := h
  exact ⟨F, h1⟩
theorem reads_ids2 (w : World) (a b c d : Int) : Reads (w.alloc (.cells #[.int .i64 a, .int .i64 b, .int .i64 c, .int .i64 d] 23)) (w.heap.size + 1) 2 (some ⟨w.heap.size, 0, none⟩) 2 ([(a, b), (c, d)].flatMap idCells) :=
  reads_made w 23 #[.int .i64 a, .int .i64 b, .int .i64 c, .int .i64 d] 2 2 rfl
set_option maxHeartbeats 2000000 in
set_option maxRecDepth 100000 in
theorem awake12_any {w : World} {sv : Nat → Addr} (S : Sent w sv) (T : ETy w) (htab : PTb w) : Calls Tryz.prog 8 #[] w fun e w' => e = .returned (.bool true) ∧ Below w.heap.size w w' := by
  have hP := parse7_any S
  have hSS := fun W (h : Below w.heap.size w W) => S.below h
  have hTT := fun W (h : Below w.heap.size w W) => T.below h
  have hQ := fun W (h : Below w.heap.size w W) => idPrint_any (htab.below h) 0 7 (by decide) (by decide) (by decide) (by decide)
  rw [show strL (iText (0, 7)) = .string ⟨#[48, 46, 55]⟩ by kernel_rfl] at hQ
  replace hP := Lib.hid hP
  replace hQ := Lib.hid hQ
  replace hSS := Lib.hid hSS
  replace hTT := Lib.hid hTT
  clear S T htab
  go_enter Tryz.func8, Tryz.ntmps8
  go_wp2_with fail
  refine (hP.out).mono ?_; rintro e w1 ⟨v, rfl, hv, hb1⟩
  have hbA : Below w1.heap.size w1 ((w1.alloc (.cells #[.int .i64 0, .int .i64 0] 23)).alloc (.cells #[.int .i64 0, .int .i64 2, .int .i64 0, .int .i64 1] 23)) := ((Below.refl _ _).alloc (Nat.le_refl _) _).alloc (by simp) _
  have hOf := setOf_any (w := (w1.alloc (.cells #[.int .i64 0, .int .i64 0] 23)).alloc (.cells #[.int .i64 0, .int .i64 2, .int .i64 0, .int .i64 1] 23)) (cap := 2) (l := [(0, 2), (0, 1)]) rfl (by decide) ((reads_ids2 (w1.alloc (.cells #[.int .i64 0, .int .i64 0] 23)) 0 2 0 1).more (by simp)) (by intro p hp; simp at hp; rcases hp with rfl | rfl <;> (unfold idOk; decide))
  rw [World.size_alloc] at hOf
  have hb2 := Below.next_ hb1 hbA
  have hv2 := ErrIs.under hbA hv
  replace hOf := Lib.hid hOf
  replace hb2 := Lib.hid hb2
  replace hv2 := Lib.hid hv2
  clear hv hbA
  go_wp2_with fail
  refine (hOf.out).mono ?_; rintro e w3 ⟨b, rfl, hO, hb3⟩
  obtain ⟨F, hI⟩ := hO.is_
  have hv3 := ErrIs.under hb3 hv2.out
  have hb03 := Below.next_ hb2.out hb3
  have hids : [((0, 2) : Int × Int), (0, 1)].foldl addIds [] = [(0, 2), (0, 1)] := by decide
  rw [hids] at hI
  replace hI := Lib.hid hI
  replace hv3 := Lib.hid hv3
  clear hO hb3 hids
  go_wp2_with fail
  refine (hQ.out _ hb03).mono ?_; rintro e w4 ⟨rfl, hb4⟩
  have hb04 := Below.next_ hb03 hb4
  have hI4 := hI.out.below hb4
  have hv4 := ErrIs.under hb4 hv3.out
  have hW := wrong12_any (hSS.out _ hb04) (hTT.out _ hb04) v 1 1 (-1) (.inr ⟨by decide, (by rw [if_pos (by decide)]; exact hv4), rfl⟩)
  replace hI4 := Lib.hid hI4
  replace hW := Lib.hid hW
  clear hv4 hv3 hb4
  go_wp2_with fail
  refine (hW.out).mono ?_; rintro e w5 ⟨rfl, hb5⟩
  have hb05 := Below.next_ hb04 hb5
  have hAll := setAll_any (hI4.out.below hb5) (by decide)
  have hs : sortIds [((0, 2) : Int × Int), (0, 1)] = [(0, 1), (0, 2)] := sortIds_eq (List.Perm.swap _ _ _) (by simp)
  rw [hs] at hAll
  replace hAll := Lib.hid hAll
  clear hb5 hs
  go_wp2_with fail
  refine (hAll.out).mono ?_; rintro e w6 ⟨A, cp, rfl, hown, hb6⟩
  have hb06 := Below.next_ hb05 hb6
  have hbB : Below w6.heap.size w6 (w6.alloc (.cells #[.int .i64 0, .int .i64 1, .int .i64 0, .int .i64 2] 23)) := (Below.refl _ _).alloc (Nat.le_refl _) _
  have hr1 := (Reads.of_own hown).below hbB
  have hSm := refSameI_any (w := w6.alloc (.cells #[.int .i64 0, .int .i64 1, .int .i64 0, .int .i64 2] 23)) (cap := cp) (cap2 := 2) (l := [(0, 1), (0, 2)]) rfl (by decide) (hr1.more (by simp)) ((reads_ids2 w6 0 1 0 2).more (by simp))
  have hb07 := Below.next_ hb06 hbB
  replace hSm := Lib.hid hSm
  replace hb07 := Lib.hid hb07
  clear hr1 hown hbB
  go_wp2_with fail
  refine (hSm.out).mono ?_; rintro e w8 ⟨rfl, hb8⟩
  have hb08 := Below.next_ hb07.out hb8
  replace hb08 := Lib.hid hb08
  clear hb8
  go_wp2_with fail
  refine (nilHas_any _ 0 0).mono ?_; rintro e w9 ⟨rfl, hb9⟩
  have hb09 := Below.next_ hb08.out hb9
  replace hb09 := Lib.hid hb09
  clear hb9
  go_wp2_with fail
  refine (nilAdd_any _ 0 0).mono ?_; rintro e w10 ⟨rfl, hb10⟩
  have hb010 := Below.next_ hb09.out hb10
  replace hb010 := Lib.hid hb010
  clear hb10
  go_wp2_with fail
  refine (nilAll_any _).mono ?_; rintro e w11 ⟨rfl, hb11⟩
  have hb011 := Below.next_ hb010.out hb11
  replace hb011 := Lib.hid hb011
  clear hb11
  go_wp2_with fail
  refine (idRight_any _ 0 1).mono ?_; rintro e w12 ⟨rfl, hb12⟩
  have hb012 := Below.next_ hb011.out hb12
  replace hb012 := Lib.hid hb012
  clear hb12
  go_wp2_with fail
  go_ret
  exact ⟨rfl, hb012.out⟩
end Go.Proofs.YtpkkjoiglemlgaaGreatDoor
