/-
  The law's awake (layer 9). No condition.
-/
import Derived.Test.YtpmnppjiipbonaaDoorFewO
import Derived.Test.YtpmnppjiipbonaaDoorOpZ
namespace Go.Proofs.YtpmnppjiipbonaaDoor
set_option linter.unusedVariables false
open Go.RowKit Go.Extern.Stop Go.Stop Go.Extern Go.ChangeShapes

def awakeOp : OOp := ⟨[], [⟨1, ⟨#[107]⟩, ⟨#[97]⟩, ⟨#[]⟩, 0⟩]⟩
theorem awakeOp_bytes : bs (oBytes awakeOp) = ⟨#[0, 1, 1, 1, 107, 1, 97]⟩ := rfl
theorem awakeOp_right : oRight awakeOp = true := by decide
theorem awakeOp_fit : ∀ x ∈ awakeOp.steps, sFit x := by
  intro x hx
  simp only [awakeOp, List.mem_singleton] at hx
  subst hx
  exact ⟨by decide, by decide⟩
theorem awakeOp_parse : pParse ⟨#[0, 1, 1, 1, 107, 1, 97]⟩ = .ok awakeOp := by
  rw [← awakeOp_bytes]; exact pParse_back awakeOp_right awakeOp_fit
theorem awakeOp_none : pParse ⟨#[]⟩ = .error (2, 0, -1) := rfl
set_option maxRecDepth 100000 in
set_option maxHeartbeats 4000000 in
theorem awake09_any {w : World} {sv : Nat → Addr} (S : Sent w sv) (T : ETy w) : Calls Tryd.prog 21 #[] w fun e w' => e = .returned (.bool true) ∧ Below w.heap.size w w' := by
  have hA : Below w.heap.size w (w.alloc (.cells #[.int .i64 1, .string ⟨#[107]⟩, .string ⟨#[97]⟩, .string ⟨#[]⟩, .int .i64 0] 92)) := (Below.refl _ _).alloc (Nat.le_refl _) _
  have hIs : OpIs (w.alloc (.cells #[.int .i64 1, .string ⟨#[107]⟩, .string ⟨#[97]⟩, .string ⟨#[]⟩, .int .i64 0] 92)) (.agg #[.slice none 0 0, .slice (some ⟨w.heap.size, 0, none⟩) 1 1]) awakeOp := by
    refine ⟨none, 0, 0, some ⟨w.heap.size, 0, none⟩, 1, 1, rfl, rfl, rfl, ?_, ?_⟩
    · exact Reads.none_
    · refine ⟨rfl, fun _ => ⟨_, rfl, by simp, fun j u hu => ?_⟩⟩
      have hc := Blk.new w 92 #[.int .i64 1, .string ⟨#[107]⟩, .string ⟨#[97]⟩, .string ⟨#[]⟩, .int .i64 0]
      match j, hu with
      | 0, hu => cases hu; exact hc.cell 0
      | 1, hu => cases hu; exact hc.cell 1
      | 2, hu => cases hu; exact hc.cell 2
      | 3, hu => cases hu; exact hc.cell 3
      | 4, hu => cases hu; exact hc.cell 4
  have hP := printO_right _ _ _ hIs awakeOp_fit awakeOp_right
  rw [show strL (oBytes awakeOp) = .string ⟨#[0, 1, 1, 1, 107, 1, 97]⟩ from congrArg Value.string awakeOp_bytes] at hP
  have hQ := fun W (hW : Below w.heap.size w W) => opParse_any (S.below hW) (T.below hW) ⟨#[0, 1, 1, 1, 107, 1, 97]⟩ (by decide)
  have hQ0 := fun W (hW : Below w.heap.size w W) => opParse_any (S.below hW) (T.below hW) ⟨#[]⟩ (by decide)
  rw [awakeOp_parse] at hQ
  rw [awakeOp_none] at hQ0
  replace hP := Lib.hid hP
  replace hQ := Lib.hid hQ
  replace hQ0 := Lib.hid hQ0
  replace hA := Lib.hid hA
  clear hIs
  replace S := Lib.hid S
  replace T := Lib.hid T
  go_enter Tryd.func21, Tryd.ntmps21
  go_wp2_with fail
  refine (hP.out).mono ?_; rintro e w1 ⟨rfl, hb⟩
  have hb1 : Below w.heap.size w w1 := hA.out.trans (hb.mono (by simp))
  replace hb1 := Lib.hid hb1
  clear hb
  go_wp2_with fail
  refine (hQ.out _ hb1.out).mono ?_; rintro e w2 ⟨v, err, rfl, ⟨ho, rfl⟩, hb⟩
  have hI := ho.is
  obtain ⟨A, c, A', c', rfl, ho1, ho2⟩ := ho
  obtain ⟨A2, n2, c2, A3, n3, c3, ev, l1, l2, r1, r2⟩ := hI
  injection ev with ev
  injection ev with ev
  injection ev with ev1 ev2
  injection ev2 with ev2 _
  injection ev1 with ea eb ec
  injection ev2 with ed ee ef
  subst ea eb ec ed ee ef
  obtain ⟨ad, x, rfl, hadb, hx, hc⟩ := s5_at r2 l2 (k := 0) (by decide)
  obtain rfl : (⟨1, ⟨#[107]⟩, ⟨#[97]⟩, ⟨#[]⟩, 0⟩ : OStep) = x := by simpa [awakeOp] using hx
  have hb2 : Below w.heap.size w w2 := Below.next_ hb1.out hb
  replace hb2 := Lib.hid hb2
  replace hc := Lib.hid hc
  clear hb hx ho1 ho2 r1 r2 l1 l2
  have eg : awakeOp.guards.length = 0 := rfl
  have es : awakeOp.steps.length = 1 := rfl
  simp only [eg, es]
  have hBo := Blk.new w2 44 #[.slice A 0 c, .slice (some ad) 1 c']
  have hA2 : Below w.heap.size w (w2.alloc (.cells #[.slice A 0 c, .slice (some ad) 1 c'] 44)) := hb2.out.alloc hb2.out.size _
  replace hBo := Lib.hid hBo
  replace hA2 := Lib.hid hA2
  clear eg es
  go_wp2_with fail
  refine (hQ0.out _ hA2.out).mono ?_; rintro e w3 ⟨v3, err3, rfl, ⟨hv3, hE3⟩, hb⟩
  unfold zeroOp at hv3
  subst hv3
  have hb3 : Below w.heap.size w w3 := Below.next_ hA2.out hb
  have hb4 : Below w3.heap.size w3 (w3.alloc (.cells #[.slice none 0 0, .slice none 0 0] 44)) := (Below.refl _ _).alloc (Nat.le_refl _) _
  have hb5 : Below w.heap.size w (w3.alloc (.cells #[.slice none 0 0, .slice none 0 0] 44)) := Below.next_ hb3 hb4
  have hB3 := hBo.out.below hb hBo.out.lt
  have hB4 := hB3.below hb4 hB3.lt
  have k0 := hB4.cell 0
  have k1 := hB4.cell 1
  have hb6 : Below w2.heap.size w2 w3 := (Below.alloc (Below.refl _ _) (Nat.le_refl _) _).trans (hb.mono (by simp))
  obtain ⟨d0, d1, d2, d3, d4⟩ := hc.out _ (Below.next_ hb6 hb4)
  have ez : ad.add (0 * 5) = ad := by simp [Addr.add]
  rw [ez] at d0 d1 d2 d3 d4
  have hcd := code_any (w := (w3.alloc (.cells #[.slice none 0 0, .slice none 0 0] 44))) (sv := sv) (S.out.below hb5) err3 _ _ (ErrIs.under hb4 hE3)
  rw [show sCode (sIdx 2) = 2 from by decide] at hcd
  obtain ⟨ty3, u3, rfl⟩ := hE3.iface
  replace hcd := Lib.hid hcd
  replace hb5 := Lib.hid hb5
  clear hb hE3 hb3 hb4 hb6
  replace hB4 := Lib.hid hB4
  replace hB3 := Lib.hid hB3
  go_wp2_with fail
  refine (hcd.out).mono ?_; rintro e w4 ⟨rfl, rfl⟩
  go_wp2_with fail
  go_ret
  exact ⟨rfl, hb5.out⟩
end Go.Proofs.YtpmnppjiipbonaaDoor
