/-
  The walk over the law of versions that are made alone (layer 22). No condition.
-/
import Derived.Test.YtjoaifdjmdihoaaShelfA
import Derived.Test.YtjoaifdjmdihoaaCtlO
import Derived.Test.YtjoaifdjmdihoaaVerP
import Derived.Test.YtjoaifdjmdihoaaBlocks
namespace Go.Proofs.Ytjoaifdjmdihoaa
set_option linter.unusedVariables false
open Go.ChangeShapes Go.WideShapes Go.ChangeAt Go.RowKit
open Go.ChangeMaps (setBlock)

/-- Between two rounds. -/
structure MakesRel (w w1 : World) (n0 n1 : Int) (c : PChange) (hb : Nat) (a : Int) (i : Value) (wr : World) : Prop where
  ex : ∃ (k : Nat) (S : PHeap) (F : Nat → Prop), (k : Int) ≤ a ∧ i = .int .i64 k ∧ Own w1 hb S F wr ∧ S.blocks.length = k ∧ S.last = k ∧ S.faults = 0
  b0 : Blk wr w.heap.size 65 #[.int .u64 n0, .int .u64 n1]
  b1 : Blk wr (w.heap.size + 1) 67 #[.string c.key, .bool c.has, .string c.value]
theorem list_self (t : ByteArray) : (t.toList == t.toList) = true := by simp
set_option maxRecDepth 100000 in
set_option maxHeartbeats 4000000 in
theorem walkMakes (a : Int) (ha : 0 ≤ a ∧ a ≤ 255) (n0 n1 : Int) (h0 : 0 ≤ n0 ∧ n0 ≤ 18446744073709551615) (h1 : 0 ≤ n1 ∧ n1 ≤ 18446744073709551615) (c : PChange) (w : World) :
    Calls Try.prog 6 #[.int .u8 a, .agg #[.int .u64 n0, .int .u64 n1], c.val] w fun e w' => e = .returned (.bool true) ∧ Below w.heap.size w w' := by
  obtain ⟨key, has, value⟩ := c
  rw [show PChange.val ⟨key, has, value⟩ = .agg #[.string key, .bool has, .string value] from rfl]
  by_cases hval : 1000 < value.size
  · have d2 : decide ((1000 : Int) < (value.size : Int)) = true := by simp; omega
    go_enter Try.func6, Try.ntmps6
    go_wp2_with fail
    refine (awake22 _).mono ?_; rintro e w7 ⟨rfl, hb7⟩
    go_wp2_with fail
    go_ret
    refine ⟨rfl, ?_⟩
    exact (((Below.refl _ _).alloc (Nat.le_refl _) _).alloc (by simp) _).trans (hb7.mono (by simp; omega))
  have d2 : decide ((1000 : Int) < (value.size : Int)) = false := by simp; omega
  have hwa : IntKind.i64.wrap a = a := IntWalk.i64_in _ (by omega)
  have hwa1 : IntKind.i64.wrap (a + 1) = a + 1 := IntWalk.i64_in _ (by omega)
  have hN := fun W => verNew_any W n0 n1 ⟨key, has, value⟩
  rw [show PChange.val ⟨key, has, value⟩ = .agg #[.string key, .bool has, .string value] from rfl] at hN
  replace hN := Lib.hid hN
  have hvs := hval
  replace hval := Lib.hid hval
  go_enter Try.func6, Try.ntmps6
  go_wp2_with fail
  refine (new_sess _).mono ?_; rintro e w1 ⟨hb, rfl, s1⟩
  have hz : Below w.heap.size w ((w.alloc (.cells #[.int .u64 n0, .int .u64 n1] 65)).alloc (.cells #[.string key, .bool has, .string value] 67)) := ((Below.refl _ _).alloc (Nat.le_refl _) _).alloc (by simp) _
  have B0 := ((Blk.new w 65 #[.int .u64 n0, .int .u64 n1]).alloc (.cells #[.string key, .bool has, .string value] 67))
  have B1 := (Blk.new (w.alloc (.cells #[.int .u64 n0, .int .u64 n1] 65)) 67 #[.string key, .bool has, .string value])
  simp only [World.size_alloc] at B1
  generalize hg : (w.alloc (.cells #[.int .u64 n0, .int .u64 n1] 65)).alloc (.cells #[.string key, .bool has, .string value] 67) = w0 at *
  clear hg
  have C0 := B0.below s1.below B0.lt
  have C1 := B1.below s1.below B1.lt
  have hw0 := B0.lt
  have hw1 := B1.lt
  obtain ⟨F1, o1⟩ := Own.of_sess s1
  clear s1 B0 B1
  replace C0 := Lib.hid C0
  replace C1 := Lib.hid C1
  replace hz := Lib.hid hz
  replace o1 := Lib.hid o1
  go_wp2_with fail
  go_loopw [8] (fun i wr => MakesRel w w0 n0 n1 ⟨key, has, value⟩ hb a i wr) (fun i _ => 256 - (intOf i).toNat)
  case atStart => exact ⟨⟨0, _, F1, by omega, rfl, o1.out, rfl, rfl, rfl⟩, C0.out, C1.out⟩
  case round =>
    obtain ⟨⟨k, S, F, hk, rfl, o, hln, hla, hfa⟩, b0, b1⟩ := hrel
    by_cases hka : (k : Int) < a
    · have d3 : decide ((k : Int) < a) = true := by simp; omega
      have hM := make_any o.heap 1 (by decide) ⟨#[]⟩ (by rw [hla]; omega)
      replace o := Lib.hid o
      replace b0 := Lib.hid b0
      replace b1 := Lib.hid b1
      replace hM := Lib.hid hM
      replace hln := Lib.hid hln
      replace hla := Lib.hid hla
      replace hfa := Lib.hid hfa
      go_wp2_with fail
      refine (hM.out).mono ?_; rintro e w2 ⟨rfl, r, t2⟩
      have o2 := o.out.turned t2
      have D0 := b0.out.keep (t2.2.block _ b0.out.lt (fun h => by have := o.out.new _ h; omega))
      have D1 := b1.out.keep (t2.2.block _ b1.out.lt (fun h => by have := o.out.new _ h; omega))
      replace o2 := Lib.hid o2
      replace D0 := Lib.hid D0
      replace D1 := Lib.hid D1
      clear t2 hM
      go_wp2_with fail
      go_roundw
      case rel => exact ⟨⟨k + 1, _, _, by omega, by go_num, o2.out, by simp [hln.out], by show S.last + 1 = _; rw [hla.out]; omega, hfa.out⟩, D0.out, D1.out⟩
      case measure => simp [intOf]; omega
    · have d3 : decide ((k : Int) < a) = false := by simp; omega
      have hka' : (k : Int) = a := by omega
      have c00 := b0.cell 0
      have c01 := b0.cell 1
      have c10 := b1.cell 0
      have c11 := b1.cell 1
      have c12 := b1.cell 2
      replace b0 := Lib.hid b0
      replace b1 := Lib.hid b1
      have hFn := o.new
      replace o := Lib.hid o
      replace hln := Lib.hid hln
      replace hla := Lib.hid hla
      replace hfa := Lib.hid hfa
      replace hka' := Lib.hid hka'
      go_wp2_with fail
      refine (hN.out _).mono ?_; rintro e w2 ⟨b, ar, cc, rfl, hV, hb1, hb2, hbl⟩
      have o2 := o.out.keep hbl
      have D0 := b0.out.below hbl b0.out.lt
      have D1 := b1.out.below hbl b1.out.lt
      have hlt0 := b0.out.lt
      have hlt1 := b1.out.lt
      have hR : VerR w2 (fun k => k = b ∨ k = ar) b (newVer n0 n1 ⟨key, has, value⟩) :=
        ⟨fun k hk => by rcases hk with rfl | rfl; exact hV.blk.lt; exact hV.lt, .inl rfl, verNew_ok n0 n1 _ h0 h1 (by show value.size ≤ 1000; omega), by show (0 : Int) ≤ 0 ∧ (0 : Int) ≤ 18446744073709551615; decide, ar, cc, .inr rfl, hV⟩
      have hoF := o.out.heap.own
      have hws := o.out.below.size
      have off : Off F (fun k => k = b ∨ k = ar) := fun k hk hg => by
        have := hoF k hk
        rcases hg with rfl | rfl <;> omega
      have hA := alone_own verRout o2 hR off (by rintro k (rfl | rfl) <;> omega) (by rw [hfa.out]; decide) (by rw [hla.out]; omega) 100 (by decide)
      clear c00 c01 c10 c11 c12 hbl hoF
      replace hA := Lib.hid hA
      replace o2 := Lib.hid o2
      replace hV := Lib.hid hV
      replace hR := Lib.hid hR
      replace off := Lib.hid off
      replace D0 := Lib.hid D0
      replace D1 := Lib.hid D1
      go_wp2_with fail
      refine (hA.out).mono ?_; rintro e w3 ⟨xs, S', s', F', D', hRun, hstop, hle, rfl, o3, hR3, hnew, hchg, off3⟩
      obtain ⟨r, hvs', hres⟩ := ver_alone0 (fun x hx => (o.out.heap.span x hx).2.1) (by rw [hla.out]; omega) (by show value.size ≤ 1000; omega) hRun hstop (by decide)
      have hact : (verRout.act s').2 = false := by
        cases h : (verRout.act s').2 with
        | false => rfl
        | true =>
          have := PVer.result_on s' h
          rw [hres] at this
          exact absurd (congrArg Prod.snd this) (by simp)
      rw [hact]
      obtain ⟨_, _, _, _, ar', cc', _, hV3⟩ := hR3
      have hRes := verResult_any hV3
      rw [hres] at hRes
      have E0 := D0.out.keep (hchg.block _ D0.out.lt (by rintro (h | h | h); have := hFn _ h; omega; omega; omega))
      have E1 := D1.out.keep (hchg.block _ D1.out.lt (by rintro (h | h | h); have := hFn _ h; omega; omega; omega))
      have hl3 : S'.blocks.length = k + 1 := by rw [hvs'.len, hln.out]
      have hf3 : S'.faults = 0 := by rw [hvs'.faults, hfa.out]
      have hnw := hvs'.new
      clear hle hV3 hchg off3 hnew hres hact hvs' hRun hstop hA hR hV off
      replace hRes := Lib.hid hRes
      replace E0 := Lib.hid E0
      replace E1 := Lib.hid E1
      replace o3 := Lib.hid o3
      replace hl3 := Lib.hid hl3
      replace hf3 := Lib.hid hf3
      replace hnw := Lib.hid hnw
      go_wp2_with fail
      refine (hRes.out).mono ?_; rintro e w4 ⟨rfl, hb4⟩
      have o4 := o3.out.keep hb4
      have G0 := E0.out.below hb4 E0.out.lt
      have G1 := E1.out.below hb4 E1.out.lt
      have hnb : (0 : Int) ≤ S.last + 1 := by rw [hla.out]; omega
      generalize S.last + 1 = nb at *
      clear hb4 hRes E0 E1 o3 D0 D1 o2
      replace o4 := Lib.hid o4
      replace G0 := Lib.hid G0
      replace G1 := Lib.hid G1
      cases has with
      | true =>
        have hnw : S'.find nb = some ⟨nb, r, [n0, n1, 1], value⟩ := hnw.out
        replace hnw := Lib.hid hnw
        go_wp2_with fail
        have hL := load_hit (x := ⟨nb, r, [n0, n1, 1], value⟩) o4.out.heap hnw.out 0 (by show 0 < 3; decide)
        refine hL.mono ?_; rintro e w5 ⟨rfl, t5⟩
        rw [show PBlk.nth ⟨nb, r, [n0, n1, 1], value⟩ 0 = n0 from rfl]
        have o5 := o4.out.turned t5
        have G0 := G0.out.keep (t5.2.block _ G0.out.lt (fun h => by have := o4.out.new _ h; omega))
        have G1 := G1.out.keep (t5.2.block _ G1.out.lt (fun h => by have := o4.out.new _ h; omega))
        clear t5 o4
        replace o5 := Lib.hid o5
        replace G0 := Lib.hid G0
        replace G1 := Lib.hid G1
        go_wp2_with fail
        have hL := load_hit (x := ⟨nb, r, [n0, n1, 1], value⟩) o5.out.heap hnw.out 1 (by show 1 < 3; decide)
        refine hL.mono ?_; rintro e w6 ⟨rfl, t5⟩
        rw [show PBlk.nth ⟨nb, r, [n0, n1, 1], value⟩ 1 = n1 from rfl]
        have o6 := o5.out.turned t5
        have G0 := G0.out.keep (t5.2.block _ G0.out.lt (fun h => by have := o5.out.new _ h; omega))
        have G1 := G1.out.keep (t5.2.block _ G1.out.lt (fun h => by have := o5.out.new _ h; omega))
        clear t5 o5
        replace o6 := Lib.hid o6
        replace G0 := Lib.hid G0
        replace G1 := Lib.hid G1
        go_wp2_with fail
        have hL := load_hit (x := ⟨nb, r, [n0, n1, 1], value⟩) o6.out.heap hnw.out 2 (by show 2 < 3; decide)
        refine hL.mono ?_; rintro e w7 ⟨rfl, t5⟩
        rw [show PBlk.nth ⟨nb, r, [n0, n1, 1], value⟩ 2 = 1 from rfl]
        have o7 := o6.out.turned t5
        have G0 := G0.out.keep (t5.2.block _ G0.out.lt (fun h => by have := o6.out.new _ h; omega))
        have G1 := G1.out.keep (t5.2.block _ G1.out.lt (fun h => by have := o6.out.new _ h; omega))
        clear t5 o6
        replace o7 := Lib.hid o7
        replace G0 := Lib.hid G0
        replace G1 := Lib.hid G1
        go_wp2_with fail
        refine (words_hit o7.out.heap hnw.out).mono ?_; rintro e w8 ⟨rfl, hb8⟩
        have o8 := o7.out.keep hb8
        have K0 := G0.out.below hb8 G0.out.lt
        have K1 := G1.out.below hb8 G1.out.lt
        clear hb8 o7
        have c00 := K0.cell 0
        have c01 := K0.cell 1
        have c10 := K1.cell 0
        have c11 := K1.cell 1
        have c12 := K1.cell 2
        clear G0 G1
        have hB8 := hz.out.trans (o8.below.mono hz.out.size)
        have hFl := faults_any o8.heap
        rw [hf3.out] at hFl
        have hBk := blocks_any o8.heap (by rw [hl3.out]; omega)
        rw [hl3.out] at hBk
        replace o8 := Lib.hid o8
        replace K0 := Lib.hid K0
        replace K1 := Lib.hid K1
        replace hB8 := Lib.hid hB8
        replace hFl := Lib.hid hFl
        replace hBk := Lib.hid hBk
        have hls := list_self value
        go_wp2_with fail
        refine (hFl.out).mono ?_; rintro e w9 ⟨rfl, hw9⟩
        subst hw9
        go_wp2_with fail
        refine (hBk.out).mono ?_; rintro e w9 ⟨v9, rfl, hown, hb9⟩
        obtain ⟨A9, c9, rfl⟩ := slice_ownB hown
        clear hown
        obtain ⟨m, hm⟩ : ∃ m, m = k + 1 := ⟨_, rfl⟩
        rw [← hm]
        have hkk : (m : Int) = a + 1 := by have := hka'.out; omega
        have hB9 := Below.next_ hB8.out hb9
        clear hb9
        replace hB9 := Lib.hid hB9
        replace hm := Lib.hid hm
        go_wp2_with fail
        refine (awake22 _).mono ?_; rintro e w10 ⟨rfl, hb10⟩
        go_wp2_with fail
        go_ret
        exact ⟨rfl, Below.next_ hB9.out hb10⟩
      | false =>
        have hnw : S'.find nb = some ⟨nb, r, [n0, n1, 0], ⟨#[]⟩⟩ := hnw.out
        replace hnw := Lib.hid hnw
        go_wp2_with fail
        have hL := load_hit (x := ⟨nb, r, [n0, n1, 0], ⟨#[]⟩⟩) o4.out.heap hnw.out 0 (by show 0 < 3; decide)
        refine hL.mono ?_; rintro e w5 ⟨rfl, t5⟩
        rw [show PBlk.nth ⟨nb, r, [n0, n1, 0], ⟨#[]⟩⟩ 0 = n0 from rfl]
        have o5 := o4.out.turned t5
        have G0 := G0.out.keep (t5.2.block _ G0.out.lt (fun h => by have := o4.out.new _ h; omega))
        have G1 := G1.out.keep (t5.2.block _ G1.out.lt (fun h => by have := o4.out.new _ h; omega))
        clear t5 o4
        replace o5 := Lib.hid o5
        replace G0 := Lib.hid G0
        replace G1 := Lib.hid G1
        go_wp2_with fail
        have hL := load_hit (x := ⟨nb, r, [n0, n1, 0], ⟨#[]⟩⟩) o5.out.heap hnw.out 1 (by show 1 < 3; decide)
        refine hL.mono ?_; rintro e w6 ⟨rfl, t5⟩
        rw [show PBlk.nth ⟨nb, r, [n0, n1, 0], ⟨#[]⟩⟩ 1 = n1 from rfl]
        have o6 := o5.out.turned t5
        have G0 := G0.out.keep (t5.2.block _ G0.out.lt (fun h => by have := o5.out.new _ h; omega))
        have G1 := G1.out.keep (t5.2.block _ G1.out.lt (fun h => by have := o5.out.new _ h; omega))
        clear t5 o5
        replace o6 := Lib.hid o6
        replace G0 := Lib.hid G0
        replace G1 := Lib.hid G1
        go_wp2_with fail
        have hL := load_hit (x := ⟨nb, r, [n0, n1, 0], ⟨#[]⟩⟩) o6.out.heap hnw.out 2 (by show 2 < 3; decide)
        refine hL.mono ?_; rintro e w7 ⟨rfl, t5⟩
        rw [show PBlk.nth ⟨nb, r, [n0, n1, 0], ⟨#[]⟩⟩ 2 = 0 from rfl]
        have o7 := o6.out.turned t5
        have G0 := G0.out.keep (t5.2.block _ G0.out.lt (fun h => by have := o6.out.new _ h; omega))
        have G1 := G1.out.keep (t5.2.block _ G1.out.lt (fun h => by have := o6.out.new _ h; omega))
        clear t5 o6
        replace o7 := Lib.hid o7
        replace G0 := Lib.hid G0
        replace G1 := Lib.hid G1
        go_wp2_with fail
        refine (words_hit o7.out.heap hnw.out).mono ?_; rintro e w8 ⟨rfl, hb8⟩
        have o8 := o7.out.keep hb8
        have K0 := G0.out.below hb8 G0.out.lt
        have K1 := G1.out.below hb8 G1.out.lt
        clear hb8 o7
        have c00 := K0.cell 0
        have c01 := K0.cell 1
        have c10 := K1.cell 0
        have c11 := K1.cell 1
        have c12 := K1.cell 2
        clear G0 G1
        have hB8 := hz.out.trans (o8.below.mono hz.out.size)
        have hFl := faults_any o8.heap
        rw [hf3.out] at hFl
        have hBk := blocks_any o8.heap (by rw [hl3.out]; omega)
        rw [hl3.out] at hBk
        replace o8 := Lib.hid o8
        replace K0 := Lib.hid K0
        replace K1 := Lib.hid K1
        replace hB8 := Lib.hid hB8
        replace hFl := Lib.hid hFl
        replace hBk := Lib.hid hBk
        have hls := list_self ⟨#[]⟩
        go_wp2_with fail
        refine (hFl.out).mono ?_; rintro e w9 ⟨rfl, hw9⟩
        subst hw9
        go_wp2_with fail
        refine (hBk.out).mono ?_; rintro e w9 ⟨v9, rfl, hown, hb9⟩
        obtain ⟨A9, c9, rfl⟩ := slice_ownB hown
        clear hown
        obtain ⟨m, hm⟩ : ∃ m, m = k + 1 := ⟨_, rfl⟩
        rw [← hm]
        have hkk : (m : Int) = a + 1 := by have := hka'.out; omega
        have hB9 := Below.next_ hB8.out hb9
        clear hb9
        replace hB9 := Lib.hid hB9
        replace hm := Lib.hid hm
        go_wp2_with fail
        refine (awake22 _).mono ?_; rintro e w10 ⟨rfl, hb10⟩
        go_wp2_with fail
        go_ret
        exact ⟨rfl, Below.next_ hB9.out hb10⟩
end Go.Proofs.Ytjoaifdjmdihoaa
