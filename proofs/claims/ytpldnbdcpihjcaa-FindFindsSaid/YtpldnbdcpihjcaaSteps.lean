/-
  drive.Steps: a routine's acts, handed out as they are done. No condition.
-/
import Derived.Test.YtpldnbdcpihjcaaNext
import Derived.Test.YtpldnbdcpihjcaaRange
import Derived.WalkLawsBesides
namespace Go.Proofs.Ytpldnbdcpihjcaa
set_option linter.unusedVariables false
open Go.ChangeShapes Go.WideShapes Go.ChangeAt Go.RowKit Go.Shelf
open Go.ChangeMaps (setBlock)

section
variable {σ : Type} (Rt : Rout σ)
/-- Steps that are done, one behind the other. -/
def Runs : PHeap → σ → List (PAct × PGot) → PHeap → σ → Prop
  | S, s, [], S', s' => S = S' ∧ s = s'
  | S, s, x :: xs, S', s' => Rt.can S s = true ∧ ∃ r, x = ((Rt.act s).1, (S.act (Rt.act s).1 r).1) ∧ Runs (S.act (Rt.act s).1 r).2 (Rt.take s (S.act (Rt.act s).1 r).1) xs S' s'
theorem Runs.snoc : ∀ {xs : List (PAct × PGot)} {S S1 : PHeap} {s s1 : σ}, Runs Rt S s xs S1 s1 → Rt.can S1 s1 = true → ∀ r, Runs Rt S s (xs ++ [((Rt.act s1).1, (S1.act (Rt.act s1).1 r).1)]) (S1.act (Rt.act s1).1 r).2 (Rt.take s1 (S1.act (Rt.act s1).1 r).1)
  | [], S, S1, s, s1, h, hc, r => by
    obtain ⟨rfl, rfl⟩ := h
    exact ⟨hc, r, rfl, rfl, rfl⟩
  | x :: xs, S, S1, s, s1, h, hc, r => by
    obtain ⟨h1, r1, rfl, h2⟩ := h
    exact ⟨h1, r1, rfl, Runs.snoc h2 hc r⟩
theorem act_faults (S : PHeap) (x : PAct) (r : Nat) : (S.act x r).2.faults ≤ S.faults + 1 ∧ (S.act x r).2.last ≤ S.last + 1 := by
  have h1 : S.faults ≤ S.faults + 1 ∧ S.last ≤ S.last + 1 := by omega
  have hf : S.fault.faults ≤ S.faults + 1 ∧ S.fault.last ≤ S.last + 1 := by show S.faults + 1 ≤ _ ∧ S.last ≤ _; omega
  have hset : ∀ b i v, (S.set b i v).faults ≤ S.faults + 1 ∧ (S.set b i v).last ≤ S.last + 1 := fun b i v => h1
  unfold PHeap.act
  split
  · exact h1
  · split
    · unfold PHeap.load; split
      · exact h1
      · exact hf
    · split
      · unfold PHeap.store; split
        · exact hset _ _ _
        · exact hf
      · split
        · unfold PHeap.swap; split
          · simp only; split
            · exact hset _ _ _
            · exact h1
          · exact hf
        · split
          · unfold PHeap.bump; split
            · exact hset _ _ _
            · exact hf
          · split
            · unfold PHeap.make; split
              · show S.faults ≤ _ ∧ S.last + 1 ≤ _; omega
              · exact h1
            · split
              · unfold PHeap.words; split
                · exact h1
                · exact hf
              · split
                · unfold PHeap.drop; split
                  · exact h1
                  · exact hf
                · split
                  · exact h1
                  · split
                    · unfold PHeap.unlock; split
                      · exact h1
                      · exact hf
                    · exact h1
theorem Runs.bounds : ∀ {xs : List (PAct × PGot)} {S S1 : PHeap} {s s1 : σ}, Runs Rt S s xs S1 s1 → S1.faults ≤ S.faults + xs.length ∧ S1.last ≤ S.last + xs.length
  | [], S, S1, s, s1, h => by
    obtain ⟨rfl, rfl⟩ := h
    simp
  | x :: xs, S, S1, s, s1, h => by
    obtain ⟨h1, r1, rfl, h2⟩ := h
    have h3 := Runs.bounds h2
    have h4 := act_faults S (Rt.act s).1 r1
    simp only [List.length_cons]
    omega

/-- Between two steps: the heap, the routine, and what Steps has captured. -/
structure Mid (Z : Nat → Prop) (hb b bm bh br : Nat) (most : Int) (S0 : PHeap) (s0 : σ) (xs : List (PAct × PGot)) (W : World) : Prop where
  ex : ∃ S s F G, Runs Rt S0 s0 xs S s ∧ HeapIn W hb S F ∧ Rt.R W G b s ∧ Off F G ∧ ∀ k, F k ∨ G k → Z k
  bm : Blk W bm 3 #[.int .i64 most]
  bh : Blk W bh 48 #[.pointer (some ⟨hb, 0, none⟩)]
  br : Blk W br 121 #[.iface Rt.T (.pointer (some ⟨b, 0, none⟩))]
  len : ((xs.length : Nat) : Int) ≤ most ∨ xs = []
/-- The end: as many steps as were asked, or the routine can't go on. -/
structure Fin (Z : Nat → Prop) (hb b : Nat) (most : Int) (S0 : PHeap) (s0 : σ) (xs : List (PAct × PGot)) (W : World) : Prop where
  ex : ∃ S s F G, Runs Rt S0 s0 xs S s ∧ HeapIn W hb S F ∧ Rt.R W G b s ∧ Off F G ∧ (∀ k, F k ∨ G k → Z k) ∧ (most ≤ xs.length ∨ Rt.can S s = false) ∧ (xs.length ≤ most ∨ xs = [])
def encS (x : PAct × PGot) : Array Value := #[stepV 0 x.1 x.2]
theorem Mid.stay {Z : Nat → Prop} {hb b bm bh br : Nat} {most : Int} {S0 : PHeap} {s0 : σ} {xs : List (PAct × PGot)} {W W' : World} (h : Mid Rt Z hb b bm bh br most S0 s0 xs W) (hb' : Below W.heap.size W W') : Mid Rt Z hb b bm bh br most S0 s0 xs W' := by
  obtain ⟨⟨S, s, F, G, h1, h2, h3, h4, h5⟩, h6, h7, h8, h9⟩ := h
  exact ⟨⟨S, s, F, G, h1, h2.below hb', Rt.below h3 hb', h4, h5⟩, h6.below hb' h6.lt, h7.below hb' h7.lt, h8.below hb' h8.lt, h9⟩
theorem mid_went {Z : Nat → Prop} {B1 : Nat} (hZ : ∀ k, B1 ≤ k → Z k) {hb b bm bh br : Nat} {most : Int} {S0 S : PHeap} {s0 s : σ} {xs : List (PAct × PGot)} {w w2 : World} {F G : Nat → Prop} (hBW : B1 ≤ w.heap.size) (hFG : ∀ k, F k ∨ G k → Z k) (hzm : ¬ Z bm) (hzh : ¬ Z bh) (hzr : ¬ Z br)
    (hrun : Runs Rt S0 s0 xs S s) (hw : Went Rt F G hb b S s w w2) (b1 : Blk w bm 3 #[.int .i64 most]) (b2 : Blk w bh 48 #[.pointer (some ⟨hb, 0, none⟩)]) (b3 : Blk w br 121 #[.iface Rt.T (.pointer (some ⟨b, 0, none⟩))]) (hlen : ((xs.length : Nat) : Int) ≤ most ∨ xs = []) :
    Mid Rt Z hb b bm bh br most S0 s0 xs w2 ∧ Chg Z w w2 := by
  have hc : Chg Z w w2 := hw.chg.mono hFG
  obtain ⟨F', G', h1, h2, h3, h4⟩ := hw.ex
  refine ⟨⟨⟨S, s, F', G', hrun, h1, h2, h3, ?_⟩, b1.keep (hc.block _ b1.lt hzm), b2.keep (hc.block _ b2.lt hzh), b3.keep (hc.block _ b3.lt hzr), hlen⟩, hc⟩
  intro k hk
  rcases h4 k hk with hk | hk
  · exact hFG k hk
  · exact hZ k (by omega)
theorem book_chg {Z : Nat → Prop} {l D : Nat} {rec : Loop} {w w' : World} (h : Book l D rec w) (hc : Chg Z w w') (hzl : ¬ Z l) (hzD : ¬ Z D) : Book l D rec w' :=
  ⟨(hc.block l (Array.getElem?_eq_some_iff.1 h.1).1 hzl).trans h.1, (hc.block D (Array.getElem?_eq_some_iff.1 h.2).1 hzD).trans h.2⟩
def IterRel (Z : Nat → Prop) (B1 : Nat) (hb b bm bh br : Nat) (most : Int) (S0 : PHeap) (s0 : σ) (Cl : List (PAct × PGot) → World → Prop) (l D : Nat) (rec : Loop) (i : Value) (wr : World) : Prop :=
  ∃ pre, B1 ≤ wr.heap.size ∧ i = .int .i64 (pre.length : Nat) ∧ ((pre.length : Int) ≤ most ∨ pre = []) ∧ Mid Rt Z hb b bm bh br most S0 s0 pre wr ∧ Cl pre wr ∧ Book l D rec wr
def IterPost (Z : Nat → Prop) (hb b : Nat) (most : Int) (S0 : PHeap) (s0 : σ) (Cl : List (PAct × PGot) → World → Prop) (l D : Nat) (rec : Loop) (e : Ending) (W' : World) : Prop :=
  (∃ v, e = .returned v) ∧ ∃ xs, (Fin Rt Z hb b most S0 s0 xs W' ∧ Cl xs W') ∧ Book l D rec W'
attribute [local go_sem] Oper.semAt_some
set_option maxHeartbeats 1000000 in
theorem steps_iter (Z : Nat → Prop) (B1 : Nat) (hZ : ∀ k, B1 ≤ k → Z k) (hb b bm bh br : Nat) (most : Int) (hm : most ≤ 1000000) (S0 : PHeap) (hf : S0.faults ≤ 1000000000) (hla : S0.last ≤ 1000000000) (s0 : σ)
    (Cl : List (PAct × PGot) → World → Prop) (hCl : ∀ pre W W', Cl pre W → Chg Z W W' → Cl pre W') (l D : Nat) (hzl : ¬ Z l) (hzD : ¬ Z D) (hzm : ¬ Z bm) (hzh : ¬ Z bh) (hzr : ¬ Z br) (rec : Loop)
    (hY : ∀ pre x W1, Mid Rt Z hb b bm bh br most S0 s0 (pre ++ [x]) W1 → Cl pre W1 → Book l D rec W1 → YieldAt Fence.wide 0 Try.prog l (encS x) W1 fun e W' => e = .returned (.bool true) ∧ (Mid Rt Z hb b bm bh br most S0 s0 (pre ++ [x]) W' ∧ Cl (pre ++ [x]) W') ∧ Book l D rec W')
    (W : World) (hM : Mid Rt Z hb b bm bh br most S0 s0 [] W) (hC : Cl [] W) (hB : Book l D rec W) (hBl : B1 ≤ l + 1) :
    CallsIn Fence.wide 0 Try.prog 98 (#[.func (.yield l) #[] #[]] ++ #[.pointer (some ⟨bm, 0, none⟩), .pointer (some ⟨bh, 0, none⟩), .pointer (some ⟨br, 0, none⟩)]) W (IterPost Rt Z hb b most S0 s0 Cl l D rec) := by
  have hBW : B1 ≤ W.heap.size := by have := (Array.getElem?_eq_some_iff.1 hB.1).1; omega
  have cm := hM.bm.cell 0
  replace hY := Lib.hid hY
  replace hCl := Lib.hid hCl
  replace hM := Lib.hid hM
  replace hC := Lib.hid hC
  replace hB := Lib.hid hB
  refine callsIn_of_wp Try.func98 rfl trivial ?_ rfl
  simp only [Try.ntmps98, List.size_toArray, List.length_cons, List.length_nil, Nat.reduceAdd, Nat.reduceSub, Array.replicate_succ, Array.replicate_zero, List.push_toArray, List.append_toArray, List.nil_append, List.cons_append]
  have finS : ∀ (pre : List (PAct × PGot)) (S : PHeap) (s : σ) (F G : Nat → Prop) (w' : World), Runs Rt S0 s0 pre S s → HeapIn w' hb S F → Rt.R w' G b s → Off F G → (∀ k, F k ∨ G k → Z k) → (most ≤ pre.length ∨ Rt.can S s = false) → ((pre.length : Int) ≤ most ∨ pre = []) → Cl pre w' → Book l D rec w' → IterPost Rt Z hb b most S0 s0 Cl l D rec (.returned (.tuple #[])) w' :=
    fun pre S s F G w' h1 h2 h3 h4 h5 h6 h7 h8 h9 => ⟨⟨_, rfl⟩, pre, ⟨⟨S, s, F, G, h1, h2, h3, h4, h5, h6, h7⟩, h8⟩, h9⟩
  replace finS := Lib.hid finS
  by_cases hneg : most ≤ 0
  · gi_wp2
    all_goals
      gi_loopw [9] (fun i wr => i = .int .i64 0 ∧ W = wr) (fun _ _ => 0)
      case atStart => exact ⟨rfl, rfl⟩
      case round =>
        obtain ⟨rfl, rfl⟩ := hrel
        gi_wp2
        go_end0
        obtain ⟨⟨S, s, F, G, hrun, hH, hR, hoff, hFG⟩, b1, b2, b3, _⟩ := hM.out
        exact finS.out [] S s F G _ hrun hH hR hoff hFG (.inl (by simpa using hneg)) (.inr rfl) hC.out hB.out
  · gi_wp2
    gi_loopw [9] (fun i wr => IterRel Rt Z B1 hb b bm bh br most S0 s0 Cl l D rec i wr) (fun i _ => (most - intOf i).toNat)
    case atStart => exact ⟨[], hBW, rfl, .inr rfl, hM.out, hC.out, hB.out⟩
    case round =>
      obtain ⟨pre, hBr0, rfl, hle, hMr, hCr, hBr⟩ := hrel
      have ch := hMr.bh.cell 0
      have cr := hMr.br.cell 0
      obtain ⟨⟨S, s, F, G, hrun, hH, hR, hoff, hFG⟩, b1, b2, b3, _⟩ := hMr
      replace hH := Lib.hid hH
      replace hR := Lib.hid hR
      replace hoff := Lib.hid hoff
      replace hFG := Lib.hid hFG
      replace b1 := Lib.hid b1
      replace b2 := Lib.hid b2
      replace b3 := Lib.hid b3
      replace hCr := Lib.hid hCr
      replace hBr := Lib.hid hBr
      replace hrun := Lib.hid hrun
      replace hle := Lib.hid hle
      by_cases hlt : (pre.length : Int) < most
      · have hbd := hrun.out.bounds
        have hfS : S.faults < 9223372036854775807 := by omega
        have hlS : S.last < 9223372036854775807 := by omega
        replace hbd := Lib.hid hbd
        by_cases hact : (Rt.act s).2 = true
        · by_cases hrd : S.ready (Rt.act s).1 = true
          · have hcan : Rt.can S s = true := by unfold Rout.can; rw [hact, hrd]; rfl
            have hN := next_go Rt hH.out hR.out hoff.out hfS hact hlS hrd
            replace hN := Lib.hid hN
            replace hcan := Lib.hid hcan
            clear hact hrd
            gi_wp2
            refine ⟨trivial, rfl, (callsIn_wide.2 hN.out).mono ?_⟩
            rintro e w2 ⟨r, rfl, hw⟩
            have hrun2 := Runs.snoc Rt hrun.out hcan.out r
            obtain ⟨hM2, hc2⟩ := mid_went Rt hZ hBr0 hFG.out hzm hzh hzr hrun2 hw b1.out b2.out b3.out (.inl (by simp; omega))
            generalize (S.act (Rt.act s).1 r).2 = S' at *
            generalize Rt.take s (S.act (Rt.act s).1 r).1 = s' at *
            generalize (S.act (Rt.act s).1 r).1 = g at *
            generalize (Rt.act s).1 = x at *
            have hbl : Below w2.heap.size w2 (w2.alloc (.cells #[.int .i64 0, .int .i64 x.kind, .int .u64 x.block, .int .i64 x.cell, .int .u64 x.old, .int .u64 x.new, .string x.text, .int .u64 g.word, .string g.text] 87)) := (Below.refl _ _).alloc (Nat.le_refl _) _
            have hM3 := Mid.stay Rt hM2 hbl
            have hC3 := hCl.out _ _ _ hCr.out (hc2.alloc (.cells #[.int .i64 0, .int .i64 x.kind, .int .u64 x.block, .int .i64 x.cell, .int .u64 x.old, .int .u64 x.new, .string x.text, .int .u64 g.word, .string g.text] 87))
            have hB3 := book_chg hBr.out (hc2.alloc (.cells #[.int .i64 0, .int .i64 x.kind, .int .u64 x.block, .int .i64 x.cell, .int .u64 x.old, .int .u64 x.new, .string x.text, .int .u64 g.word, .string g.text] 87)) hzl hzD
            obtain ⟨fn, tmps, assign, body, hy, hRd⟩ := hY.out pre (x, g) _ hM3 hC3 hB3
            dsimp only [encS, stepV] at hy
            have hs2 := hc2.size
            rw [show stepV 0 x g = .agg #[.int .i64 0, .int .i64 x.kind, .int .u64 x.block, .int .i64 x.cell, .int .u64 x.old, .int .u64 x.new, .string x.text, .int .u64 g.word, .string g.text] from rfl]
            replace hM2 := Lib.hid hM2
            replace hc2 := Lib.hid hc2
            replace hM3 := Lib.hid hM3
            replace hC3 := Lib.hid hC3
            replace hB3 := Lib.hid hB3
            replace hw := Lib.hid hw
            replace hrun2 := Lib.hid hrun2
            replace hN := Lib.hid hN
            clear hN
            gi_wp2
            refine ⟨rfl, hRd.mono ?_⟩
            rintro e W3 ⟨rfl, ⟨hM4, hC4⟩, hB4⟩
            replace hM4 := Lib.hid hM4
            replace hC4 := Lib.hid hC4
            replace hB4 := Lib.hid hB4
            gi_wp2
            go_roundw
            case rel => exact ⟨pre ++ [(x, g)], by have := (Array.getElem?_eq_some_iff.1 hB4.out.1).1; omega, by simp, .inl (by simp; omega), hM4.out, hC4.out, hB4.out⟩
            case measure => simp [intOf]; omega
          · have hcan : Rt.can S s = false := by unfold Rout.can; rw [hact]; simpa using hrd
            have hN := next_wait Rt hH.out hR.out hoff.out hfS hact (by simpa using hrd)
            replace hN := Lib.hid hN
            replace hcan := Lib.hid hcan
            clear hact hrd
            gi_wp2
            refine ⟨trivial, rfl, (callsIn_wide.2 hN.out).mono ?_⟩
            rintro e w2 ⟨rfl, hw⟩
            rw [zeroStep]
            obtain ⟨hM2, hc2⟩ := mid_went Rt hZ hBr0 hFG.out hzm hzh hzr hrun.out hw b1.out b2.out b3.out hle.out
            replace hM2 := Lib.hid hM2
            replace hc2 := Lib.hid hc2
            gi_wp2
            refine ⟨fun _ h => (by cases h), ?_⟩
            gi_wp2
            refine bodyPost_ret (results_none rfl _ _ _) rfl ?_
            obtain ⟨F', G', k1, k2, k3, k4⟩ := hw.ex
            have hbl : ∀ o, Below w2.heap.size w2 (w2.alloc o) := fun o => (Below.refl _ _).alloc (Nat.le_refl _) _
            refine finS.out pre S s F' G' _ hrun.out (k1.below (hbl _)) (Rt.below k2 (hbl _)) k3 ?_ (.inr hcan.out) hle.out (hCl.out _ _ _ hCr.out (hc2.out.alloc _)) (book_chg hBr.out (hc2.out.alloc _) hzl hzD)
            intro k hk
            rcases k4 k hk with hk | hk
            · exact hFG.out k hk
            · exact hZ k (by omega)
        · have hact : (Rt.act s).2 = false := by simpa using hact
          have hcan : Rt.can S s = false := by unfold Rout.can; rw [hact]; rfl
          have hN := next_stop Rt hH.out hR.out hact
          replace hN := Lib.hid hN
          replace hcan := Lib.hid hcan
          clear hact
          gi_wp2
          refine ⟨trivial, rfl, (callsIn_wide.2 hN.out).mono ?_⟩
          rintro e w2 ⟨rfl, hb2⟩
          rw [zeroStep]
          replace hb2 := Lib.hid hb2
          gi_wp2
          refine ⟨fun _ h => (by cases h), ?_⟩
          gi_wp2
          refine bodyPost_ret (results_none rfl _ _ _) rfl ?_
          have hb3 := fun o => (nx hb2.out (Nat.le_refl _) ((Below.refl _ _).alloc (Nat.le_refl _) o) : Below wr.heap.size wr (w2.alloc o))
          exact finS.out pre S s F G _ hrun.out (hH.out.below (hb3 _)) (Rt.below hR.out (hb3 _)) hoff.out hFG.out (.inr hcan.out) hle.out (hCl.out _ _ _ hCr.out (Chg.of_below (hb3 _) _)) (book_chg hBr.out (Chg.of_below (hb3 _) Z) hzl hzD)
      · gi_wp2
        go_end0
        exact finS.out pre S s F G _ hrun.out hH.out hR.out hoff.out hFG.out (.inl (by omega)) hle.out hCr.out hBr.out
end
end Go.Proofs.Ytpldnbdcpihjcaa
