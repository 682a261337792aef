import Derived.Test.YtmlnhjfdhjachaaGreatVerP
import Derived.Test.YtmlnhjfdhjachaaGreatChainP
import Derived.Test.YtmlnhjfdhjachaaGreatFindL
import Derived.Test.YtmlnhjfdhjachaaGreatReadP
import Derived.Deep.CutRange
import Derived.Deep.RegionHeld3
import Derived.StillTailTactics
/-
  A version more on a shelf (layer 24's Push). No condition.
-/
namespace Go.Proofs.YtmlnhjfdhjachaaGreat
set_option linter.unusedVariables false
open Go.ChangeShapes Go.WideShapes Go.ChangeAt Go.RowKit
open Go.ChangeMaps (setBlock)

theorem VS.ctl {S0 S : PHeap} {nb : Int} {r : Nat} {cells : List Int} {t : ByteArray} (h : VS S0 S nb r cells t) (hnb : nb ≠ 1) {i : Nat} {x : Int} (hc : CtlAt S0 i x) : CtlAt S i x := by
  obtain ⟨b, h1, h2, h3⟩ := hc
  exact ⟨b, (h.old 1 (fun e => hnb e.symm)).trans h1, h2, h3⟩
/-- The chain that begins with the new version. -/
theorem VS.chained {S0 S : PHeap} {r : Nat} {c : PChange} {epoch next : Int} {i : Nat} (h : VS S0 S (S0.last + 1) r [epoch, next, if c.has then 1 else 0] (verText c)) (hk : ∀ x ∈ S0.blocks, x.key ≤ S0.last) (hl : 1 ≤ S0.last) {l : List PVersion} (hc : Chained S0 next l) (v : Int) :
    Chained (S.set 1 i v) (S0.last + 1) (⟨S0.last + 1, epoch, c.has, c.value⟩ :: l) := by
  refine ⟨rfl, by show 2 ≤ S0.last + 1; omega, ⟨S0.last + 1, r, [epoch, next, if c.has then 1 else 0], verText c⟩, ?_, rfl, rfl, rfl, fun hh => ?_, ?_⟩
  · show (S.set 1 i v).find (S0.last + 1) = _
    rw [find_other _ _ _ _ _ (by omega)]
    exact h.new
  · show verText c = c.value
    unfold verText
    rw [if_pos hh]
  · show Chained _ next l
    refine hc.mono fun k x hk2 hx => ?_
    rw [find_other _ _ _ _ _ (by omega), h.old k (fun e => ?_)]
    · exact hx
    · have := hk x (find_mem hx).1
      have := (find_mem hx).2
      omega
theorem chVal (v : PChange) : v.val = .agg #[.string v.key, .bool v.has, .string v.value] := rfl
set_option maxRecDepth 100000 in
set_option maxHeartbeats 8000000 in
theorem push_any (c : PCfg) (hc : c.Right) {w0 w : World} {hb : Nat} {S : PHeap} {F : Nat → Prop} {K : List (Nat × Obj)} (o : OwnK w0 hb S F K w) (sh : Nat) (hsh : (sh : Int) < c.shelves) (hcl : Nat) (hhc : 3 + c.pins + c.cap + 2 * (sh : Int) + 1 = (hcl : Int)) (x : Int) (hx : CtlAt S hcl x) (hx0 : 0 ≤ x ∧ x ≤ 18446744073709551615)
    (epoch : Int) (hep : 0 ≤ epoch ∧ epoch ≤ 18446744073709551615) (v : PChange) (hv : v.value.size ≤ 1000) (hk : ∀ y ∈ S.blocks, y.key ≤ S.last) (hl1 : 1 ≤ S.last ∧ S.last ≤ 1000) (hft : S.faults = 0) :
    Calls Tryz.prog 62 #[.pointer (some ⟨hb, 0, none⟩), c.val, .int .i64 (sh : Int), .int .u64 epoch, v.val] w fun e w' => ∃ S1 F' r, e = .returned (.int .u64 (S.last + 1)) ∧ VS S S1 (S.last + 1) r [epoch, x, if v.has then 1 else 0] (verText v) ∧ OwnK w0 hb (S1.set 1 hcl (S.last + 1)) F' K w' := by
  have hH := fun W => planHead_any c hc (sh : Int) ⟨by omega, hsh⟩ W
  rw [hhc] at hH
  have hNw := fun W => verNew_any W epoch x v
  have hNo := verNew_ok epoch x v hep hx0 hv
  have B0 := (Blk.new w 24 #[.int .i64 c.cap, .int .i64 c.pins, .int .i64 c.shelves, .int .i64 c.queue, .int .i64 c.watchers, .int .u64 c.seed]).alloc (.cells #[.string v.key, .bool v.has, .string v.value] 57)
  have B1 := Blk.new (w.alloc (.cells #[.int .i64 c.cap, .int .i64 c.pins, .int .i64 c.shelves, .int .i64 c.queue, .int .i64 c.watchers, .int .u64 c.seed] 24)) 57 #[.string v.key, .bool v.has, .string v.value]
  simp only [World.size_alloc] at B1
  have oz : OwnK w0 hb S F ((w.heap.size + 1, .cells #[.string v.key, .bool v.has, .string v.value] 57) :: (w.heap.size, .cells #[.int .i64 c.cap, .int .i64 c.pins, .int .i64 c.shelves, .int .i64 c.queue, .int .i64 c.watchers, .int .u64 c.seed] 24) :: K) ((w.alloc (.cells #[.int .i64 c.cap, .int .i64 c.pins, .int .i64 c.shelves, .int .i64 c.queue, .int .i64 c.watchers, .int .u64 c.seed] 24)).alloc (.cells #[.string v.key, .bool v.has, .string v.value] 57)) := by
    have h := (o.add (.cells #[.int .i64 c.cap, .int .i64 c.pins, .int .i64 c.shelves, .int .i64 c.queue, .int .i64 c.watchers, .int .u64 c.seed] 24)).add (.cells #[.string v.key, .bool v.has, .string v.value] 57)
    simpa only [World.size_alloc] using h
  rw [show c.val = .agg #[.int .i64 c.cap, .int .i64 c.pins, .int .i64 c.shelves, .int .i64 c.queue, .int .i64 c.watchers, .int .u64 c.seed] from rfl, chVal] at *
  replace hH := Lib.hid hH
  replace hNw := Lib.hid hNw
  replace hNo := Lib.hid hNo
  replace oz := Lib.hid oz
  replace o := Lib.hid o
  replace hhc := Lib.hid hhc
  replace hx := Lib.hid hx
  replace hk := Lib.hid hk
  clear B0 B1
  generalize hlv : (if v.has = true then (1 : Int) else 0) = lv
  replace hlv := Lib.hid hlv
  go_enter Tryz.func62, Tryz.ntmps62
  go_wp2_with fail
  refine (hH.out _).mono ?_; rintro e w1 ⟨rfl, hb1⟩
  have o1 := oz.out.below hb1
  have hld := ctl_load o1.own.heap hx.out
  have B1 := o1.blk (List.mem_cons_self ..)
  have hc1 := B1.cell 0
  have hc2 := B1.cell 1
  have hc3 := B1.cell 2
  clear hb1 B1
  replace o1 := Lib.hid o1
  replace hld := Lib.hid hld
  clear hc1 hc2 hc3
  go_wp2_with fail
  refine (hld.out).mono ?_; rintro e w2 ⟨rfl, t2⟩
  have o2 := o1.out.turned t2
  have B2 := o2.blk (List.mem_cons_self ..)
  have v0 := B2.cell 0
  have v1 := B2.cell 1
  have v2 := B2.cell 2
  clear t2 B2
  generalize nw F w1 w2 = F2 at *
  replace o2 := Lib.hid o2
  go_wp2_with fail
  refine (hNw.out _).mono ?_; rintro e w3 ⟨b, ar, cc, rfl, hV, hbb, har, hb3⟩
  have o3 := o2.out.below hb3
  have hF2 := o2.out.own.heap.own
  have hw02 := o2.out.own.below.size
  have hVR : VerR w3 (fun k => k = b ∨ k = ar) b (newVer epoch x v) := ⟨fun k hk => by rcases hk with rfl | rfl; exact hV.blk.lt; exact hV.lt, .inl rfl, hNo.out, by show (0 : Int) ≤ 0 ∧ (0 : Int) ≤ 18446744073709551615; decide, ar, cc, .inr rfl, hV⟩
  have hA := alone_own verRout o3.own hVR (fun k h1 h2 => by have := hF2 k h1; rcases h2 with rfl | rfl <;> omega) (fun k hk => by rcases hk with rfl | rfl <;> omega) (by rw [hft]; decide) (by omega) 9 (by decide)
  clear v0 v1 v2
  replace hA := Lib.hid hA
  replace hV := Lib.hid hV
  replace hVR := Lib.hid hVR
  replace hb3 := Lib.hid hb3
  replace o3 := Lib.hid o3
  go_wp2_with fail
  refine (hA.out).mono ?_; rintro e w4 ⟨xs, S4, s4, F4, D4, hRun, hstop, _, rfl, o4, hR4, hnew4, hch4, hoff4⟩
  obtain ⟨r, hVS, hres⟩ := ver_alone hk.out hl1.1 hv hRun (m := 9) hstop (by decide)
  rw [hlv.out] at hVS
  obtain ⟨_, _, _, _, ar4, cc4, _, hV4⟩ := hR4
  have hRes := verResult_any hV4
  rw [hres] at hRes
  have oK4 : OwnK w0 hb S4 F4 ((w.heap.size + 1, .cells #[.string v.key, .bool v.has, .string v.value] 57) :: (w.heap.size, .cells #[.int .i64 c.cap, .int .i64 c.pins, .int .i64 c.shelves, .int .i64 c.queue, .int .i64 c.watchers, .int .u64 c.seed] 24) :: K) w4 := ⟨o4, fun y hy => by
    obtain ⟨k1, k2⟩ := o2.out.keep y hy
    have hyl := o2.out.lt hy
    have hyl3 := o3.out.lt hy
    have hn : ¬ (F2 y.1 ∨ (y.1 = b ∨ y.1 = ar)) := fun h => by
      rcases h with h | h | h
      · exact k2 h
      · omega
      · omega
    refine ⟨(hch4.block _ hyl3 hn).trans (o3.out.keep y hy).1, fun h => ?_⟩
    rcases hnew4 _ (.inl h) with h | h | h
    · exact k2 h
    · exact hn (.inr h)
    · omega⟩
  clear hRun hstop hnew4 hch4 hoff4 o4 hres
  generalize (!(verRout.act s4).2) = dn at *
  replace oK4 := Lib.hid oK4
  replace hRes := Lib.hid hRes
  replace hVS := Lib.hid hVS
  replace hV4 := Lib.hid hV4
  go_wp2_with fail
  refine (hRes.out).mono ?_; rintro e w5 ⟨rfl, hb5⟩
  have o5 := oK4.out.below hb5
  have B5 := o5.blk (List.mem_cons_of_mem _ (List.mem_cons_self ..))
  have c0 := B5.cell 0
  have c1 := B5.cell 1
  have c2 := B5.cell 2
  have c3 := B5.cell 3
  have c4 := B5.cell 4
  have c5 := B5.cell 5
  clear hb5 B5
  replace o5 := Lib.hid o5
  go_wp2_with fail
  refine (hH.out _).mono ?_; rintro e w6 ⟨rfl, hb6⟩
  have o6 := o5.out.below hb6
  have hst := ctl_store o6.own.heap (hVS.out.ctl (by omega) hx.out) (S.last + 1) (by omega)
  clear hb6 c0 c1 c2 c3 c4 c5
  replace o6 := Lib.hid o6
  replace hst := Lib.hid hst
  go_wp2_with fail
  refine (hst.out).mono ?_; rintro e w7 ⟨rfl, t7⟩
  have o7 := (o6.out.turned t7).less.less
  clear t7
  replace o7 := Lib.hid o7
  go_wp2_with fail
  go_ret
  exact ⟨S4, _, r, rfl, hVS.out, o7.out⟩
end Go.Proofs.YtmlnhjfdhjachaaGreat

/-
  A chain read alone; a version pushed; the examples of the law of chains (layer 24). No condition.
-/
namespace Go.Proofs.YtmlnhjfdhjachaaGreat
set_option linter.unusedVariables false
open Go.ChangeShapes Go.WideShapes Go.ChangeAt Go.RowKit
open Go.ChangeMaps (setBlock)

theorem OwnK.gone {w0 w w' : World} {hb b : Nat} {S S' : PHeap} {F F' : Nat → Prop} {K : List (Nat × Obj)} (h : OwnK w0 hb S F K w) (o' : Own w0 hb S' F' w') (sub : ∀ k, F' k → F k ∨ k = b ∨ w.heap.size ≤ k) (chg : Chg (fun k => F k ∨ k = b) w w') (hK : ∀ x ∈ K, x.1 ≠ b) : OwnK w0 hb S' F' K w' :=
  ⟨o', fun x hx => by
    obtain ⟨k1, k2⟩ := h.keep x hx
    have hl := h.lt hx
    refine ⟨(chg.block _ hl (fun h => h.elim k2 (hK x hx))).trans k1, fun hF => ?_⟩
    rcases sub _ hF with h1 | h1 | h1
    · exact k2 h1
    · exact hK x hx h1
    · omega⟩
/-- A shelf's chain. -/
structure Stack (S : PHeap) (i : Nat) (l : List PVersion) : Prop where
  ex : ∃ x, CtlAt S i x ∧ Chained S x l ∧ (0 ≤ x ∧ x ≤ 18446744073709551615)
  keys : ∀ y ∈ S.blocks, y.key ≤ S.last
  one : 1 ≤ S.last
  faults : S.faults = 0
theorem field_stack (c : PCfg) (hc : c.Right) (r i : Nat) (hi : i < ctlSize c) : Stack (fieldS c r) i [] :=
  ⟨⟨0, field_ctl c r i hi, rfl, by decide⟩, fun y hy => by
    simp [fieldS] at hy
    rw [hy]
    exact Int.le_refl _, Int.le_refl _, rfl⟩
theorem push_st (c : PCfg) (hc : c.Right) {w0 w : World} {hb : Nat} {S : PHeap} {F : Nat → Prop} {K : List (Nat × Obj)} (o : OwnK w0 hb S F K w) (sh : Nat) (hsh : (sh : Int) < c.shelves) (hcl : Nat) (hhc : 3 + c.pins + c.cap + 2 * (sh : Int) + 1 = (hcl : Int)) {l : List PVersion} (hst : Stack S hcl l)
    (epoch : Int) (hep : 0 ≤ epoch ∧ epoch ≤ 18446744073709551615) (v : PChange) (hv : v.value.size ≤ 1000) (hl1 : S.last ≤ 1000) :
    Calls Tryz.prog 62 #[.pointer (some ⟨hb, 0, none⟩), c.val, .int .i64 (sh : Int), .int .u64 epoch, v.val] w fun e w' => ∃ S' F', e = .returned (.int .u64 (S.last + 1)) ∧ OwnK w0 hb S' F' K w' ∧ Stack S' hcl (⟨S.last + 1, epoch, v.has, v.value⟩ :: l) ∧ S'.last = S.last + 1 := by
  obtain ⟨⟨x, hx, hch, hx0⟩, hk, h1, hf⟩ := hst
  refine (push_any c hc o sh hsh hcl hhc x hx hx0 epoch hep v hv hk ⟨h1, hl1⟩ hf).mono fun e w' ⟨S1, F', r, he, hVS, ho⟩ => ⟨_, F', he, ho, ⟨⟨S.last + 1, (hVS.ctl (by omega) hx).same _, hVS.chained hk h1 hch _, by omega⟩, fun y hy => ?_, ?_, ?_⟩, hVS.last⟩
  · obtain ⟨z, hz, rfl⟩ := List.mem_map.1 hy
    have := hVS.keys z hz
    show (if z.key = 1 then ({ z with cells := z.cells.set hcl (S.last + 1) } : PBlk) else z).key ≤ S1.last
    split <;> exact this
  · show 1 ≤ S1.last
    rw [hVS.last]
    omega
  · show S1.faults = 0
    rw [hVS.faults, hf]
theorem calone {w0 w : World} {hb b : Nat} {S : PHeap} {F : Nat → Prop} {K : List (Nat × Obj)} {i : Nat} {e : Int} {l : List PVersion} (o : OwnK w0 hb S F K w) (hN : ChainIn w b (newChain i e)) (hnF : ¬ F b) (hb0 : w0.heap.size ≤ b) (hK : ∀ x ∈ K, x.1 ≠ b) (hst : Stack S i l) (hl : S.last ≤ 1000) (hll : l.length ≤ 90) (most : Int) (hm : 2 * (l.length : Int) + 3 ≤ most ∧ most ≤ 1000) :
    Calls Tryz.prog 20 #[.pointer (some ⟨hb, 0, none⟩), .iface 94 (.pointer (some ⟨b, 0, none⟩)), .int .i64 most] w fun e' w' => ∃ s F', e' = .returned (.tuple #[.int .i64 (((readV e l 0).2.2 + 1 : Nat) : Int), .bool true]) ∧ OwnK w0 hb S F' K w' ∧ ChainIn w' b s ∧ s.result = ((readV e l 0).1, true) ∧ s.passed = (readV e l 0).2.1 := by
  obtain ⟨⟨x, hx, hch, hx0⟩, hk, h1, hf⟩ := hst
  refine (alone_own chainRout o.own (chainR_fresh hN) (fun k h1 h2 => hnF (h2 ▸ h1)) (fun k hk => by rw [hk]; exact hb0) (by rw [hf]; decide) (by omega) most (by omega)).mono fun e' w' ⟨xs, S', s', F', D', hRun, hstop, _, he, o', hR', hsub, hch', hoff⟩ => ?_
  obtain ⟨hn, hS', hp, hr, hps⟩ := chain_alone hx hch (by omega) hRun hstop (by omega)
  subst hS'
  refine ⟨s', F', ?_, o.gone o' (fun k hk => ?_) hch' hK, hR'.2.2, hr, hps⟩
  · rw [he, hn, show (!(chainRout.act s').2) = true from by show (!(PChain.act s').2) = true; unfold PChain.act; rw [hp]; simp [noAct]]
  · rcases hsub k (.inl hk) with h | h | h
    · exact .inl h
    · exact .inr (.inl h)
    · exact .inr (.inr h)
theorem tinyVal4 : tinyC.val = .agg #[.int .i64 2, .int .i64 2, .int .i64 3, .int .i64 2, .int .i64 1, .int .u64 0] := rfl
def chV : PChange := ⟨⟨#[]⟩, true, ⟨#[118]⟩⟩
def chN : PChange := ⟨⟨#[]⟩, false, ⟨#[]⟩⟩
end Go.Proofs.YtmlnhjfdhjachaaGreat

/-
  The law of chains (layer 24): what its loops reckon (the plain law). No condition.
-/
namespace Go.Proofs.YtmlnhjfdhjachaaGreat
set_option linter.unusedVariables false
open Go.ChangeShapes Go.WideShapes Go.ChangeAt Go.RowKit
open Go.ChangeMaps (setBlock)

/-- The versions that were pushed, the newest first. -/
def revV (vs : Nat → PVersion) : Nat → List PVersion
  | 0 => []
  | k + 1 => vs k :: revV vs k
theorem revV_len (vs : Nat → PVersion) : ∀ k, (revV vs k).length = k
  | 0 => rfl
  | k + 1 => by show (revV vs k).length + 1 = k + 1; rw [revV_len vs k]
def PVersion.shown (v : PVersion) : Bool × ByteArray × Int := (v.has, if v.has then v.text else ByteArray.empty, v.blk)
/-- What is wanted of the first k versions at an epoch, and which one it is. -/
def wantV (vs : Nat → PVersion) (at_ : Int) : Nat → (Bool × ByteArray × Int) × Option Nat
  | 0 => ((false, ByteArray.empty, 0), none)
  | k + 1 => if (vs k).epoch ≤ at_ then ((vs k).shown, some k) else wantV vs at_ k
def passedV (n : Nat) : Option Nat → Int
  | none => n
  | some i => (n : Int) - 1 - i
theorem wantV_lt (vs : Nat → PVersion) (at_ : Int) : ∀ k i, (wantV vs at_ k).2 = some i → i < k
  | 0, i, h => by cases h
  | k + 1, i, h => by
    unfold wantV at h
    split at h
    · injection h with h; omega
    · have := wantV_lt vs at_ k i h; omega
theorem read_want (vs : Nat → PVersion) (at_ : Int) : ∀ (k : Nat) (p : Int), (readV at_ (revV vs k) p).1 = (wantV vs at_ k).1 ∧ (readV at_ (revV vs k) p).2.1 = p + passedV k (wantV vs at_ k).2 ∧ ((readV at_ (revV vs k) p).2.2 : Int) ≤ 2 * passedV k (wantV vs at_ k).2 + 3
  | 0, p => ⟨rfl, by show p = p + ((0 : Nat) : Int); omega, by show ((0 : Nat) : Int) ≤ 2 * ((0 : Nat) : Int) + 3; omega⟩
  | k + 1, p => by
    obtain ⟨h1, h2, h3⟩ := read_want vs at_ k (p + 1)
    unfold revV wantV readV
    by_cases he : (vs k).epoch ≤ at_
    · rw [if_neg (by omega), if_pos he]
      cases hh : (vs k).has with
      | true =>
        simp only [if_true]
        refine ⟨by unfold PVersion.shown; rw [hh]; rfl, ?_, ?_⟩
        · show p = p + (((k + 1 : Nat) : Int) - 1 - k)
          omega
        · show ((3 : Nat) : Int) ≤ 2 * (((k + 1 : Nat) : Int) - 1 - k) + 3
          omega
      | false =>
        simp only [Bool.false_eq_true, if_false]
        refine ⟨by unfold PVersion.shown; rw [hh]; rfl, ?_, ?_⟩
        · show p = p + (((k + 1 : Nat) : Int) - 1 - k)
          omega
        · show ((2 : Nat) : Int) ≤ 2 * (((k + 1 : Nat) : Int) - 1 - k) + 3
          omega
    · rw [if_pos (by omega), if_neg he]
      have hp : passedV (k + 1) (wantV vs at_ k).2 = passedV k (wantV vs at_ k).2 + 1 := by
        cases (wantV vs at_ k).2 with
        | none => show ((k + 1 : Nat) : Int) = (k : Int) + 1; omega
        | some i => show ((k + 1 : Nat) : Int) - 1 - i = (k : Int) - 1 - i + 1; omega
      refine ⟨h1, ?_, ?_⟩
      · show (readV at_ (revV vs k) (p + 1)).2.1 = _
        rw [h2, hp]
        omega
      · show (((readV at_ (revV vs k) (p + 1)).2.2 + 2 : Nat) : Int) ≤ _
        rw [hp]
        omega
theorem passed_ok (vs : Nat → PVersion) (at_ : Int) (k : Nat) : 0 ≤ passedV k (wantV vs at_ k).2 ∧ passedV k (wantV vs at_ k).2 ≤ k := by
  cases h : (wantV vs at_ k).2 with
  | none => show 0 ≤ (k : Int) ∧ (k : Int) ≤ k; omega
  | some i =>
    have := wantV_lt vs at_ k i h
    show 0 ≤ (k : Int) - 1 - i ∧ (k : Int) - 1 - i ≤ k
    omega
/-- The k-th epoch. -/
def epochN (zs : List Int) : Nat → Int
  | 0 => 0
  | k + 1 => epochN zs k + zs.getD k 0 % 5 + 1
theorem epochN_ok (zs : List Int) : ∀ k : Nat, (k : Int) ≤ epochN zs k ∧ epochN zs k ≤ 5 * k
  | 0 => ⟨Int.le_refl _, by show (0 : Int) ≤ _; omega⟩
  | k + 1 => by
    have h := epochN_ok zs k
    have h1 := Int.emod_nonneg (zs.getD k 0) (b := 5) (by decide)
    have h2 := Int.emod_lt_of_pos (zs.getD k 0) (b := 5) (by decide)
    have e : epochN zs (k + 1) = epochN zs k + zs.getD k 0 % 5 + 1 := rfl
    omega
end Go.Proofs.YtmlnhjfdhjachaaGreat

/-
  Rows of uint64 that the call owns, beside a heap of its own; changes that came in (layer 24). No condition.
-/
namespace Go.Proofs.YtmlnhjfdhjachaaGreat
set_option linter.unusedVariables false
open Go.ChangeShapes Go.WideShapes Go.ChangeAt Go.RowKit
open Go.ChangeMaps (setBlock)

structure URow (v : Value) (g : Nat) (o : Obj) (xs : List Int) : Prop where
  ex : ∃ cap cur, v = .slice (some ⟨g, 0, none⟩) xs.length cap ∧ o = .cells cur 22 ∧ xs.length ≤ cap ∧ cap ≤ maxLen ∧ cur.size = cap * 1 ∧ cur.toList.take (xs.length * 1) = xs.map (Value.int .u64)
theorem URow.nil (g : Nat) : URow (.slice (some ⟨g, 0, none⟩) 0 0) g (.cells #[] 22) [] := ⟨0, #[], rfl, rfl, Nat.le_refl _, Nat.zero_le _, rfl, rfl⟩
theorem URow.own {v : Value} {g : Nat} {o : Obj} {xs : List Int} (h : URow v g o xs) {W : World} {base : Nat} (hW : W.heap[g]? = some o) (hb : base ≤ g) : W.ownsRow base 22 1 v xs.length (xs.map (Value.int .u64)) := by
  obtain ⟨cap, cur, e1, e2, e3, e4, e5, e6⟩ := h.ex
  exact ⟨by simp, .inr ⟨g, cap, cur, e1, hb, by rw [hW, e2], e3, e4, e5, e6⟩⟩
theorem URow.block {v : Value} {g : Nat} {o : Obj} {xs : List Int} (h : URow v g o xs) : v.ownBlock = some g := by
  obtain ⟨cap, cur, e1, _⟩ := h.ex
  rw [e1]
  rfl
theorem URow.slice {v : Value} {g : Nat} {o : Obj} {xs : List Int} (h : URow v g o xs) : ∃ cap, v = .slice (some ⟨g, 0, none⟩) xs.length cap := by
  obtain ⟨cap, cur, e1, _⟩ := h.ex
  exact ⟨cap, e1⟩
theorem URow.of_own {W : World} {base n : Nat} {v : Value} {xs : List Int} (h : W.ownsRow base 22 1 v n (xs.map (Value.int .u64))) (hn : 0 < n) : ∃ g o, W.heap[g]? = some o ∧ URow v g o xs ∧ base ≤ g := by
  have hl : xs.length = n := by have := h.1; simpa using this
  rcases h.2 with ⟨_, h0⟩ | ⟨g, cap, cur, e1, e2, e3, e4, e5, e6, e7⟩
  · omega
  · exact ⟨g, _, e3, ⟨cap, cur, by rw [hl]; exact e1, rfl, by omega, e5, e6, by rw [hl]; exact e7⟩, e2⟩
theorem URow.cell {v : Value} {g : Nat} {o : Obj} {xs : List Int} (h : URow v g o xs) {W : World} (hW : W.heap[g]? = some o) {j : Nat} {x : Int} (hx : xs[j]? = some x) : W.cell? ⟨g, j, none⟩ = some (.int .u64 x) := by
  have h1 := (h.own (base := 0) hW (Nat.zero_le _)).cells (g := g) h.block j (.int .u64 x) (by simp [hx])
  have e2 : (⟨g, 0, none⟩ : Addr).add j = ⟨g, j, none⟩ := by unfold Addr.add; split <;> simp_all
  rw [e2] at h1
  exact h1
theorem OwnK.swap {w0 w : World} {hb : Nat} {S : PHeap} {F : Nat → Prop} {K : List (Nat × Obj)} {a b : Nat × Obj} (h : OwnK w0 hb S F (a :: b :: K) w) : OwnK w0 hb S F (b :: a :: K) w := ⟨h.own, fun x hx => h.keep x (by
  rcases List.mem_cons.1 hx with rfl | hx
  · exact List.mem_cons_of_mem _ (List.mem_cons_self ..)
  · rcases List.mem_cons.1 hx with rfl | hx
    · exact List.mem_cons_self ..
    · exact List.mem_cons_of_mem _ (List.mem_cons_of_mem _ hx))⟩
/-- One of the blocks has grown, where it is or into a new one. -/
theorem OwnK.grow {w0 W w' : World} {hb : Nat} {S : PHeap} {F : Nat → Prop} {K : List (Nat × Obj)} {g g' : Nat} {o o' : Obj} (h : OwnK w0 hb S F ((g, o) :: K) W) (h0 : w0.heap.size ≤ g) (hK : ∀ x ∈ K, x.1 ≠ g) (hgr : W.grownBy w' (some g)) (hloc : g' = g ∨ g' = W.heap.size) (ho : w'.heap[g']? = some o') :
    OwnK w0 hb S F ((g', o') :: K) w' ∧ (∀ x ∈ K, x.1 ≠ g') ∧ w0.heap.size ≤ g' := by
  have hg := h.keep _ (List.mem_cons_self ..)
  have hgl := h.lt (List.mem_cons_self ..)
  simp only at hg hgl
  have keepB : ∀ k, k < W.heap.size → k ≠ g → w'.heap[k]? = W.heap[k]? := fun k hk hne => hgr.block k hk (fun e => hne (by injection e))
  have hFg' : ¬ F g' := fun hF => by
    rcases hloc with rfl | rfl
    · exact hg.2 hF
    · have := h.own.heap.own _ hF
      omega
  refine ⟨⟨⟨h.own.heap.keep hgr.size fun k hk => keepB k (h.own.heap.own k hk) (fun e => hg.2 (e ▸ hk)), h.own.new, ⟨hgr.os.trans h.own.below.os, hgr.tape.trans h.own.below.tape, hgr.output.trans h.own.below.output, Nat.le_trans h.own.below.size hgr.size, fun k hk => (keepB k (Nat.lt_of_lt_of_le hk h.own.below.size) (by omega)).trans (h.own.below.block k hk)⟩⟩, fun x hx => ?_⟩, fun x hx => ?_, ?_⟩
  · rcases List.mem_cons.1 hx with rfl | hx
    · exact ⟨ho, hFg'⟩
    · obtain ⟨k1, k2⟩ := h.keep x (List.mem_cons_of_mem _ hx)
      exact ⟨(keepB _ (h.lt (List.mem_cons_of_mem _ hx)) (hK x hx)).trans k1, k2⟩
  · rcases hloc with rfl | rfl
    · exact hK x hx
    · have := h.lt (List.mem_cons_of_mem _ hx)
      omega
  · rcases hloc with rfl | rfl
    · exact h0
    · exact h.own.below.size
def chL (l : List PChange) : List Value := l.flatMap fun c => [Value.string c.key, .bool c.has, .string c.value]
theorem chL_at : ∀ (l : List PChange) (k : Nat) (c : PChange), l[k]? = some c → (chL l)[k * 3]? = some (.string c.key) ∧ (chL l)[k * 3 + 1]? = some (.bool c.has) ∧ (chL l)[k * 3 + 2]? = some (.string c.value)
  | [], k, c, h => by simp at h
  | d :: l, 0, c, h => by
    have e : d = c := by simpa using h
    subst e
    exact ⟨rfl, rfl, rfl⟩
  | d :: l, k + 1, c, h => by
    have h2 := chL_at l k c (by simpa using h)
    have e : ∀ j, (chL (d :: l))[j + 3]? = (chL l)[j]? := fun j => by
      show ([Value.string d.key, .bool d.has, .string d.value] ++ chL l)[j + 3]? = _
      rw [List.getElem?_append_right (by simp)]
      rfl
    rw [show (k + 1) * 3 = k * 3 + 3 by omega, e, show k * 3 + 3 + 1 = k * 3 + 1 + 3 by omega, e, show k * 3 + 3 + 2 = k * 3 + 2 + 3 by omega, e]
    exact h2
def esL (zs : List Int) (k : Nat) : List Int := (List.range k).map fun j => epochN zs (j + 1)
def bsL (k : Nat) : List Int := (List.range k).map fun j : Nat => ((j : Nat) : Int) + 2
theorem esL_succ (zs : List Int) (k : Nat) : esL zs k ++ [epochN zs (k + 1)] = esL zs (k + 1) := by simp [esL, List.range_succ]
theorem bsL_succ (k : Nat) : bsL k ++ [(k : Int) + 2] = bsL (k + 1) := by simp [bsL, List.range_succ]
theorem esL_len (zs : List Int) (k : Nat) : (esL zs k).length = k := by simp [esL]
theorem bsL_len (k : Nat) : (bsL k).length = k := by simp [bsL]
theorem esL_at (zs : List Int) {k j : Nat} (h : j < k) : (esL zs k)[j]? = some (epochN zs (j + 1)) := by simp [esL, h]
theorem bsL_at {k j : Nat} (h : j < k) : (bsL k)[j]? = some ((j : Int) + 2) := by simp [bsL, h]
def verOf (zs : List Int) (chs : List PChange) (j : Nat) : PVersion := ⟨(j : Int) + 2, epochN zs (j + 1), (chs.getD j chN).has, (chs.getD j chN).value⟩
end Go.Proofs.YtmlnhjfdhjachaaGreat

/-
  What lies in a field, when a key is put, when a version is pushed: the plain law. No condition.
-/
namespace Go.Proofs.YtmlnhjfdhjachaaGreat
set_option linter.unusedVariables false
open Go.ChangeShapes Go.WideShapes Go.ChangeAt Go.RowKit
open Go.ChangeMaps (setBlock)

theorem field_laid (c : PCfg) (hc : c.Right) (r : Nat) : Laid (fieldS c r) c (fun _ => none) (fun _ => []) (fun _ => 0) 0 := by
  have hs := ctlSize_eq hc
  have h1 := hc.pins
  have h2 := hc.cap
  have h3 := hc.shelves
  refine ⟨field_shelved c hc r, fun j hj => ⟨0, field_ctl c r _ (by have := kcell_eq hc j; omega), rfl, by decide⟩, fun j hj => field_ctl c r _ (by omega), field_ctl c r 0 (by omega), rfl⟩
theorem Laid.put {S : PHeap} {c : PCfg} {tx : Nat → Option ByteArray} {st : Nat → List PVersion} {pn : Nat → Int} {e : Int} (h : Laid S c tx st pn e) (hc : c.Right) (p : Nat) (hp : (p : Int) < c.shelves) (r : Nat) (t : ByteArray) :
    Laid ((S.more r t).set 1 (kcell c p) (S.last + 1)) c (putT tx p t) st pn e := by
  have hold : ∀ k x, 2 ≤ k → S.find k = some x → ((S.more r t).set 1 (kcell c p) (S.last + 1)).find k = some x := fun k x h2 hx => by
    rw [find_other _ _ _ _ _ (by omega)]
    exact more_find_old hx r t
  have hkp := kcell_eq hc p
  have h1 := hc.pins
  have h2 := hc.cap
  refine ⟨h.shelved.put p hp r t, fun j hj => ?_, fun j hj => ?_, ?_, h.faults⟩
  · obtain ⟨x, k1, k2, k3⟩ := h.stack j hj
    have hkj := kcell_eq hc j
    exact ⟨x, (k1.more r t).other _ (by omega), Chained.mono hold k2, k3⟩
  · exact ((h.pins j hj).more r t).other _ (by omega)
  · exact (h.epoch.more r t).other _ (by omega)
def putS (st : Nat → List PVersion) (p : Nat) (v : PVersion) : Nat → List PVersion := fun j => if j = p then v :: st j else st j
theorem Laid.push {S S1 : PHeap} {c : PCfg} {tx : Nat → Option ByteArray} {st : Nat → List PVersion} {pn : Nat → Int} {e x ep : Int} {r : Nat} {v : PChange} (h : Laid S c tx st pn e) (hc : c.Right) (p : Nat) (hp : (p : Int) < c.shelves) (hl : S.last ≤ 1000000) (hx : CtlAt S (kcell c p + 1) x) (hch : Chained S x (st p))
    (hVS : VS S S1 (S.last + 1) r [ep, x, if v.has then 1 else 0] (verText v)) : Laid (S1.set 1 (kcell c p + 1) (S.last + 1)) c tx (putS st p ⟨S.last + 1, ep, v.has, v.value⟩) pn e := by
  have hone := h.shelved.one
  have hold : ∀ k y, 2 ≤ k → S.find k = some y → (S1.set 1 (kcell c p + 1) (S.last + 1)).find k = some y := fun k y h2 hy => by
    rw [find_other _ _ _ _ _ (by omega), hVS.old k (fun e => by
      have hm := find_mem hy
      have := h.shelved.keys y hm.1
      rw [hm.2] at this
      omega)]
    exact hy
  have hkp := kcell_eq hc p
  have h1 := hc.pins
  have h2 := hc.cap
  have hne : S.last + 1 ≠ 1 := by omega
  refine ⟨⟨fun j hj => ?_, ?_, by show 1 ≤ S1.last; rw [hVS.last]; omega⟩, fun j hj => ?_, fun j hj => ?_, ?_, by show S1.faults = 0; rw [hVS.faults]; exact h.faults⟩
  · obtain ⟨y, k1, k2, k3⟩ := h.shelved.at_ j hj
    have hkj := kcell_eq hc j
    refine ⟨y, (hVS.ctl hne k1).other _ (by omega), k2, fun t ht => ?_⟩
    obtain ⟨k4, b, k5, k6⟩ := k3 t ht
    exact ⟨k4, b, hold _ _ k4 k5, k6⟩
  · exact set_keys hVS.keys
  · by_cases hjp : j = p
    · subst hjp
      refine ⟨S.last + 1, (hVS.ctl hne hx).same _, ?_, by omega⟩
      unfold putS
      rw [if_pos rfl]
      exact hVS.chained h.shelved.keys hone hch _
    · obtain ⟨y, k1, k2, k3⟩ := h.stack j hj
      have hkj := kcell_eq hc j
      unfold putS
      rw [if_neg hjp]
      exact ⟨y, (hVS.ctl hne k1).other _ (by omega), Chained.mono hold k2, k3⟩
  · exact (hVS.ctl hne (h.pins j hj)).other _ (by omega)
  · exact (hVS.ctl hne h.epoch).other _ (by omega)
end Go.Proofs.YtmlnhjfdhjachaaGreat

/-
  Laying a version (layer 26's law): what it does to a field. No condition.
-/
namespace Go.Proofs.YtmlnhjfdhjachaaGreat
set_option linter.unusedVariables false
open Go.ChangeShapes Go.WideShapes Go.ChangeAt Go.RowKit
open Go.ChangeMaps (setBlock)

set_option maxRecDepth 100000 in
set_option maxHeartbeats 4000000 in
theorem layNo_any {w0 w : World} {hb : Nat} {S : PHeap} {F : Nat → Prop} {K : List (Nat × Obj)} {c : PCfg} {tx : Nat → Option ByteArray} {st : Nat → List PVersion} {pn : Nat → Int} {e ep : Int} {key value : ByteArray} {has : Bool} (hc : c.Right) (o : OwnK w0 hb S F K w) (hL : Laid S c tx st pn e) (hl : S.last ≤ 900)
    (hkey : key.size ≤ 9223372036854775807) (hval : value.size ≤ 1000) (hep : 0 ≤ ep ∧ ep ≤ 18446744073709551615) (h3 : (lookP key (plN c key) tx c.shelves.toNat 0).1 = 3) :
    Calls Tryz.prog 17 #[.pointer (some ⟨hb, 0, none⟩), .agg #[.int .i64 c.cap, .int .i64 c.pins, .int .i64 c.shelves, .int .i64 c.queue, .int .i64 c.watchers, .int .u64 c.seed], .int .u64 ep, .agg #[.string key, .bool has, .string value]] w fun x w' => ∃ F', x = .returned (.bool false) ∧ OwnK w0 hb S F' K w' := by
  have hNw := fun W => findNew_any c key hkey W
  rw [show c.val = .agg #[.int .i64 c.cap, .int .i64 c.pins, .int .i64 c.shelves, .int .i64 c.queue, .int .i64 c.watchers, .int .u64 c.seed] from rfl] at hNw
  have o1 := (o.add (.cells #[.int .i64 c.cap, .int .i64 c.pins, .int .i64 c.shelves, .int .i64 c.queue, .int .i64 c.watchers, .int .u64 c.seed] 24)).add (.cells #[.string key, .bool has, .string value] 57)
  have hb0 := o.own.below.size
  have B0 := o1.blk (List.mem_cons_of_mem _ (List.mem_cons_self ..))
  have B1 := o1.blk (List.mem_cons_self ..)
  simp only [World.size_alloc] at B1
  have c0 := B0.cell 0
  have c1 := B0.cell 1
  have c2 := B0.cell 2
  have c3 := B0.cell 3
  have c4 := B0.cell 4
  have c5 := B0.cell 5
  have v0 := B1.cell 0
  have hsw := o.own.heap.own
  replace hNw := Lib.hid hNw
  replace o := Lib.hid o
  replace o1 := Lib.hid o1
  replace B0 := Lib.hid B0
  replace B1 := Lib.hid B1
  replace hL := Lib.hid hL
  go_enter Tryz.func17, Tryz.ntmps17
  go_wp2_with fail
  refine (hNw.out _).mono ?_; rintro x w1 ⟨b, rfl, hN, hbb, hb1⟩
  simp only [World.size_alloc] at hbb
  have o2 := o1.out.below hb1
  have hA := falone hc o2.own hN (fun h => by have := o1.out.own.heap.own _ h; simp only [World.size_alloc] at this; omega) (by omega) hL.out.shelved hL.out.faults (by omega)
  have hKb : ∀ x ∈ ((w.alloc (.cells #[.int .i64 c.cap, .int .i64 c.pins, .int .i64 c.shelves, .int .i64 c.queue, .int .i64 c.watchers, .int .u64 c.seed] 24)).heap.size, Obj.cells #[.string key, .bool has, .string value] 57) :: (w.heap.size, Obj.cells #[.int .i64 c.cap, .int .i64 c.pins, .int .i64 c.shelves, .int .i64 c.queue, .int .i64 c.watchers, .int .u64 c.seed] 24) :: K, x.1 ≠ b := fun x hx => by have := o1.out.lt hx; simp only [World.size_alloc] at this; omega
  clear hb1 c0 c1 c2 c3 c4 c5 v0
  replace o2 := Lib.hid o2
  replace hN := Lib.hid hN
  replace hA := Lib.hid hA
  replace hKb := Lib.hid hKb
  go_wp2_with fail
  refine (hA.out).mono ?_; rintro x w2 ⟨s, F2, rfl, hLk⟩
  have o3 := o2.out.looked hLk hKb.out
  have hRs := findResult_any hLk.lies
  rw [hLk.res, h3] at hRs
  clear hA hLk
  replace o3 := Lib.hid o3
  replace hRs := Lib.hid hRs
  go_wp2_with fail
  refine (hRs.out).mono ?_; rintro x w3 ⟨rfl, hb3⟩
  have o4 := (o3.out.below hb3).add (.cells #[.int .i64 3, .int .i64 (lookP key (plN c key) tx c.shelves.toNat 0).2.1] 120)
  have R4 := o4.blk (List.mem_cons_self ..)
  have V4 := o4.blk (List.mem_cons_of_mem _ (List.mem_cons_self ..))
  have C4 := o4.blk (List.mem_cons_of_mem _ (List.mem_cons_of_mem _ (List.mem_cons_self ..)))
  simp only [World.size_alloc] at V4
  have r0 := R4.cell 0
  have r1 := R4.cell 1
  have x0 := C4.cell 0
  have x1 := C4.cell 1
  have x2 := C4.cell 2
  have x3 := C4.cell 3
  have x4 := C4.cell 4
  have x5 := C4.cell 5
  have y0 := V4.cell 0
  have y1 := V4.cell 1
  have y2 := V4.cell 2
  have hl4 := R4.lt
  have hl5 := V4.lt
  have hl6 := C4.lt
  simp only [World.size_alloc] at hl4 hl5 hl6
  clear hb3 hRs
  replace o4 := Lib.hid o4
  replace R4 := Lib.hid R4
  replace V4 := Lib.hid V4
  replace C4 := Lib.hid C4
  go_wp2_with fail
  go_ret
  exact ⟨_, rfl, o4.out.less.less.less⟩
/-- A version is pushed: what was there stays. -/
theorem push_old {S S1 : PHeap} {r : Nat} {cells : List Int} {t : ByteArray} (hk : ∀ x ∈ S.blocks, x.key ≤ S.last) (hVS : VS S S1 (S.last + 1) r cells t) (i : Nat) (v : Int) : ∀ k y, 2 ≤ k → S.find k = some y → (S1.set 1 i v).find k = some y := fun k y h2 hy => by
  rw [find_other _ _ _ _ _ (by omega), hVS.old k (fun e => by
    have hm := find_mem hy
    have := hk y hm.1
    rw [hm.2] at this
    omega)]
  exact hy
set_option maxRecDepth 100000 in
set_option maxHeartbeats 4000000 in
theorem layHere_any {w0 w : World} {hb : Nat} {S : PHeap} {F : Nat → Prop} {K : List (Nat × Obj)} {c : PCfg} {tx : Nat → Option ByteArray} {st : Nat → List PVersion} {pn : Nat → Int} {e ep : Int} {key value : ByteArray} {has : Bool} (hc : c.Right) (o : OwnK w0 hb S F K w) (hL : Laid S c tx st pn e) (hl : S.last ≤ 900)
    (hkey : key.size ≤ 9223372036854775807) (hval : value.size ≤ 1000) (hep : 0 ≤ ep ∧ ep ≤ 18446744073709551615) (p : Nat) (hp : (p : Int) < c.shelves) (h1 : (lookP key (plN c key) tx c.shelves.toNat 0).1 = 1) (h2 : (lookP key (plN c key) tx c.shelves.toNat 0).2.1 = p) :
    Calls Tryz.prog 17 #[.pointer (some ⟨hb, 0, none⟩), .agg #[.int .i64 c.cap, .int .i64 c.pins, .int .i64 c.shelves, .int .i64 c.queue, .int .i64 c.watchers, .int .u64 c.seed], .int .u64 ep, .agg #[.string key, .bool has, .string value]] w fun x w' => ∃ S' F' bk, x = .returned (.bool true) ∧ OwnK w0 hb S' F' K w' ∧ Laid S' c tx (putS st p ⟨bk, ep, has, value⟩) pn e ∧ S'.last ≤ S.last + 2 ∧ (∀ k y, 2 ≤ k → S.find k = some y → S'.find k = some y) ∧ w.heap.size ≤ w'.heap.size := by
  have hNw := fun W => findNew_any c key hkey W
  rw [show c.val = .agg #[.int .i64 c.cap, .int .i64 c.pins, .int .i64 c.shelves, .int .i64 c.queue, .int .i64 c.watchers, .int .u64 c.seed] from rfl] at hNw
  have o1 := (o.add (.cells #[.int .i64 c.cap, .int .i64 c.pins, .int .i64 c.shelves, .int .i64 c.queue, .int .i64 c.watchers, .int .u64 c.seed] 24)).add (.cells #[.string key, .bool has, .string value] 57)
  have hb0 := o.own.below.size
  have B0 := o1.blk (List.mem_cons_of_mem _ (List.mem_cons_self ..))
  have B1 := o1.blk (List.mem_cons_self ..)
  simp only [World.size_alloc] at B1
  have c0 := B0.cell 0
  have c1 := B0.cell 1
  have c2 := B0.cell 2
  have c3 := B0.cell 3
  have c4 := B0.cell 4
  have c5 := B0.cell 5
  have v0 := B1.cell 0
  have hsw := o.own.heap.own
  replace hNw := Lib.hid hNw
  replace o := Lib.hid o
  replace o1 := Lib.hid o1
  replace B0 := Lib.hid B0
  replace B1 := Lib.hid B1
  replace hL := Lib.hid hL
  go_enter Tryz.func17, Tryz.ntmps17
  go_wp2_with fail
  refine (hNw.out _).mono ?_; rintro x w1 ⟨b, rfl, hN, hbb, hb1⟩
  simp only [World.size_alloc] at hbb
  have o2 := o1.out.below hb1
  have hA := falone hc o2.own hN (fun h => by have := o1.out.own.heap.own _ h; simp only [World.size_alloc] at this; omega) (by omega) hL.out.shelved hL.out.faults (by omega)
  have hKb : ∀ x ∈ ((w.alloc (.cells #[.int .i64 c.cap, .int .i64 c.pins, .int .i64 c.shelves, .int .i64 c.queue, .int .i64 c.watchers, .int .u64 c.seed] 24)).heap.size, Obj.cells #[.string key, .bool has, .string value] 57) :: (w.heap.size, Obj.cells #[.int .i64 c.cap, .int .i64 c.pins, .int .i64 c.shelves, .int .i64 c.queue, .int .i64 c.watchers, .int .u64 c.seed] 24) :: K, x.1 ≠ b := fun x hx => by have := o1.out.lt hx; simp only [World.size_alloc] at this; omega
  clear hb1 c0 c1 c2 c3 c4 c5 v0
  replace o2 := Lib.hid o2
  replace hN := Lib.hid hN
  replace hA := Lib.hid hA
  replace hKb := Lib.hid hKb
  go_wp2_with fail
  refine (hA.out).mono ?_; rintro x w2 ⟨s, F2, rfl, hLk⟩
  have o3 := o2.out.looked hLk hKb.out
  have hRs := findResult_any hLk.lies
  rw [hLk.res, h1, h2] at hRs
  clear hA hLk
  replace o3 := Lib.hid o3
  replace hRs := Lib.hid hRs
  go_wp2_with fail
  refine (hRs.out).mono ?_; rintro x w3 ⟨rfl, hb3⟩
  have o4 := (o3.out.below hb3).add (.cells #[.int .i64 1, .int .i64 (p : Int)] 120)
  have R4 := o4.blk (List.mem_cons_self ..)
  have V4 := o4.blk (List.mem_cons_of_mem _ (List.mem_cons_self ..))
  have C4 := o4.blk (List.mem_cons_of_mem _ (List.mem_cons_of_mem _ (List.mem_cons_self ..)))
  simp only [World.size_alloc] at V4
  have r0 := R4.cell 0
  have r1 := R4.cell 1
  have x0 := C4.cell 0
  have x1 := C4.cell 1
  have x2 := C4.cell 2
  have x3 := C4.cell 3
  have x4 := C4.cell 4
  have x5 := C4.cell 5
  have y0 := V4.cell 0
  have y1 := V4.cell 1
  have y2 := V4.cell 2
  have hl4 := R4.lt
  have hl5 := V4.lt
  have hl6 := C4.lt
  simp only [World.size_alloc] at hl4 hl5 hl6
  clear hb3 hRs
  obtain ⟨xc, hx1, hx2, hx3⟩ := hL.out.stack p hp
  have hPu := push_any c hc o4 p hp (kcell c p + 1) (by have := kcell_eq hc p; omega) xc hx1 hx3 ep hep ⟨key, has, value⟩ hval hL.out.shelved.keys ⟨hL.out.shelved.one, by omega⟩ hL.out.faults
  rw [show PChange.val ⟨key, has, value⟩ = .agg #[.string key, .bool has, .string value] from rfl, show c.val = .agg #[.int .i64 c.cap, .int .i64 c.pins, .int .i64 c.shelves, .int .i64 c.queue, .int .i64 c.watchers, .int .u64 c.seed] from rfl] at hPu
  replace o4 := Lib.hid o4
  replace R4 := Lib.hid R4
  replace V4 := Lib.hid V4
  replace C4 := Lib.hid C4
  replace hPu := Lib.hid hPu
  replace hx1 := Lib.hid hx1
  replace hx2 := Lib.hid hx2
  replace hx3 := Lib.hid hx3
  go_wp2_with fail
  refine (hPu.out).mono ?_; rintro x w5 ⟨S5, F5, r5, rfl, hVS, o5⟩
  replace hVS := Lib.hid hVS
  replace o5 := Lib.hid o5
  go_wp2_with fail
  go_ret
  exact ⟨_, _, _, rfl, o5.out.less.less.less, hL.out.push (v := ⟨key, has, value⟩) hc p hp (by omega) hx1.out hx2.out hVS.out, by show S5.last ≤ _; rw [hVS.out.last]; omega, push_old hL.out.shelved.keys hVS.out _ _, Nat.le_of_lt (o5.out.lt (List.mem_cons_of_mem _ (List.mem_cons_of_mem _ (List.mem_cons_self ..))))⟩
set_option maxRecDepth 100000 in
set_option maxHeartbeats 4000000 in
theorem layFree_any {w0 w : World} {hb : Nat} {S : PHeap} {F : Nat → Prop} {K : List (Nat × Obj)} {c : PCfg} {tx : Nat → Option ByteArray} {st : Nat → List PVersion} {pn : Nat → Int} {e ep : Int} {key value : ByteArray} {has : Bool} (hc : c.Right) (o : OwnK w0 hb S F K w) (hL : Laid S c tx st pn e) (hl : S.last ≤ 900)
    (hkey : key.size ≤ 9223372036854775807) (hval : value.size ≤ 1000) (hep : 0 ≤ ep ∧ ep ≤ 18446744073709551615) (p : Nat) (hp : (p : Int) < c.shelves) (h1 : (lookP key (plN c key) tx c.shelves.toNat 0).1 = 2) (h2 : (lookP key (plN c key) tx c.shelves.toNat 0).2.1 = p) (htp : tx p = none) :
    Calls Tryz.prog 17 #[.pointer (some ⟨hb, 0, none⟩), .agg #[.int .i64 c.cap, .int .i64 c.pins, .int .i64 c.shelves, .int .i64 c.queue, .int .i64 c.watchers, .int .u64 c.seed], .int .u64 ep, .agg #[.string key, .bool has, .string value]] w fun x w' => ∃ S' F' bk, x = .returned (.bool true) ∧ OwnK w0 hb S' F' K w' ∧ Laid S' c (putT tx p key) (putS st p ⟨bk, ep, has, value⟩) pn e ∧ S'.last ≤ S.last + 2 := by
  have hNw := fun W => findNew_any c key hkey W
  rw [show c.val = .agg #[.int .i64 c.cap, .int .i64 c.pins, .int .i64 c.shelves, .int .i64 c.queue, .int .i64 c.watchers, .int .u64 c.seed] from rfl] at hNw
  have o1 := (o.add (.cells #[.int .i64 c.cap, .int .i64 c.pins, .int .i64 c.shelves, .int .i64 c.queue, .int .i64 c.watchers, .int .u64 c.seed] 24)).add (.cells #[.string key, .bool has, .string value] 57)
  have hb0 := o.own.below.size
  have B0 := o1.blk (List.mem_cons_of_mem _ (List.mem_cons_self ..))
  have B1 := o1.blk (List.mem_cons_self ..)
  simp only [World.size_alloc] at B1
  have c0 := B0.cell 0
  have c1 := B0.cell 1
  have c2 := B0.cell 2
  have c3 := B0.cell 3
  have c4 := B0.cell 4
  have c5 := B0.cell 5
  have v0 := B1.cell 0
  have hsw := o.own.heap.own
  replace hNw := Lib.hid hNw
  replace o := Lib.hid o
  replace o1 := Lib.hid o1
  replace B0 := Lib.hid B0
  replace B1 := Lib.hid B1
  replace hL := Lib.hid hL
  go_enter Tryz.func17, Tryz.ntmps17
  go_wp2_with fail
  refine (hNw.out _).mono ?_; rintro x w1 ⟨b, rfl, hN, hbb, hb1⟩
  simp only [World.size_alloc] at hbb
  have o2 := o1.out.below hb1
  have hA := falone hc o2.own hN (fun h => by have := o1.out.own.heap.own _ h; simp only [World.size_alloc] at this; omega) (by omega) hL.out.shelved hL.out.faults (by omega)
  have hKb : ∀ x ∈ ((w.alloc (.cells #[.int .i64 c.cap, .int .i64 c.pins, .int .i64 c.shelves, .int .i64 c.queue, .int .i64 c.watchers, .int .u64 c.seed] 24)).heap.size, Obj.cells #[.string key, .bool has, .string value] 57) :: (w.heap.size, Obj.cells #[.int .i64 c.cap, .int .i64 c.pins, .int .i64 c.shelves, .int .i64 c.queue, .int .i64 c.watchers, .int .u64 c.seed] 24) :: K, x.1 ≠ b := fun x hx => by have := o1.out.lt hx; simp only [World.size_alloc] at this; omega
  clear hb1 c0 c1 c2 c3 c4 c5 v0
  replace o2 := Lib.hid o2
  replace hN := Lib.hid hN
  replace hA := Lib.hid hA
  replace hKb := Lib.hid hKb
  go_wp2_with fail
  refine (hA.out).mono ?_; rintro x w2 ⟨s, F2, rfl, hLk⟩
  have o3 := o2.out.looked hLk hKb.out
  have hRs := findResult_any hLk.lies
  rw [hLk.res, h1, h2] at hRs
  clear hA hLk
  replace o3 := Lib.hid o3
  replace hRs := Lib.hid hRs
  go_wp2_with fail
  refine (hRs.out).mono ?_; rintro x w3 ⟨rfl, hb3⟩
  have o4 := (o3.out.below hb3).add (.cells #[.int .i64 2, .int .i64 (p : Int)] 120)
  have R4 := o4.blk (List.mem_cons_self ..)
  have V4 := o4.blk (List.mem_cons_of_mem _ (List.mem_cons_self ..))
  have C4 := o4.blk (List.mem_cons_of_mem _ (List.mem_cons_of_mem _ (List.mem_cons_self ..)))
  simp only [World.size_alloc] at V4
  have r0 := R4.cell 0
  have r1 := R4.cell 1
  have x0 := C4.cell 0
  have x1 := C4.cell 1
  have x2 := C4.cell 2
  have x3 := C4.cell 3
  have x4 := C4.cell 4
  have x5 := C4.cell 5
  have y0 := V4.cell 0
  have y1 := V4.cell 1
  have y2 := V4.cell 2
  have hl4 := R4.lt
  have hl5 := V4.lt
  have hl6 := C4.lt
  simp only [World.size_alloc] at hl4 hl5 hl6
  clear hb3 hRs
  have hPp := fun W => planKey_any c hc p ⟨by omega, hp⟩ W
  rw [show 3 + c.pins + c.cap + 2 * (p : Int) = ((kcell c p : Nat) : Int) by rw [kcell_eq hc], show c.val = .agg #[.int .i64 c.cap, .int .i64 c.pins, .int .i64 c.shelves, .int .i64 c.queue, .int .i64 c.watchers, .int .u64 c.seed] from rfl] at hPp
  obtain ⟨k0, hk0, hk1, _⟩ := hL.out.shelved.at_ p hp
  rw [hk1 htp] at hk0
  have hput := fun r => hL.out.put hc p hp r key
  have hcl := kcell_eq hc p
  have hone := hL.out.shelved.one
  have hMk : ∀ W F K, OwnK w0 hb S F K W → Calls Tryz.prog 58 #[.pointer (some ⟨hb, 0, none⟩), .int .i64 0, .string key] W fun e w' => e = .returned (.int .u64 (S.last + 1)) ∧ ∃ r, OwnK w0 hb (S.more r key) (nw F W w') K w' := fun W F K h => (make_more h.own.heap key (by omega)).mono fun e w' ⟨he, r, ht⟩ => ⟨he, r, h.turned ht⟩
  have hSt : ∀ W F K r, OwnK w0 hb (S.more r key) F K W → Calls Tryz.prog 18 #[.pointer (some ⟨hb, 0, none⟩), .int .u64 1, .int .i64 (kcell c p), .int .u64 (S.last + 1)] W fun e w' => e = .returned (.int .i64 0) ∧ ∃ F', OwnK w0 hb ((S.more r key).set 1 (kcell c p) (S.last + 1)) F' K w' := fun W F K r h => (ctl_store h.own.heap (hk0.more r key) (S.last + 1) (by omega)).mono fun e w' ⟨he, ht⟩ => ⟨he, _, h.turned ht⟩
  have hPu : ∀ W S' F' K', OwnK w0 hb S' F' K' W → Laid S' c (putT tx p key) st pn e → S'.last ≤ 1000 → Calls Tryz.prog 62 #[.pointer (some ⟨hb, 0, none⟩), .agg #[.int .i64 c.cap, .int .i64 c.pins, .int .i64 c.shelves, .int .i64 c.queue, .int .i64 c.watchers, .int .u64 c.seed], .int .i64 (p : Int), .int .u64 ep, .agg #[.string key, .bool has, .string value]] W fun x w' => ∃ S2 F2, x = .returned (.int .u64 (S'.last + 1)) ∧ OwnK w0 hb S2 F2 K' w' ∧ Laid S2 c (putT tx p key) (putS st p ⟨S'.last + 1, ep, has, value⟩) pn e ∧ S2.last = S'.last + 1 := by
    intro W S' F' K' oo hL' hl'
    obtain ⟨xc, hx1, hx2, hx3⟩ := hL'.stack p hp
    refine (push_any c hc oo p hp (kcell c p + 1) (by omega) xc hx1 hx3 ep hep ⟨key, has, value⟩ hval hL'.shelved.keys ⟨hL'.shelved.one, hl'⟩ hL'.faults).mono ?_
    rintro x w5 ⟨S5, F5, r5, he, hVS, o5⟩
    exact ⟨_, _, he, o5, hL'.push (v := ⟨key, has, value⟩) hc p hp (by omega) hx1 hx2 hVS, hVS.last⟩
  have hK8 : ∀ W S F, OwnK w0 hb S F ((w3.heap.size, Obj.cells #[.int .i64 2, .int .i64 (p : Int)] 120) :: ((w.alloc (.cells #[.int .i64 c.cap, .int .i64 c.pins, .int .i64 c.shelves, .int .i64 c.queue, .int .i64 c.watchers, .int .u64 c.seed] 24)).heap.size, Obj.cells #[.string key, .bool has, .string value] 57) :: (w.heap.size, Obj.cells #[.int .i64 c.cap, .int .i64 c.pins, .int .i64 c.shelves, .int .i64 c.queue, .int .i64 c.watchers, .int .u64 c.seed] 24) :: K) W → W.cell? ⟨w3.heap.size, 0, none⟩ = some (.int .i64 2) ∧ W.cell? ⟨w3.heap.size, 1, none⟩ = some (.int .i64 (p : Int)) ∧ W.cell? ⟨w.heap.size, 0, none⟩ = some (.int .i64 c.cap) ∧ W.cell? ⟨w.heap.size, 1, none⟩ = some (.int .i64 c.pins) ∧ W.cell? ⟨w.heap.size, 2, none⟩ = some (.int .i64 c.shelves) ∧ W.cell? ⟨w.heap.size, 3, none⟩ = some (.int .i64 c.queue) ∧ W.cell? ⟨w.heap.size, 4, none⟩ = some (.int .i64 c.watchers) ∧ W.cell? ⟨w.heap.size, 5, none⟩ = some (.int .u64 c.seed) ∧ W.cell? ⟨w.heap.size + 1, 0, none⟩ = some (.string key) ∧ W.cell? ⟨w.heap.size + 1, 1, none⟩ = some (.bool has) ∧ W.cell? ⟨w.heap.size + 1, 2, none⟩ = some (.string value) := fun W S F h => by
    have a1 := h.blk (List.mem_cons_self ..)
    have a2 := h.blk (List.mem_cons_of_mem _ (List.mem_cons_self ..))
    have a3 := h.blk (List.mem_cons_of_mem _ (List.mem_cons_of_mem _ (List.mem_cons_self ..)))
    simp only [World.size_alloc] at a2
    exact ⟨a1.cell 0, a1.cell 1, a3.cell 0, a3.cell 1, a3.cell 2, a3.cell 3, a3.cell 4, a3.cell 5, a2.cell 0, a2.cell 1, a2.cell 2⟩
  generalize kcell c p = kp at *
  replace o4 := Lib.hid o4
  replace R4 := Lib.hid R4
  replace V4 := Lib.hid V4
  replace C4 := Lib.hid C4
  replace hPu := Lib.hid hPu
  replace hPp := Lib.hid hPp
  replace hMk := Lib.hid hMk
  replace hSt := Lib.hid hSt
  replace hk0 := Lib.hid hk0
  replace hput := Lib.hid hput
  replace hcl := Lib.hid hcl
  replace hK8 := Lib.hid hK8
  replace htp := Lib.hid htp
  replace hc := Lib.hid hc
  replace hk1 := Lib.hid hk1
  go_upto_region 7 with fail
  go_cut [] from 35 to 44 (fun wx => ∃ S' F', OwnK w0 hb S' F' ((w3.heap.size, Obj.cells #[.int .i64 2, .int .i64 (p : Int)] 120) :: ((w.alloc (.cells #[.int .i64 c.cap, .int .i64 c.pins, .int .i64 c.shelves, .int .i64 c.queue, .int .i64 c.watchers, .int .u64 c.seed] 24)).heap.size, Obj.cells #[.string key, .bool has, .string value] 57) :: (w.heap.size, Obj.cells #[.int .i64 c.cap, .int .i64 c.pins, .int .i64 c.shelves, .int .i64 c.queue, .int .i64 c.watchers, .int .u64 c.seed] 24) :: K) wx ∧ Laid S' c (putT tx p key) st pn e ∧ S'.last = S.last + 1)
  case first =>
    go_region_held3 (fun W => W.cell? ⟨w3.heap.size, 0, none⟩ = some (.int .i64 2) ∧ W.cell? ⟨w3.heap.size, 1, none⟩ = some (.int .i64 (p : Int)) ∧ W.cell? ⟨w.heap.size, 0, none⟩ = some (.int .i64 c.cap) ∧ W.cell? ⟨w.heap.size, 1, none⟩ = some (.int .i64 c.pins) ∧ W.cell? ⟨w.heap.size, 2, none⟩ = some (.int .i64 c.shelves) ∧ W.cell? ⟨w.heap.size, 3, none⟩ = some (.int .i64 c.queue) ∧ W.cell? ⟨w.heap.size, 4, none⟩ = some (.int .i64 c.watchers) ∧ W.cell? ⟨w.heap.size, 5, none⟩ = some (.int .u64 c.seed) ∧ W.cell? ⟨w.heap.size + 1, 0, none⟩ = some (.string key) ∧ W.cell? ⟨w.heap.size + 1, 1, none⟩ = some (.bool has) ∧ W.cell? ⟨w.heap.size + 1, 2, none⟩ = some (.string value))
      (first | assumption | go_keep)
      (first | (go_at_call 39; refine (hPp.out _).mono ?_; rintro e w9 ⟨rfl, hb9⟩; have oC := (by first | exact o4.out.below hb9 | exact o4.out.drew.below hb9 | exact (o4.out.drewN _).below hb9 : OwnK w0 hb S F2 _ w9); have sC := hK8.out _ _ _ oC; replace oC := Lib.hid oC; clear hb9) | (go_at_call 58; refine (hMk.out _ _ _ (by first | exact oC.out | exact oC.out.drew | exact oC.out.drewN _)).mono ?_; rintro e w10 ⟨rfl, r10, oD⟩; have sD := hK8.out _ _ _ oD; replace oD := Lib.hid oD) | (go_at_call 18; refine (hSt.out _ _ _ _ oD.out).mono ?_; rintro e w11 ⟨rfl, F11, oE⟩; have sE := hK8.out _ _ _ oE; replace oE := Lib.hid oE))
    all_goals
      go_wp2_with fail
      go_meet
      case rel => exact ⟨_, _, oE.out, hput.out r10, rfl⟩
  case rest =>
    obtain ⟨S9, F9, o9, hL9, hl9⟩ := hcut
    have hP9 := hPu.out _ _ _ _ o9 hL9 (by omega)
    obtain ⟨z0, z1, z2, z3, z4, z5, z6, z7, z8, z9, z10⟩ := hK8.out _ _ _ o9
    clear r0 r1 x0 x1 x2 x3 x4 x5 y0 y1 y2
    replace o9 := Lib.hid o9
    replace hL9 := Lib.hid hL9
    replace hP9 := Lib.hid hP9
    go_wp2_with fail
    refine (hP9.out).mono ?_; rintro x w5 ⟨S5, F5, rfl, o5, hL5, hl5'⟩
    replace o5 := Lib.hid o5
    replace hL5 := Lib.hid hL5
    go_wp2_with fail
    go_ret
    exact ⟨_, _, _, rfl, o5.out.less.less.less, hL5.out, by omega⟩
end Go.Proofs.YtmlnhjfdhjachaaGreat
