/-
  The walk over the law of a view's acts (layer 27). No condition.
-/
import Derived.Test.YtmlnhjfdhjachaaGreatViewD
import Derived.Test.YtmlnhjfdhjachaaGreatTapeE
import Derived.Deep.CutRange
import Derived.Deep.RegionHeld3
import Derived.StillTailTactics
namespace Go.Proofs.YtmlnhjfdhjachaaGreat
set_option linter.unusedVariables false
open Go.ChangeShapes Go.WideShapes Go.ChangeAt Go.RowKit
open Go.ChangeMaps (setBlock)

/-- Between two rounds. -/
structure VActsRel (w : World) (len : Nat) (gs : List PGot) (c : PCfg) (th : Int) (b : Nat) (i : Value) (wr : World) : Prop where
  ex : ∃ k : Nat, k ≤ len + 1 ∧ i = .int .i64 k ∧ RAt viewRout (w.heap.size + 1) wr b (feed PView.take (newView c th) (gs.take k))
  b0 : Blk wr w.heap.size 24 #[.int .i64 c.cap, .int .i64 c.pins, .int .i64 c.shelves, .int .i64 c.queue, .int .i64 c.watchers, .int .u64 c.seed]
  below : Below w.heap.size w wr
set_option maxRecDepth 100000 in
set_option maxHeartbeats 800000 in
theorem vactsBig (A : Option Addr) (len cap : Nat) (c : PCfg) (th : Int) (hbig : 60 < len) (w : World) :
    Calls Tryz.prog 3 #[c.val, .int .u8 th, .slice A len cap] w fun e w' => e = .returned (.bool true) ∧ Below w.heap.size w w' := by
  have hz : Below w.heap.size w (w.alloc (.cells #[.int .i64 c.cap, .int .i64 c.pins, .int .i64 c.shelves, .int .i64 c.queue, .int .i64 c.watchers, .int .u64 c.seed] 24)) := (Below.refl _ _).alloc (Nat.le_refl _) _
  have d1 : decide ((60 : Int) < (len : Int)) = true := by simp; omega
  rw [show c.val = .agg #[.int .i64 c.cap, .int .i64 c.pins, .int .i64 c.shelves, .int .i64 c.queue, .int .i64 c.watchers, .int .u64 c.seed] from rfl]
  go_enter Tryz.func3, Tryz.ntmps3
  go_wp2_with fail
  refine (awake27 _).mono ?_; rintro e w7 ⟨rfl, hb7⟩
  go_wp2_with fail
  go_ret
  exact ⟨rfl, hz.trans (hb7.mono hz.size)⟩
set_option maxRecDepth 100000 in
set_option maxHeartbeats 800000 in
theorem vactsNo (A : Option Addr) (len cap : Nat) (c : PCfg) (th : Int) (hth : 0 ≤ th ∧ th ≤ 255) (hbig : ¬ 60 < len) (hright : c.right = false) (w : World) :
    Calls Tryz.prog 3 #[c.val, .int .u8 th, .slice A len cap] w fun e w' => e = .returned (.bool true) ∧ Below w.heap.size w w' := by
  have hCV : c.val = .agg #[.int .i64 c.cap, .int .i64 c.pins, .int .i64 c.shelves, .int .i64 c.queue, .int .i64 c.watchers, .int .u64 c.seed] := rfl
  have hRR := fun W => refRight_any c W
  have hz : Below w.heap.size w (w.alloc (.cells #[.int .i64 c.cap, .int .i64 c.pins, .int .i64 c.shelves, .int .i64 c.queue, .int .i64 c.watchers, .int .u64 c.seed] 24)) := (Below.refl _ _).alloc (Nat.le_refl _) _
  have B0 := Blk.new w 24 #[.int .i64 c.cap, .int .i64 c.pins, .int .i64 c.shelves, .int .i64 c.queue, .int .i64 c.watchers, .int .u64 c.seed]
  have d1 : decide ((60 : Int) < (len : Int)) = false := by simp; omega
  have hwt : IntKind.i64.wrap th = th := IntWalk.i64_in _ (by omega)
  have hNw := fun W => viewNew_at c th ⟨hth.1, by omega⟩ W
  have hn : newView c th = noView := by unfold newView; rw [if_neg (by rw [hright]; decide)]
  have hna : (newView c th).act = (noAct, false) := by rw [hn]; rfl
  have hnp : (newView c th).part = 0 := by rw [hn]; rfl
  rw [hright] at hRR
  rw [hCV] at hNw hRR ⊢
  generalize newView c th = N at *
  clear hn
  replace hNw := Lib.hid hNw
  replace hRR := Lib.hid hRR
  replace hz := Lib.hid hz
  replace B0 := Lib.hid B0
  replace hright := Lib.hid hright
  replace hna := Lib.hid hna
  replace hnp := Lib.hid hnp
  clear hCV
  go_enter Tryz.func3, Tryz.ntmps3
  go_wp2_with fail
  refine (hNw.out _).mono ?_; rintro e w1 ⟨b, rfl, hV, hbl⟩
  have B1 := B0.out.below hbl (by simp)
  have hz1 := nx hz.out (Nat.le_refl _) hbl
  have c0 := B1.cell 0
  have c1 := B1.cell 1
  have c2 := B1.cell 2
  have c3 := B1.cell 3
  have c4 := B1.cell 4
  have c5 := B1.cell 5
  clear hbl
  replace hV := Lib.hid hV
  replace B1 := Lib.hid B1
  replace hz1 := Lib.hid hz1
  go_wp2_with fail
  refine (hRR.out _).mono ?_; rintro e w2 ⟨rfl, hb2⟩
  have V2 := hV.out.below hb2
  have hz2 := nx hz1.out (Nat.le_refl _) hb2
  clear hb2 c0 c1 c2 c3 c4 c5
  replace hz2 := Lib.hid hz2
  have hAc : Calls Tryz.prog 10 _ _ _ := V2.act
  change Calls Tryz.prog _ _ _ (fun e w' => e = .returned (.tuple #[N.act.1.val, .bool N.act.2]) ∧ _) at hAc
  rw [hna.out] at hAc
  change Calls Tryz.prog _ _ _ (fun e w' => e = .returned (.tuple #[.agg #[.int .i64 0, .int .u64 0, .int .i64 0, .int .u64 0, .int .u64 0, .string ⟨#[]⟩], .bool false]) ∧ _) at hAc
  replace V2 := Lib.hid V2
  replace hAc := Lib.hid hAc
  go_wp2_with fail
  refine (hAc.out).mono ?_; rintro e w3 ⟨rfl, hb3⟩
  have V3 := (V2.out.below hb3).below (Below.more_ (Below.refl _ _) (.cells #[.int .i64 0, .int .u64 0, .int .i64 0, .int .u64 0, .int .u64 0, .string ⟨#[]⟩] 31))
  have hRs := viewAt_told V3
  rw [hnp.out] at hRs
  change Calls Tryz.prog _ _ _ (fun e w' => ∃ rc rm vA vc, ∃ l : List (ByteArray × ByteArray), e = .returned (.tuple #[.agg #[.int .i64 rc, .int .i64 0, .int .i64 0, .bool false, .string ⟨#[]⟩, .slice vA l.length vc, .int .i64 0, .slice none 0 0, .int .i64 rm, .int .u64 0], .bool false]) ∧ _) at hRs
  have hz3 := (nx hz2.out (Nat.le_refl _) hb3).alloc (by have := hb3.size; have := hz2.out.size; omega) (.cells #[.int .i64 0, .int .u64 0, .int .i64 0, .int .u64 0, .int .u64 0, .string ⟨#[]⟩] 31)
  clear hb3
  replace V3 := Lib.hid V3
  replace hRs := Lib.hid hRs
  replace hz3 := Lib.hid hz3
  go_wp2_with fail
  refine (hRs.out).mono ?_; rintro e w4 ⟨rc, rm, vA, vc, l, rfl, _, _, hb4, _⟩
  have hz4 := (hz3.out.trans (hb4.mono hz3.out.size)).alloc (hz3.out.trans (hb4.mono hz3.out.size)).size (.cells #[.int .i64 rc, .int .i64 0, .int .i64 0, .bool false, .string ⟨#[]⟩, .slice vA l.length vc, .int .i64 0, .slice none 0 0, .int .i64 rm, .int .u64 0] 42)
  clear hb4 hRs
  replace hz4 := Lib.hid hz4
  go_wp2_with fail
  refine (awake27 _).mono ?_; rintro e w7 ⟨rfl, hb7⟩
  go_wp2_with fail
  go_ret
  exact ⟨rfl, hz4.out.trans (hb7.mono hz4.out.size)⟩
set_option maxRecDepth 100000 in
set_option maxHeartbeats 4000000 in
theorem vactsYes (A : Option Addr) (len cap : Nat) (hlc : len ≤ cap) (gs : List PGot) (hlen : gs.length = len) (hok : ∀ g ∈ gs, g.Ok) (c : PCfg) (th : Int) (hth : 0 ≤ th ∧ th ≤ 255) (hbig : ¬ 60 < len) (hright : c.right = true) (w : World) (hr : Reads w w.heap.size 2 A len (gotL gs)) :
    Calls Tryz.prog 3 #[c.val, .int .u8 th, .slice A len cap] w fun e w' => e = .returned (.bool true) ∧ Below w.heap.size w w' := by
  have hCV : c.val = .agg #[.int .i64 c.cap, .int .i64 c.pins, .int .i64 c.shelves, .int .i64 c.queue, .int .i64 c.watchers, .int .u64 c.seed] := rfl
  have hRR := fun W => refRight_any c W
  have hz : Below w.heap.size w (w.alloc (.cells #[.int .i64 c.cap, .int .i64 c.pins, .int .i64 c.shelves, .int .i64 c.queue, .int .i64 c.watchers, .int .u64 c.seed] 24)) := (Below.refl _ _).alloc (Nat.le_refl _) _
  have B0 := Blk.new w 24 #[.int .i64 c.cap, .int .i64 c.pins, .int .i64 c.shelves, .int .i64 c.queue, .int .i64 c.watchers, .int .u64 c.seed]
  have d1 : decide ((60 : Int) < (len : Int)) = false := by simp; omega
  have hwt : IntKind.i64.wrap th = th := IntWalk.i64_in _ (by omega)
  have hNw := fun W => viewNew_at c th ⟨hth.1, by omega⟩ W
  have hR := (PCfg.right_iff c).1 hright
  have hn0 : (newView c th).part ≠ 0 := by unfold newView; rw [if_pos hright]; show (1 : Int) ≠ 0; decide
  have hreq : ∀ (T : PTape) (W : World) (tb : Nat), TapeIn W tb A cap T → T.over = false → T.at_ = 0 → T.act = noAct → (∀ g ∈ T.got, g.Ok) → T.got.length ≤ 1000 → Calls Tryz.prog 12 #[.pointer (some ⟨tb, 0, none⟩), c.val, .int .i64 th] W (ViewPost c th T.got W tb A cap) := fun T W tb h2 h3 h4 h5 h6 h7 => refView_any h2 h3 h4 h5 c hR th ⟨hth.1, by omega⟩ h6 h7
  rw [hright] at hRR
  rw [hCV] at hNw hRR hreq ⊢
  replace hNw := Lib.hid hNw
  replace hRR := Lib.hid hRR
  replace hreq := Lib.hid hreq
  replace hr := Lib.hid hr
  replace hz := Lib.hid hz
  replace B0 := Lib.hid B0
  replace hright := Lib.hid hright
  replace hn0 := Lib.hid hn0
  replace hlen := Lib.hid hlen
  clear hCV
  go_enter Tryz.func3, Tryz.ntmps3
  go_wp2_with fail
  refine (hNw.out _).mono ?_; rintro e w1 ⟨b, rfl, hV, hbl⟩
  have B1 := B0.out.below hbl (by simp)
  have hz1 := nx hz.out (Nat.le_refl _) hbl
  have c0 := B1.cell 0
  have c1 := B1.cell 1
  have c2 := B1.cell 2
  have c3 := B1.cell 3
  have c4 := B1.cell 4
  have c5 := B1.cell 5
  clear hbl
  simp only [World.size_alloc] at hV
  replace hV := Lib.hid hV
  replace B1 := Lib.hid B1
  replace hz1 := Lib.hid hz1
  go_wp2_with fail
  refine (hRR.out _).mono ?_; rintro e w2 ⟨rfl, hb2⟩
  have V2 := hV.out.below hb2
  have B2 := B1.out.below hb2 B1.out.lt
  have hz2 := nx hz1.out (Nat.le_refl _) hb2
  clear hb2 c0 c1 c2 c3 c4 c5
  replace B2 := Lib.hid B2
  replace hz2 := Lib.hid hz2
  replace V2 := Lib.hid V2
  go_wp2_with fail
  go_loopw [12] (fun i wr => VActsRel w len gs c th b i wr) (fun i _ => len + 2 - (intOf i).toNat)
  case atStart => exact ⟨⟨0, by omega, rfl, V2.out⟩, B2.out, hz2.out⟩
  case round =>
    obtain ⟨⟨k, hk, rfl, hVk⟩, b0, hbel⟩ := hrel
    by_cases hke : k ≤ len
    · have d3 : decide ((k : Int) ≤ (len : Int)) = true := by simp; omega
      have i1 : (0 : Int) ≤ (k : Int) := by omega
      have i2 : (k : Int) ≤ (cap : Int) := by omega
      have hs1 := b0.lt
      have hbk := hVk.lt.1
      have c0 := b0.cell 0
      have c1 := b0.cell 1
      have c2 := b0.cell 2
      have c3 := b0.cell 3
      have c4 := b0.cell 4
      have c5 := b0.cell 5
      replace hVk := Lib.hid hVk
      replace b0 := Lib.hid b0
      replace hbel := Lib.hid hbel
      go_wp2_with fail
      have hT : TapeIn (wr.alloc (.cells #[.slice A k cap, .int .i64 0, .bool false, .int .i64 0, .int .u64 0, .int .i64 0, .int .u64 0, .int .u64 0, .string ⟨#[]⟩] 47)) wr.heap.size A cap (freshT (gs.take k)) := by
        have hsz := hbel.out.size
        have e : (gs.take k).length = k := by have := hlen.out; simp; omega
        refine ⟨Blk.eq_cs (Blk.new wr 47 _) (by simp [PTape.cells, freshT, e, noAct]; rfl), ?_, by show (gs.take k).length ≤ _; omega, Nat.zero_le _⟩
        exact ((reads_take hr.out hke hlen.out).below (hbel.out.trans ((Below.refl wr.heap.size wr).alloc (Nat.le_refl _) _ |>.mono hsz))).more (by omega)
      refine (hreq.out _ _ _ hT rfl rfl rfl (fun g hg => hok g (List.mem_of_mem_take hg)) (by show (gs.take k).length ≤ 1000; simp; omega)).mono ?_; rintro e w2 ⟨T', fc, fm, A', cp, lf, rfl, hT2, hC2, ⟨ho, ha, hwant⟩, hlf, hown⟩
      replace hT := Lib.hid hT
      have hsg : feed PView.take (newView c th) (freshT (gs.take k)).got = feed PView.take (newView c th) (gs.take k) := rfl
      rw [hsg] at ho ha hwant
      have htk : ∀ g : PGot, gs[k]? = some g → feed PView.take (newView c th) (gs.take (k + 1)) = (feed PView.take (newView c th) (gs.take k)).take g := fun g hg => feed_snoc _ gs k g hg
      have hend : k = len → feed PView.take (newView c th) (gs.take (k + 1)) = feed PView.take (newView c th) (gs.take k) := fun e => by have := hlen.out; rw [List.take_of_length_le (by omega), List.take_of_length_le (by omega)]
      have hn1 : (feed PView.take (newView c th) (gs.take k)).part ≠ 0 := feed_vpart _ hn0.out _
      generalize feed PView.take (newView c th) (gs.take k) = s at *
      obtain ⟨hi1, hi3⟩ := viewAt_is hVk.out hn1
      have hrd2 := Reads.of_own hown
      have hVw : RAt viewRout (w.heap.size + 1) w2 b s := hVk.out.far (by have := hC2.size; simp at this; omega) fun j hj => (hC2.block j (by simp; omega) (by omega)).trans (Below.heap_alloc wr _ j hj)
      have hBw : Below w.heap.size w w2 := (Below.more_ hbel.out _).trans (hC2.below (fun i hi => by have := hbel.out.size; omega) (by have := hbel.out.size; simp; omega))
      have b02 := (b0.out.alloc _).keep (hC2.block w.heap.size (by simp; omega) (by show w.heap.size ≠ wr.heap.size; omega))
      have hsz2 := hC2.size
      simp only [World.size_alloc] at hsz2
      clear c0 c1 c2 c3 c4 c5 hsg hown
      obtain ⟨tg, ta, tov, tact⟩ := T'
      simp only at ho ha hwant
      subst ho ha
      have hAr : (viewRout.act s) = s.act := rfl
      rcases hact : s.act with ⟨⟨xk, xb, xc, xo, xn, xt⟩, mo⟩
      rw [hact] at hi1 hi3 hT2 hwant hAr
      simp only at hi1 hi3 hwant
      obtain ⟨nf, hnf⟩ : ∃ nf, lf.length = nf := ⟨_, rfl⟩
      rw [hnf] at hrd2 hlf ⊢
      have hA2 := (hVw.below (Below.more_ (Below.refl _ _) (.cells #[.int .i64 fc, .int .i64 0, .int .i64 0, .bool false, .string ⟨#[]⟩, .slice A' nf cp, .int .i64 0, .slice none 0 0, .int .i64 fm, .int .u64 0] 42))).act
      rw [hAr] at hA2
      change Calls Tryz.prog 10 _ _ (fun e w' => e = .returned (.tuple #[.agg #[.int .i64 xk, .int .u64 xb, .int .i64 xc, .int .u64 xo, .int .u64 xn, .string xt], .bool mo]) ∧ _) at hA2
      have W2 := Blk.new w2 42 #[.int .i64 fc, .int .i64 0, .int .i64 0, .bool false, .string ⟨#[]⟩, .slice A' nf cp, .int .i64 0, .slice none 0 0, .int .i64 fm, .int .u64 0]
      replace hnf := Lib.hid hnf
      replace hrd2 := Lib.hid hrd2
      replace hA2 := Lib.hid hA2
      replace hVw := Lib.hid hVw
      replace hBw := Lib.hid hBw
      replace hT2 := Lib.hid hT2
      replace hact := Lib.hid hact
      replace hC2 := Lib.hid hC2
      replace b02 := Lib.hid b02
      replace W2 := Lib.hid W2
      replace htk := Lib.hid htk
      replace hend := Lib.hid hend
      replace hi3 := Lib.hid hi3
      replace hwant := Lib.hid hwant
      replace hn1 := Lib.hid hn1
      replace hAr := Lib.hid hAr
      replace hi1 := Lib.hid hi1
      replace hsz2 := Lib.hid hsz2
      go_wp2_with fail
      refine (hA2.out).mono ?_; rintro e w3 ⟨rfl, hb3⟩
      have hb23 : Below w2.heap.size w2 w3 := ((Below.refl w2.heap.size w2).alloc (Nat.le_refl _) _).trans (hb3.mono (by simp))
      have V3 := (hVw.out.below hb23).below (Below.more_ (Below.refl _ _) (.cells #[.int .i64 xk, .int .u64 xb, .int .i64 xc, .int .u64 xo, .int .u64 xn, .string xt] 31))
      have hR3 := viewAt_told V3
      obtain ⟨dn, hdn⟩ : ∃ dn : Bool, dn = !mo := ⟨_, rfl⟩
      rw [hi1.out, ← hdn] at hR3
      replace hdn := Lib.hid hdn
      have W3 := W2.out.below hb3 (by simp)
      clear hb3
      replace V3 := Lib.hid V3
      replace hR3 := Lib.hid hR3
      replace W3 := Lib.hid W3
      replace hb23 := Lib.hid hb23
      go_wp2_with fail
      refine (hR3.out).mono ?_; rintro e w4 ⟨rc, rm, vA, vc, lr, rfl, hrd4, hlr, hb4, hrs2⟩
      obtain ⟨nr, hnr⟩ : ∃ nr, lr.length = nr := ⟨_, rfl⟩
      rw [hnr] at hrd4 hlr ⊢
      replace hnr := Lib.hid hnr
      replace hrd4 := Lib.hid hrd4
      replace hrs2 := Lib.hid hrs2
      go_wp2_with fail
      have hsz3 := (hb23.out).size
      have hsz4 := hb4.size
      simp only [World.size_alloc] at hsz4
      have hb34 : Below w2.heap.size w2 (w4.alloc (.cells #[.int .i64 rc, .int .i64 0, .int .i64 0, .bool false, .string ⟨#[]⟩, .slice vA nr vc, .int .i64 0, .slice none 0 0, .int .i64 rm, .int .u64 0] 42)) := (((hb23.out).alloc (hb23.out).size _).trans (hb4.mono (by have := (hb23.out).size; simp; omega))).alloc (by omega) _
      have T4 := hT2.out.below hb34
      have V4 := hVw.out.below hb34
      have B4 := ((Blk.new w3 31 #[.int .i64 xk, .int .u64 xb, .int .i64 xc, .int .u64 xo, .int .u64 xn, .string xt]).below hb4 (by simp)).alloc (.cells #[.int .i64 rc, .int .i64 0, .int .i64 0, .bool false, .string ⟨#[]⟩, .slice vA nr vc, .int .i64 0, .slice none 0 0, .int .i64 rm, .int .u64 0] 42)
      have W4 := ((W3.out.alloc _).below hb4 (W3.out.alloc _).lt).alloc (.cells #[.int .i64 rc, .int .i64 0, .int .i64 0, .bool false, .string ⟨#[]⟩, .slice vA nr vc, .int .i64 0, .slice none 0 0, .int .i64 rm, .int .u64 0] 42)
      have X4 := Blk.new w4 42 #[.int .i64 rc, .int .i64 0, .int .i64 0, .bool false, .string ⟨#[]⟩, .slice vA nr vc, .int .i64 0, .slice none 0 0, .int .i64 rm, .int .u64 0]
      have b04 := b02.out.below hb34 b02.out.lt
      have hrA := (hrd2.out.below hb34).more hb34.size
      have hrB := (hrd4.out.alloc (Nat.le_refl _) (.cells #[.int .i64 rc, .int .i64 0, .int .i64 0, .bool false, .string ⟨#[]⟩, .slice vA nr vc, .int .i64 0, .slice none 0 0, .int .i64 rm, .int .u64 0] 42)).more (B' := (w4.alloc (.cells #[.int .i64 rc, .int .i64 0, .int .i64 0, .bool false, .string ⟨#[]⟩, .slice vA nr vc, .int .i64 0, .slice none 0 0, .int .i64 rm, .int .u64 0] 42)).heap.size) (by rw [World.size_alloc]; omega)
      have hB4 : Below w.heap.size w (w4.alloc (.cells #[.int .i64 rc, .int .i64 0, .int .i64 0, .bool false, .string ⟨#[]⟩, .slice vA nr vc, .int .i64 0, .slice none 0 0, .int .i64 rm, .int .u64 0] 42)) := hBw.out.trans (hb34.mono (by have := hBw.out.size; omega))
      have hs4 : (w4.alloc (.cells #[.int .i64 rc, .int .i64 0, .int .i64 0, .bool false, .string ⟨#[]⟩, .slice vA nr vc, .int .i64 0, .slice none 0 0, .int .i64 rm, .int .u64 0] 42)).heap.size = w4.heap.size + 1 := by simp
      generalize (w4.alloc (.cells #[.int .i64 rc, .int .i64 0, .int .i64 0, .bool false, .string ⟨#[]⟩, .slice vA nr vc, .int .i64 0, .slice none 0 0, .int .i64 rm, .int .u64 0] 42)) = wz at *
      have t2 : wz.cell? ⟨wr.heap.size, 2, none⟩ = some (.bool mo) := T4.blk.cell 2
      have t3 : wz.cell? ⟨wr.heap.size, 3, none⟩ = some (.int .i64 xk) := T4.blk.cell 3
      have t4 : wz.cell? ⟨wr.heap.size, 4, none⟩ = some (.int .u64 xb) := T4.blk.cell 4
      have t5 : wz.cell? ⟨wr.heap.size, 5, none⟩ = some (.int .i64 xc) := T4.blk.cell 5
      have t6 : wz.cell? ⟨wr.heap.size, 6, none⟩ = some (.int .u64 xo) := T4.blk.cell 6
      have t7 : wz.cell? ⟨wr.heap.size, 7, none⟩ = some (.int .u64 xn) := T4.blk.cell 7
      have t8 : wz.cell? ⟨wr.heap.size, 8, none⟩ = some (.string xt) := T4.blk.cell 8
      have a0 := B4.cell 0
      have a1 := B4.cell 1
      have a2 := B4.cell 2
      have a3 := B4.cell 3
      have a4 := B4.cell 4
      have a5 := B4.cell 5
      have y0 := W4.cell 0
      have y1 := W4.cell 1
      have y2 := W4.cell 2
      have y3 := W4.cell 3
      have y4 := W4.cell 4
      have y5 := W4.cell 5
      have y6 := W4.cell 6
      have y7 := W4.cell 7
      have y8 := W4.cell 8
      have x0 := X4.cell 0
      have x1 := X4.cell 1
      have x2 := X4.cell 2
      have x3 := X4.cell 3
      have x4 := X4.cell 4
      have x5 := X4.cell 5
      have x6 := X4.cell 6
      have x7 := X4.cell 7
      have x8 := X4.cell 8
      clear hb4
      replace T4 := Lib.hid T4
      replace V4 := Lib.hid V4
      replace B4 := Lib.hid B4
      replace W4 := Lib.hid W4
      replace X4 := Lib.hid X4
      replace b04 := Lib.hid b04
      replace hb34 := Lib.hid hb34
      replace hB4 := Lib.hid hB4
      replace hrA := Lib.hid hrA
      replace hrB := Lib.hid hrB
      cases mo with
      | true =>
        obtain rfl : dn = false := hdn.out
        clear hdn
        by_cases hkl : k < len
        · have d4 : decide ((k : Int) < (len : Int)) = true := by simp; omega
          have i3 : (k : Int) < (len : Int) := by omega
          obtain ⟨⟨gw, gt⟩, hgk⟩ : ∃ g, gs[k]? = some g := ⟨_, List.getElem?_eq_getElem (by have := hlen.out; omega)⟩
          have hgo := hok _ (List.mem_of_getElem? hgk)
          obtain ⟨ad, rfl, hadb, hcl⟩ := hr.out.2 (show 0 < len by omega)
          obtain ⟨q1, q2⟩ := gotL_at gs k _ hgk
          have r1 := keepc hB4.out hadb (hcl _ _ q1)
          have r2' := keepc hB4.out hadb (hcl _ _ q2)
          have r2 : wz.cell? ⟨(ad.add (k * 2)).block, (ad.add (k * 2)).off + 1, none⟩ = some (.string gt) := by
            have e : (⟨(ad.add (k * 2)).block, (ad.add (k * 2)).off + 1, none⟩ : Addr) = (ad.add (k * 2)).add 1 := rfl
            rw [e, add_of_add]
            exact r2'
          clear r2' q1 q2 hcl
          replace hgk := Lib.hid hgk
          go_quiet (fail)
          go_wp2_with fail
          have hl0 := b04.out.lt
          have hTk : Calls Tryz.prog 14 _ _ _ := (V4.out.below (below_drewN (Below.refl _ _) nq)).take (by show w.heap.size + 1 ≤ wz.heap.size; have := hsz2.out; have := hbel.out.size; omega) ⟨gw, gt⟩ hgo (by rw [hAr.out])
          rw [show PGot.val ⟨gw, gt⟩ = .agg #[.int .u64 gw, .string gt] from rfl] at hTk
          refine hTk.mono ?_; rintro e w5 ⟨rfl, V6, C6⟩
          have V6' : RAt viewRout (w.heap.size + 1) w5 b (s.take ⟨gw, gt⟩) := V6
          rw [← htk.out _ hgk.out] at V6'
          have b05 := (b04.out.drewN nq).keep (C6.block w.heap.size hl0 (by omega))
          have hB5 : Below w.heap.size w w5 := (below_drewN hB4.out nq).trans (C6.below (fun i hi => by omega) (by show w.heap.size ≤ wz.heap.size; have := hsz2.out; have := hbel.out.size; omega))
          clear V6
          replace V6' := Lib.hid V6'
          replace C6 := Lib.hid C6
          replace hTk := Lib.hid hTk
          replace b05 := Lib.hid b05
          replace hB5 := Lib.hid hB5
          go_wp2_with fail
          go_roundw
          case rel => exact ⟨⟨k + 1, by omega, by go_num, V6'.out⟩, b05.out, hB5.out⟩
          case measure => simp [intOf]; omega
        · have d4 : decide ((k : Int) < (len : Int)) = false := by simp; omega
          go_quiet (fail)
          go_wp2_with fail
          go_roundw
          case rel => exact ⟨⟨k + 1, by omega, by go_num, by rw [hend.out (by omega)]; exact V4.out.below (below_drewN (Below.refl _ _) _)⟩, b04.out.drewN _, below_drewN hB4.out _⟩
          case measure => simp [intOf]; omega
      | false =>
        obtain rfl : dn = true := hdn.out
        clear hdn
        obtain ⟨hw0, hw1, hw2, hw3⟩ := hwant.out rfl
        obtain ⟨q1, q2, q3⟩ := hrs2.out hw0
        obtain rfl : rc = fc := q1.trans hw1
        obtain rfl : rm = fm := q2.trans hw3
        obtain rfl : lr = lf := q3.trans hw2
        obtain rfl : nr = nf := hnr.out.symm.trans hnf.out
        clear hw0 hw1 hw2 hw3 q1 q2 q3
        have hS : ∀ W, Below wz.heap.size wz W → Calls Tryz.prog 13 #[.agg #[.int .i64 rc, .int .i64 0, .int .i64 0, .bool false, .string ⟨#[]⟩, .slice vA nr vc, .int .i64 0, .slice none 0 0], .agg #[.int .i64 rc, .int .i64 0, .int .i64 0, .bool false, .string ⟨#[]⟩, .slice A' nr cp, .int .i64 0, .slice none 0 0]] W fun e w' => e = .returned (.bool true) ∧ Below W.heap.size W w' := fun W hb => same16p_any rc false ⟨#[]⟩ hnr.out (by omega) ((hrB.out.below hb).more hb.size) ((hrA.out.below hb).more hb.size)
        replace hS := Lib.hid hS
        have hK : ∀ W, Below wz.heap.size wz W → (W.cell? ⟨wr.heap.size, 2, none⟩ = some (.bool false) ∧ W.cell? ⟨wr.heap.size, 3, none⟩ = some (.int .i64 xk) ∧ W.cell? ⟨wr.heap.size, 4, none⟩ = some (.int .u64 xb) ∧ W.cell? ⟨wr.heap.size, 5, none⟩ = some (.int .i64 xc) ∧ W.cell? ⟨wr.heap.size, 6, none⟩ = some (.int .u64 xo) ∧ W.cell? ⟨wr.heap.size, 7, none⟩ = some (.int .u64 xn) ∧ W.cell? ⟨wr.heap.size, 8, none⟩ = some (.string xt) ∧ W.cell? ⟨w2.heap.size, 0, none⟩ = some (.int .i64 rc) ∧ W.cell? ⟨w2.heap.size, 1, none⟩ = some (.int .i64 0) ∧ W.cell? ⟨w2.heap.size, 2, none⟩ = some (.int .i64 0) ∧ W.cell? ⟨w2.heap.size, 3, none⟩ = some (.bool false) ∧ W.cell? ⟨w2.heap.size, 4, none⟩ = some (.string ⟨#[]⟩) ∧ W.cell? ⟨w2.heap.size, 5, none⟩ = some (.slice A' nr cp) ∧ W.cell? ⟨w2.heap.size, 6, none⟩ = some (.int .i64 0) ∧ W.cell? ⟨w2.heap.size, 7, none⟩ = some (.slice none 0 0) ∧ W.cell? ⟨w2.heap.size, 8, none⟩ = some (.int .i64 rm) ∧ W.cell? ⟨w4.heap.size, 0, none⟩ = some (.int .i64 rc) ∧ W.cell? ⟨w4.heap.size, 1, none⟩ = some (.int .i64 0) ∧ W.cell? ⟨w4.heap.size, 2, none⟩ = some (.int .i64 0) ∧ W.cell? ⟨w4.heap.size, 3, none⟩ = some (.bool false) ∧ W.cell? ⟨w4.heap.size, 4, none⟩ = some (.string ⟨#[]⟩) ∧ W.cell? ⟨w4.heap.size, 5, none⟩ = some (.slice vA nr vc) ∧ W.cell? ⟨w4.heap.size, 6, none⟩ = some (.int .i64 0) ∧ W.cell? ⟨w4.heap.size, 7, none⟩ = some (.slice none 0 0) ∧ W.cell? ⟨w4.heap.size, 8, none⟩ = some (.int .i64 rm) ∧ W.cell? ⟨w3.heap.size, 0, none⟩ = some (.int .i64 xk) ∧ W.cell? ⟨w3.heap.size, 1, none⟩ = some (.int .u64 xb) ∧ W.cell? ⟨w3.heap.size, 2, none⟩ = some (.int .i64 xc) ∧ W.cell? ⟨w3.heap.size, 3, none⟩ = some (.int .u64 xo) ∧ W.cell? ⟨w3.heap.size, 4, none⟩ = some (.int .u64 xn) ∧ W.cell? ⟨w3.heap.size, 5, none⟩ = some (.string xt)) := fun W hb => ⟨(hb.cell T4.out.blk.lt).trans t2, (hb.cell T4.out.blk.lt).trans t3, (hb.cell T4.out.blk.lt).trans t4, (hb.cell T4.out.blk.lt).trans t5, (hb.cell T4.out.blk.lt).trans t6, (hb.cell T4.out.blk.lt).trans t7, (hb.cell T4.out.blk.lt).trans t8, (hb.cell W4.out.lt).trans y0, (hb.cell W4.out.lt).trans y1, (hb.cell W4.out.lt).trans y2, (hb.cell W4.out.lt).trans y3, (hb.cell W4.out.lt).trans y4, (hb.cell W4.out.lt).trans y5, (hb.cell W4.out.lt).trans y6, (hb.cell W4.out.lt).trans y7, (hb.cell W4.out.lt).trans y8, (hb.cell X4.out.lt).trans x0, (hb.cell X4.out.lt).trans x1, (hb.cell X4.out.lt).trans x2, (hb.cell X4.out.lt).trans x3, (hb.cell X4.out.lt).trans x4, (hb.cell X4.out.lt).trans x5, (hb.cell X4.out.lt).trans x6, (hb.cell X4.out.lt).trans x7, (hb.cell X4.out.lt).trans x8, (hb.cell B4.out.lt).trans a0, (hb.cell B4.out.lt).trans a1, (hb.cell B4.out.lt).trans a2, (hb.cell B4.out.lt).trans a3, (hb.cell B4.out.lt).trans a4, (hb.cell B4.out.lt).trans a5⟩
        replace hK := Lib.hid hK
        go_region_held3 (fun W => W.cell? ⟨wr.heap.size, 2, none⟩ = some (.bool false) ∧ W.cell? ⟨wr.heap.size, 3, none⟩ = some (.int .i64 xk) ∧ W.cell? ⟨wr.heap.size, 4, none⟩ = some (.int .u64 xb) ∧ W.cell? ⟨wr.heap.size, 5, none⟩ = some (.int .i64 xc) ∧ W.cell? ⟨wr.heap.size, 6, none⟩ = some (.int .u64 xo) ∧ W.cell? ⟨wr.heap.size, 7, none⟩ = some (.int .u64 xn) ∧ W.cell? ⟨wr.heap.size, 8, none⟩ = some (.string xt) ∧ W.cell? ⟨w2.heap.size, 0, none⟩ = some (.int .i64 rc) ∧ W.cell? ⟨w2.heap.size, 1, none⟩ = some (.int .i64 0) ∧ W.cell? ⟨w2.heap.size, 2, none⟩ = some (.int .i64 0) ∧ W.cell? ⟨w2.heap.size, 3, none⟩ = some (.bool false) ∧ W.cell? ⟨w2.heap.size, 4, none⟩ = some (.string ⟨#[]⟩) ∧ W.cell? ⟨w2.heap.size, 5, none⟩ = some (.slice A' nr cp) ∧ W.cell? ⟨w2.heap.size, 6, none⟩ = some (.int .i64 0) ∧ W.cell? ⟨w2.heap.size, 7, none⟩ = some (.slice none 0 0) ∧ W.cell? ⟨w2.heap.size, 8, none⟩ = some (.int .i64 rm) ∧ W.cell? ⟨w4.heap.size, 0, none⟩ = some (.int .i64 rc) ∧ W.cell? ⟨w4.heap.size, 1, none⟩ = some (.int .i64 0) ∧ W.cell? ⟨w4.heap.size, 2, none⟩ = some (.int .i64 0) ∧ W.cell? ⟨w4.heap.size, 3, none⟩ = some (.bool false) ∧ W.cell? ⟨w4.heap.size, 4, none⟩ = some (.string ⟨#[]⟩) ∧ W.cell? ⟨w4.heap.size, 5, none⟩ = some (.slice vA nr vc) ∧ W.cell? ⟨w4.heap.size, 6, none⟩ = some (.int .i64 0) ∧ W.cell? ⟨w4.heap.size, 7, none⟩ = some (.slice none 0 0) ∧ W.cell? ⟨w4.heap.size, 8, none⟩ = some (.int .i64 rm) ∧ W.cell? ⟨w3.heap.size, 0, none⟩ = some (.int .i64 xk) ∧ W.cell? ⟨w3.heap.size, 1, none⟩ = some (.int .u64 xb) ∧ W.cell? ⟨w3.heap.size, 2, none⟩ = some (.int .i64 xc) ∧ W.cell? ⟨w3.heap.size, 3, none⟩ = some (.int .u64 xo) ∧ W.cell? ⟨w3.heap.size, 4, none⟩ = some (.int .u64 xn) ∧ W.cell? ⟨w3.heap.size, 5, none⟩ = some (.string xt))
          (first | assumption | go_keep)
          (first | (go_at_call 13; refine (hS.out _ (by first | exact Below.refl _ _ | exact (Below.refl _ _).drew | exact below_drewN (Below.refl _ _) _)).mono ?_; rintro e w9 ⟨rfl, hb9⟩; have oC := (by first | exact hb9 | exact (below_drewN (Below.refl _ _) _).trans hb9 | exact (Below.refl _ _).drew.trans hb9 : Below wz.heap.size wz w9); have sC := hK.out _ oC; replace oC := Lib.hid oC; clear hb9))
        all_goals
          have z2 := sC.1
          clear sC t2 t3 t4 t5 t6 t7 t8 y0 y1 y2 y3 y4 y5 y6 y7 y8 x0 x1 x2 x3 x4 x5 x6 x7 x8 a0 a1 a2 a3 a4 a5
          have hE := hB4.out.trans (oC.out.mono (by have := hB4.out.size; omega))
          replace hE := Lib.hid hE
          go_wp2_with fail
          refine (awake27 _).mono ?_; rintro e wD ⟨rfl, hbx⟩
          go_wp2_with fail
          go_ret
          first | exact ⟨rfl, Below.next_ hE.out hbx⟩ | exact ⟨rfl, Below.next_ hE.out.drew hbx⟩ | exact ⟨rfl, Below.next_ (below_drewN hE.out _) hbx⟩
    · have d3 : decide ((k : Int) ≤ (len : Int)) = false := by simp; omega
      replace b0 := Lib.hid b0
      replace hbel := Lib.hid hbel
      replace hVk := Lib.hid hVk
      go_wp2_with fail
      refine (awake27 _).mono ?_; rintro e wD ⟨rfl, hbx⟩
      go_wp2_with fail
      go_ret
      exact ⟨rfl, Below.next_ hbel.out hbx⟩
theorem walkActs27 (A : Option Addr) (len cap : Nat) (hlc : len ≤ cap) (gs : List PGot) (hlen : gs.length = len) (hok : ∀ g ∈ gs, g.Ok) (c : PCfg) (th : Int) (hth : 0 ≤ th ∧ th ≤ 255) (w : World) (hr : Reads w w.heap.size 2 A len (gotL gs)) :
    Calls Tryz.prog 3 #[c.val, .int .u8 th, .slice A len cap] w fun e w' => e = .returned (.bool true) ∧ Below w.heap.size w w' := by
  by_cases hbig : 60 < len
  · exact vactsBig A len cap c th hbig w
  cases hright : c.right with
  | false => exact vactsNo A len cap c th hth hbig hright w
  | true => exact vactsYes A len cap hlc gs hlen hok c th hth hbig hright w hr
end Go.Proofs.YtmlnhjfdhjachaaGreat
