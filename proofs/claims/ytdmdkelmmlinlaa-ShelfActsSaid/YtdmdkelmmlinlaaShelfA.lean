/-
  The walk over the law of versions' acts (layer 22). No condition.
-/
import Derived.Test.YtdmdkelmmlinlaaShelfR
import Derived.Test.YtdmdkelmmlinlaaSess
import Derived.BigQuiet
namespace Go.Proofs.Ytdmdkelmmlinlaa
set_option linter.unusedVariables false
open Go.ChangeShapes Go.WideShapes Go.ChangeAt Go.RowKit
open Go.ChangeMaps (setBlock)

set_option maxRecDepth 100000 in
set_option maxHeartbeats 1000000 in
theorem awake22 (w : World) : Calls Try.prog 34 #[] w fun e w' => e = .returned (.bool true) ∧ Below w.heap.size w w' := by
  go_enter Try.func34, Try.ntmps34
  go_wp2_with fail
  refine (new_sess _).mono ?_; rintro e w1 ⟨hb, rfl, s⟩
  have hN := verNew_any w1 2 0 chK
  rw [show PChange.val chK = .agg #[.string ⟨#[107]⟩, .bool false, .string ⟨#[]⟩] from rfl] at hN
  replace hN := Lib.hid hN
  go_wp2_with fail
  refine (hN.out).mono ?_; rintro e w2 ⟨b, ar, cc, rfl, hV, hb1, hb2, hbl⟩
  have s2 := s.keep hbl
  obtain ⟨F, hH, hF, hB0⟩ := s
  have hFw := hH.own
  have hH2 := hH.below hbl
  have hR : VerR w2 (fun k => k = b ∨ k = ar) b (newVer 2 0 chK) :=
    ⟨fun k hk => by rcases hk with rfl | rfl; exact hV.blk.lt; exact hV.lt, .inl rfl, verNew_ok 2 0 chK (by decide) (by decide) (by decide), by decide, ar, cc, .inr rfl, hV⟩
  have off : Off F (fun k => k = b ∨ k = ar) := fun k hk hg => by
    have := hFw k hk
    rcases hg with rfl | rfl <;> omega
  have hA := alone_any verRout hH2 hR off (by decide) (by decide) 9 (by decide)
  have hB2 := nx hB0 (Nat.le_refl _) hbl
  have hs1 := hB0.size
  replace hA := Lib.hid hA
  replace hN := Lib.hid hN
  replace s2 := Lib.hid s2
  replace hH := Lib.hid hH
  replace hH2 := Lib.hid hH2
  replace hV := Lib.hid hV
  replace hR := Lib.hid hR
  replace off := Lib.hid off
  replace hB2 := Lib.hid hB2
  go_wp2_with fail
  refine (hA.out).mono ?_; rintro e w3 ⟨xs, S', s', hRun, hstop, hle, rfl, hW⟩
  obtain ⟨hl, ⟨r, rfl⟩, rfl⟩ := awake22_runs hRun hstop
  rw [hl]
  rw [show (!(verRout.act ⟨verTodo 2 0 chK, 2, 1⟩).2) = true from by kernel_rfl]
  obtain ⟨⟨F', Q', hH3, hR3, _, hnew⟩, hchg⟩ := hW
  obtain ⟨_, _, _, _, ar', cc', _, hV3⟩ := hR3
  have hB3 : Below w.heap.size w w3 := hB2.out.trans (hchg.below (fun k hk => by
    rcases hk with hk | hk | hk
    · exact hF k hk
    · omega
    · omega) hB2.out.size)
  have s3 : Sess w hb ⟨[⟨1, r, [2, 0, 0], ByteArray.empty⟩], 1, false, 0⟩ w3 := ⟨F', hH3, fun k hk => by
    have h2 := hB2.out.size
    rcases hnew k (.inl hk) with (hk | hk | hk) | hk
    · exact hF k hk
    · omega
    · omega
    · omega, hB3⟩
  replace hRun := Lib.hid hRun
  replace hV3 := Lib.hid hV3
  replace hH3 := Lib.hid hH3
  replace hchg := Lib.hid hchg
  replace hB3 := Lib.hid hB3
  have hRes := verResult_any hV3.out
  rw [show PVer.result ⟨verTodo 2 0 chK, 2, 1⟩ = (1, true) from by kernel_rfl] at hRes
  replace hRes := Lib.hid hRes
  clear hnew hle hl
  go_wp2_with fail
  refine (hRes.out).mono ?_; rintro e w4 ⟨rfl, hb4⟩
  have s4 := s3.keep hb4
  clear hb4
  go_wp2_with fail
  refine (s4.of fun F h => load_hit h (b := 1) (x := ⟨1, r, [2, 0, 0], ByteArray.empty⟩) rfl 0 (by show 0 < 3; decide)).mono ?_; rintro e w5 ⟨rfl, s5⟩
  rw [show PBlk.nth ⟨1, r, [2, 0, 0], ByteArray.empty⟩ 0 = 2 from rfl]
  go_wp2_with fail
  refine (verResult_nil _).mono ?_; rintro e w6 ⟨rfl, hb6⟩
  have s6 := s5.keep hb6
  clear hb6
  go_wp2_with fail
  refine (s6.same fun F h => size_any h 1).mono ?_; rintro e w7 ⟨rfl, rfl⟩
  rw [show (((PHeap.find ⟨[⟨1, r, [2, 0, 0], ByteArray.empty⟩], 1, false, 0⟩ 1).map fun x => (x.cells.length : Int)).getD 0) = 3 from rfl]
  go_wp2_with fail
  go_ret
  exact ⟨rfl, s6.below⟩

theorem gotL_flat (l : List PGot) : gotL l = l.flatMap fun g => [Value.int .u64 g.word, .string g.text] := rfl
theorem gotL_take (l : List PGot) (k : Nat) : gotL (l.take k) = (gotL l).take (k * 2) := by
  induction l generalizing k with
  | nil => simp [gotL]
  | cons x l ih =>
    cases k with
    | zero => simp [gotL]
    | succ k =>
      have := ih k
      simp only [gotL, List.take_succ_cons, List.map_cons, List.flatten_cons] at this ⊢
      rw [this, show (k + 1) * 2 = k * 2 + 2 by omega]
      rfl
theorem reads_take {w : World} {B n k : Nat} {A : Option Addr} {gs : List PGot} (h : Reads w B 2 A n (gotL gs)) (hk : k ≤ n) (hl : gs.length = n) : Reads w B 2 A (gs.take k).length (gotL (gs.take k)) := by
  have e : (gs.take k).length = k := by simp; omega
  rw [e]
  refine ⟨?_, fun hn => ?_⟩
  · have : ∀ l : List PGot, (gotL l).length = l.length * 2 := by
      intro l
      induction l with
      | nil => rfl
      | cons x l ih => simp only [gotL, List.map_cons, List.flatten_cons, List.length_append, List.length_cons] at ih ⊢; rw [ih]; simp; omega
    rw [this, e]
  · obtain ⟨ad, rfl, hb, hc⟩ := h.2 (by omega)
    refine ⟨ad, rfl, hb, fun j u hu => hc j u ?_⟩
    rw [gotL_take, List.getElem?_take] at hu
    split at hu
    · exact hu
    · cases hu
def freshT (gs : List PGot) : PTape := ⟨gs, 0, false, noAct⟩
/-- Between two rounds. -/
structure ActsRel (w : World) (len : Nat) (gs : List PGot) (n0 n1 : Int) (c : PChange) (b ar cc : Nat) (i : Value) (wr : World) : Prop where
  ex : ∃ k : Nat, k ≤ len + 1 ∧ i = .int .i64 k ∧ VerIn wr b ar cc (feed PVer.take (newVer n0 n1 c) (gs.take k))
  b0 : Blk wr w.heap.size 80 #[.int .u64 n0, .int .u64 n1]
  b1 : Blk wr (w.heap.size + 1) 82 #[.string c.key, .bool c.has, .string c.value]
  below : Below w.heap.size w wr
set_option maxRecDepth 100000 in
set_option maxHeartbeats 1000000 in
theorem walkActs (A : Option Addr) (len cap : Nat) (hlc : len ≤ cap) (gs : List PGot) (hlen : gs.length = len) (n0 n1 : Int) (c : PChange) (w : World) (hr : Reads w w.heap.size 2 A len (gotL gs)) :
    Calls Try.prog 8 #[.agg #[.int .u64 n0, .int .u64 n1], c.val, .slice A len cap] w fun e w' => e = .returned (.bool true) ∧ Below w.heap.size w w' := by
  obtain ⟨key, has, value⟩ := c
  rw [show PChange.val ⟨key, has, value⟩ = .agg #[.string key, .bool has, .string value] from rfl]
  by_cases hbig : 8 < len
  · have d1 : decide ((8 : Int) < (len : Int)) = true := by simp; omega
    go_enter Try.func8, Try.ntmps8
    go_wp2_with fail
    refine (awake22 _).mono ?_; rintro e w7 ⟨rfl, hb7⟩
    go_wp2_with fail
    go_ret
    refine ⟨rfl, ?_⟩
    exact (((Below.refl _ _).alloc (Nat.le_refl _) _).alloc (by simp) _).trans (hb7.mono (by simp; omega))
  have d1 : decide ((8 : Int) < (len : Int)) = false := by simp; omega
  by_cases hval : 1000 < value.size
  · have d2 : decide ((1000 : Int) < (value.size : Int)) = true := by simp; omega
    go_enter Try.func8, Try.ntmps8
    go_wp2_with fail
    refine (awake22 _).mono ?_; rintro e w7 ⟨rfl, hb7⟩
    go_wp2_with fail
    go_ret
    refine ⟨rfl, ?_⟩
    exact (((Below.refl _ _).alloc (Nat.le_refl _) _).alloc (by simp) _).trans (hb7.mono (by simp; omega))
  have d2 : decide ((1000 : Int) < (value.size : Int)) = false := by simp; omega
  replace hval := Lib.hid hval
  have hN := fun W => verNew_any W n0 n1 ⟨key, has, value⟩
  rw [show PChange.val ⟨key, has, value⟩ = .agg #[.string key, .bool has, .string value] from rfl] at hN
  replace hN := Lib.hid hN
  replace hr := Lib.hid hr
  go_enter Try.func8, Try.ntmps8
  go_wp2_with fail
  refine (hN.out _).mono ?_; rintro e w1 ⟨b, ar, cc, rfl, hV, hb1, hb2, hbl⟩
  have hz : Below w.heap.size w ((w.alloc (.cells #[.int .u64 n0, .int .u64 n1] 80)).alloc (.cells #[.string key, .bool has, .string value] 82)) := ((Below.refl _ _).alloc (Nat.le_refl _) _).alloc (by simp) _
  have B0 := ((Blk.new w 80 #[.int .u64 n0, .int .u64 n1]).alloc (.cells #[.string key, .bool has, .string value] 82)).below hbl (by simp; omega)
  have B1 := (Blk.new (w.alloc (.cells #[.int .u64 n0, .int .u64 n1] 80)) 82 #[.string key, .bool has, .string value]).below hbl (by simp)
  simp only [World.size_alloc] at B1
  have hz1 := nx hz (by simp) hbl
  simp at hb1 hb2
  replace hV := Lib.hid hV
  replace hN := Lib.hid hN
  replace B0 := Lib.hid B0
  replace B1 := Lib.hid B1
  replace hz := Lib.hid hz
  replace hbl := Lib.hid hbl
  replace hz1 := Lib.hid hz1
  go_wp2_with fail
  go_loopw [8] (fun i wr => ActsRel w len gs n0 n1 ⟨key, has, value⟩ b ar cc i wr) (fun i _ => len + 2 - (intOf i).toNat)
  case atStart => exact ⟨⟨0, by omega, rfl, hV.out⟩, B0.out, B1.out, hz1.out⟩
  case round =>
    obtain ⟨⟨k, hk, rfl, hVk⟩, b0, b1, hbel⟩ := hrel
    by_cases hke : k ≤ len
    · have d3 : decide ((k : Int) ≤ (len : Int)) = true := by simp; omega
      have i1 : (0 : Int) ≤ (k : Int) := by omega
      have i2 : (k : Int) ≤ (cap : Int) := by omega
      have hs1 := b0.lt
      have hs2 := b1.lt
      have hbk := hVk.blk.lt
      have hak := hVk.lt
      have c00 := b0.cell 0
      have c01 := b0.cell 1
      have c10 := b1.cell 0
      have c11 := b1.cell 1
      have c12 := b1.cell 2
      replace hVk := Lib.hid hVk
      replace b0 := Lib.hid b0
      replace b1 := Lib.hid b1
      replace hbel := Lib.hid hbel
      go_wp2_with fail
      have hT : TapeIn (wr.alloc (.cells #[.slice A k cap, .int .i64 0, .bool false, .int .i64 0, .int .u64 0, .int .i64 0, .int .u64 0, .int .u64 0, .string ⟨#[]⟩] 87)) wr.heap.size A cap (freshT (gs.take k)) := by
        have hsz := hbel.out.size
        have e : (gs.take k).length = k := by simp; omega
        refine ⟨Blk.eq_cs (Blk.new wr 87 _) (by simp [PTape.cells, freshT, e, noAct]; rfl), ?_, by show (gs.take k).length ≤ _; omega, Nat.zero_le _⟩
        exact ((reads_take hr.out hke hlen).below (hbel.out.trans ((Below.refl wr.heap.size wr).alloc (Nat.le_refl _) _ |>.mono hsz))).more (by omega)
      have hRef := refVersion_any hT n0 n1 ⟨key, has, value⟩
      rw [show PChange.val ⟨key, has, value⟩ = .agg #[.string key, .bool has, .string value] from rfl] at hRef
      have hFed := version_fed n0 n1 ⟨key, has, value⟩ (gs.take k) (freshT (gs.take k)) rfl rfl rfl rfl
      generalize hv : (freshT (gs.take k)).version n0 n1 ⟨key, has, value⟩ = V at *
      obtain ⟨vb, T'⟩ := V
      replace hRef := Lib.hid hRef
      replace hFed := Lib.hid hFed
      replace hT := Lib.hid hT
      clear hv
      refine (hRef.out).mono ?_; rintro e w2 ⟨rfl, hT2, hC2⟩
      have hT2 : TapeIn w2 wr.heap.size A cap T' := hT2
      have hF2 := hFed.out
      simp only at hF2
      change Ended PVer.act PVer.take _ _ T' ∨ (T'.over = false ∧ T'.act = noAct ∧ _ ∧ (feed PVer.take _ _).block = vb) at hF2
      have hVk2 := hVk.out
      generalize hs : feed PVer.take (newVer n0 n1 ⟨key, has, value⟩) (gs.take k) = s at *
      have hne1 : b ≠ wr.heap.size := by omega
      have hne2 : ar ≠ wr.heap.size := by omega
      have hVw : VerIn w2 b ar cc s := (hVk2.below ((Below.refl _ _).alloc (Nat.le_refl _) _)).keep hC2.size (hC2.block b (by simp; omega) hne1) (hC2.block ar (by simp; omega) hne2)
      have hBw : Below w.heap.size w w2 := (Below.more_ hbel.out _).trans (hC2.below (fun i hi => by have := hbel.out.size; omega) (by have := hbel.out.size; simp; omega))
      have b02 := (b0.out.alloc _).keep (hC2.block w.heap.size (by simp; omega) (by show w.heap.size ≠ wr.heap.size; omega))
      have b12 := (b1.out.alloc _).keep (hC2.block (w.heap.size + 1) (by simp; omega) (by show w.heap.size + 1 ≠ wr.heap.size; omega))
      have hA2 := verAct_any hVw
      have hsz2 := hC2.size
      simp only [World.size_alloc] at hsz2
      have htk : ∀ g : PGot, gs[k]? = some g → feed PVer.take (newVer n0 n1 ⟨key, has, value⟩) (gs.take (k + 1)) = s.take g := fun g hg => by rw [feed_snoc _ gs k g hg, hs]
      have hend : k = len → feed PVer.take (newVer n0 n1 ⟨key, has, value⟩) (gs.take (k + 1)) = s := fun e => by rw [← hs, List.take_of_length_le (by omega), List.take_of_length_le (by omega)]
      replace htk := Lib.hid htk
      replace hend := Lib.hid hend
      replace hs := Lib.hid hs
      replace b02 := Lib.hid b02
      replace b12 := Lib.hid b12
      replace hC2 := Lib.hid hC2
      clear c00 c01 c10 c11 c12 hFed hRef
      rcases hF2 with hE | ⟨ho, hna, hat, hbk2⟩
      · have hact := hE.act
        rw [hs.out] at hact
        rw [hact] at hA2
        have hres := PVer.result_on s (by rw [hact])
        have hov := hE.over
        obtain ⟨tg, ta, tov, ⟨xk, xb, xc, xo, xn, xt⟩⟩ := T'
        simp only at hov
        subst hov
        change Calls Try.prog _ _ _ (fun e w' => e = .returned (.tuple #[.agg #[.int .i64 xk, .int .u64 xb, .int .i64 xc, .int .u64 xo, .int .u64 xn, .string xt], .bool true]) ∧ _) at hA2
        replace hA2 := Lib.hid hA2
        replace hVw := Lib.hid hVw
        replace hBw := Lib.hid hBw
        replace hT2 := Lib.hid hT2
        replace hE := Lib.hid hE
        replace hact := Lib.hid hact
        replace hres := Lib.hid hres
        go_wp2_with fail
        refine (hA2.out).mono ?_; rintro e w3 ⟨rfl, hb3⟩
        have hR3 := verResult_any ((hVw.out.below hb3).below ((Below.refl _ _).alloc (Nat.le_refl _) (.cells #[.int .i64 xk, .int .u64 xb, .int .i64 xc, .int .u64 xo, .int .u64 xn, .string xt] 74)))
        rw [hres.out] at hR3
        replace hb3 := Lib.hid hb3
        replace hR3 := Lib.hid hR3
        go_wp2_with fail
        refine (hR3.out).mono ?_; rintro e w4 ⟨rfl, hb4⟩
        have hsz3 := (hb3.out).size
        have hsz4 := hb4.size
        simp only [World.size_alloc] at hsz4
        have hb34 : Below w2.heap.size w2 w4 := ((hb3.out).alloc (hb3.out).size _).trans (hb4.mono (by have := (hb3.out).size; simp; omega))
        have T4 := hT2.out.below hb34
        have V4 := hVw.out.below hb34
        have B4 := (Blk.new w3 74 #[.int .i64 xk, .int .u64 xb, .int .i64 xc, .int .u64 xo, .int .u64 xn, .string xt]).below hb4 (by simp)
        have b04 := b02.out.below hb34 b02.out.lt
        have b14 := b12.out.below hb34 b12.out.lt
        have t2 : w4.cell? ⟨wr.heap.size, 2, none⟩ = some (.bool true) := T4.blk.cell 2
        have t3 : w4.cell? ⟨wr.heap.size, 3, none⟩ = some (.int .i64 xk) := T4.blk.cell 3
        have t4 : w4.cell? ⟨wr.heap.size, 4, none⟩ = some (.int .u64 xb) := T4.blk.cell 4
        have t5 : w4.cell? ⟨wr.heap.size, 5, none⟩ = some (.int .i64 xc) := T4.blk.cell 5
        have t6 : w4.cell? ⟨wr.heap.size, 6, none⟩ = some (.int .u64 xo) := T4.blk.cell 6
        have t7 : w4.cell? ⟨wr.heap.size, 7, none⟩ = some (.int .u64 xn) := T4.blk.cell 7
        have t8 : w4.cell? ⟨wr.heap.size, 8, none⟩ = some (.string xt) := T4.blk.cell 8
        have a0 := B4.cell 0
        have a1 := B4.cell 1
        have a2 := B4.cell 2
        have a3 := B4.cell 3
        have a4 := B4.cell 4
        have a5 := B4.cell 5
        have hB4 : Below w.heap.size w w4 := hBw.out.trans (hb34.mono (by have := hBw.out.size; omega))
        replace T4 := Lib.hid T4
        replace V4 := Lib.hid V4
        replace B4 := Lib.hid B4
        replace b04 := Lib.hid b04
        replace b14 := Lib.hid b14
        replace hb34 := Lib.hid hb34
        replace hb4 := Lib.hid hb4
        replace hB4 := Lib.hid hB4
        by_cases hkl : k < len
        · have d4 : decide ((k : Int) < (len : Int)) = true := by simp; omega
          have i3 : (k : Int) < (len : Int) := by omega
          obtain ⟨⟨gw, gt⟩, hgk⟩ : ∃ g, gs[k]? = some g := ⟨_, List.getElem?_eq_getElem (by omega)⟩
          obtain ⟨ad, rfl, hadb, hcl⟩ := hr.out.2 (show 0 < len by omega)
          obtain ⟨q1, q2⟩ := gotL_at gs k _ hgk
          have r1 := keepc hB4.out hadb (hcl _ _ q1)
          have r2' := keepc hB4.out hadb (hcl _ _ q2)
          have r2 : w4.cell? ⟨(ad.add (k * 2)).block, (ad.add (k * 2)).off + 1, none⟩ = some (.string gt) := by
            have e : (⟨(ad.add (k * 2)).block, (ad.add (k * 2)).off + 1, none⟩ : Addr) = (ad.add (k * 2)).add 1 := rfl
            rw [e, add_of_add]
            exact r2'
          clear r2' q1 q2 hcl
          replace hgk := Lib.hid hgk
          go_wp2_with fail
          go_quiet (fail)
          go_wp2_with fail
          have hTk := verTake_any (V4.out.below (below_drewN (Below.refl _ _) nq)) ⟨gw, gt⟩
          rw [show PGot.val ⟨gw, gt⟩ = .agg #[.int .u64 gw, .string gt] from rfl] at hTk
          refine hTk.mono ?_; rintro e w5 ⟨rfl, V6, C6⟩
          have V7 : VerIn w5 b ar cc (feed PVer.take (newVer n0 n1 ⟨key, has, value⟩) (gs.take (k + 1))) := by rw [htk.out _ hgk.out]; exact V6
          have hl0 := b04.out.lt
          have hl1 := b14.out.lt
          have b05 := (b04.out.drewN nq).keep (C6.block w.heap.size hl0 (by omega))
          have b15 := (b14.out.drewN nq).keep (C6.block (w.heap.size + 1) hl1 (by omega))
          have hB5 : Below w.heap.size w w5 := (below_drewN hB4.out nq).trans (C6.below (fun i hi => by omega) (by show w.heap.size ≤ w4.heap.size; omega))
          replace V6 := Lib.hid V6
          replace V7 := Lib.hid V7
          replace C6 := Lib.hid C6
          replace hTk := Lib.hid hTk
          replace b05 := Lib.hid b05
          replace b15 := Lib.hid b15
          replace hB5 := Lib.hid hB5
          go_wp2_with fail
          go_roundw
          case rel => exact ⟨⟨k + 1, by omega, by go_num, V7.out⟩, b05.out, b15.out, hB5.out⟩
          case measure => simp [intOf]; omega
        · have d4 : decide ((k : Int) < (len : Int)) = false := by simp; omega
          go_wp2_with fail
          go_quiet (fail)
          go_wp2_with fail
          go_roundw
          case rel => exact ⟨⟨k + 1, by omega, by go_num, by rw [hend.out (by omega)]; exact V4.out.below (below_drewN (Below.refl _ _) _)⟩, b04.out.drewN _, b14.out.drewN _, below_drewN hB4.out _⟩
          case measure => simp [intOf]; omega
      · have hact := PVer.act_done s hat
        rw [hact] at hA2
        have hres : s.result = (vb, true) := by simp [PVer.result, hat, hbk2]
        obtain ⟨tg, ta, tov, tact⟩ := T'
        simp only at ho hna
        subst ho hna
        change Calls Try.prog _ _ _ (fun e w' => e = .returned (.tuple #[.agg #[.int .i64 0, .int .u64 0, .int .i64 0, .int .u64 0, .int .u64 0, .string ⟨#[]⟩], .bool false]) ∧ _) at hA2
        replace hA2 := Lib.hid hA2
        replace hVw := Lib.hid hVw
        replace hBw := Lib.hid hBw
        replace hT2 := Lib.hid hT2
        replace hact := Lib.hid hact
        replace hres := Lib.hid hres
        replace hat := Lib.hid hat
        replace hbk2 := Lib.hid hbk2
        go_wp2_with fail
        refine (hA2.out).mono ?_; rintro e w3 ⟨rfl, hb3⟩
        have hR3 := verResult_any ((hVw.out.below hb3).below ((Below.refl _ _).alloc (Nat.le_refl _) (.cells #[.int .i64 0, .int .u64 0, .int .i64 0, .int .u64 0, .int .u64 0, .string ⟨#[]⟩] 74)))
        rw [hres.out] at hR3
        replace hb3 := Lib.hid hb3
        replace hR3 := Lib.hid hR3
        go_wp2_with fail
        refine (hR3.out).mono ?_; rintro e w4 ⟨rfl, hb4⟩
        have hsz3 := (hb3.out).size
        have hsz4 := hb4.size
        simp only [World.size_alloc] at hsz4
        have hb34 : Below w2.heap.size w2 w4 := ((hb3.out).alloc (hb3.out).size _).trans (hb4.mono (by have := (hb3.out).size; simp; omega))
        have T4 := hT2.out.below hb34
        have V4 := hVw.out.below hb34
        have B4 := (Blk.new w3 74 #[.int .i64 0, .int .u64 0, .int .i64 0, .int .u64 0, .int .u64 0, .string ⟨#[]⟩]).below hb4 (by simp)
        have b04 := b02.out.below hb34 b02.out.lt
        have b14 := b12.out.below hb34 b12.out.lt
        have t2 : w4.cell? ⟨wr.heap.size, 2, none⟩ = some (.bool false) := T4.blk.cell 2
        have t3 : w4.cell? ⟨wr.heap.size, 3, none⟩ = some (.int .i64 0) := T4.blk.cell 3
        have t4 : w4.cell? ⟨wr.heap.size, 4, none⟩ = some (.int .u64 0) := T4.blk.cell 4
        have t5 : w4.cell? ⟨wr.heap.size, 5, none⟩ = some (.int .i64 0) := T4.blk.cell 5
        have t6 : w4.cell? ⟨wr.heap.size, 6, none⟩ = some (.int .u64 0) := T4.blk.cell 6
        have t7 : w4.cell? ⟨wr.heap.size, 7, none⟩ = some (.int .u64 0) := T4.blk.cell 7
        have t8 : w4.cell? ⟨wr.heap.size, 8, none⟩ = some (.string ⟨#[]⟩) := T4.blk.cell 8
        have a0 := B4.cell 0
        have a1 := B4.cell 1
        have a2 := B4.cell 2
        have a3 := B4.cell 3
        have a4 := B4.cell 4
        have a5 := B4.cell 5
        have hB4 : Below w.heap.size w w4 := hBw.out.trans (hb34.mono (by have := hBw.out.size; omega))
        replace T4 := Lib.hid T4
        replace V4 := Lib.hid V4
        replace B4 := Lib.hid B4
        replace b04 := Lib.hid b04
        replace b14 := Lib.hid b14
        replace hb34 := Lib.hid hb34
        replace hb4 := Lib.hid hb4
        replace hB4 := Lib.hid hB4
        go_wp2_with fail
        go_quiet (fail)
        go_wp2_with fail
        refine (awake22 _).mono ?_; rintro e w7 ⟨rfl, hb7⟩
        go_wp2_with fail
        go_ret
        exact ⟨rfl, Below.next_ (below_drewN hB4.out _) hb7⟩
    · have d3 : decide ((k : Int) ≤ (len : Int)) = false := by simp; omega
      go_wp2_with fail
      refine (awake22 _).mono ?_; rintro e w7 ⟨rfl, hb7⟩
      go_wp2_with fail
      go_ret
      exact ⟨rfl, Below.next_ hbel hb7⟩
end Go.Proofs.Ytdmdkelmmlinlaa
