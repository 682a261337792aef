/-
  drive.Run of one routine that is picked again and again. No condition.
-/
import Derived.Test.YtjoaifdjmdihoaaSame
import Derived.Test.YtjoaifdjmdihoaaRow
namespace Go.Proofs.Ytjoaifdjmdihoaa
set_option linter.unusedVariables false
open Go.ChangeShapes Go.WideShapes Go.ChangeAt Go.RowKit
open Go.ChangeMaps (setBlock)

def stepC (x : PAct × PGot) : List Value := [.int .i64 0, .int .i64 x.1.kind, .int .u64 x.1.block, .int .i64 x.1.cell, .int .u64 x.1.old, .int .u64 x.1.new, .string x.1.text, .int .u64 x.2.word, .string x.2.text]
section
variable {σ : Type} (Rt : Rout σ)
/-- While one routine is picked: the heap, the routine, and the steps that were put down so far. -/
structure RunIn (F G : Nat → Prop) (hb b : Nat) (w : World) (v : Value) (xs : List (PAct × PGot)) (S : PHeap) (s : σ) (F' G' : Nat → Prop) (wr : World) : Prop where
  heap : HeapIn wr hb S F'
  rt : Rt.R wr G' b s
  off : Off F' G'
  sub : ∀ j, F' j ∨ G' j → (F j ∨ G j) ∨ w.heap.size ≤ j
  row : ∀ g, v.ownBlock = some g → ¬ F' g ∧ ¬ G' g
  own : wr.ownsRow w.heap.size 63 9 v xs.length (xs.flatMap stepC)
  chg : Chg (fun j => F j ∨ G j) w wr
theorem RunIn.below {F G F' G' : Nat → Prop} {hb b : Nat} {w wr w2 : World} {v : Value} {xs : List (PAct × PGot)} {S : PHeap} {s : σ} (h : RunIn Rt F G hb b w v xs S s F' G' wr) (hb' : Below wr.heap.size wr w2) : RunIn Rt F G hb b w v xs S s F' G' w2 :=
  ⟨h.heap.below hb', Rt.below h.rt hb', h.off, h.sub, h.row, ownsRow_keep h.own fun g hg => hb'.block g (own_lt h.own hg).2, h.chg.next_ hb'⟩
theorem RunIn.went {F G F' G' : Nat → Prop} {hb b : Nat} {w wr w2 : World} {v : Value} {xs : List (PAct × PGot)} {S S2 : PHeap} {s s2 : σ} (h : RunIn Rt F G hb b w v xs S s F' G' wr) (hw : Went Rt F' G' hb b S2 s2 wr w2) : ∃ F2 G2, RunIn Rt F G hb b w v xs S2 s2 F2 G2 w2 := by
  obtain ⟨F2, G2, h1, h2, h3, h4⟩ := hw.ex
  have hs := h.chg.size
  have hnot : ∀ g, v.ownBlock = some g → ¬ (F2 g ∨ G2 g) := fun g hg h5 => by
    rcases h4 g h5 with (h6 | h6) | h6
    · exact (h.row g hg).1 h6
    · exact (h.row g hg).2 h6
    · have := (own_lt h.own hg).2
      omega
  refine ⟨F2, G2, h1, h2, h3, fun j hj => ?_, fun g hg => ⟨fun h5 => hnot g hg (.inl h5), fun h5 => hnot g hg (.inr h5)⟩, ownsRow_keep h.own fun g hg => hw.chg.block g (own_lt h.own hg).2 fun h5 => h5.elim (h.row g hg).1 (h.row g hg).2, h.chg.trans hw.chg h.sub⟩
  rcases h4 j hj with h5 | h5
  · exact h.sub j h5
  · exact .inr (by omega)
theorem RunIn.grow {F G F' G' : Nat → Prop} {hb b : Nat} {w W w5 : World} {v v' : Value} {xs : List (PAct × PGot)} {x : PAct × PGot} {S : PHeap} {s : σ} (h : RunIn Rt F G hb b w v xs S s F' G' W) (hown : w5.ownsRow w.heap.size 63 9 v' (xs.length + 1) (xs.flatMap stepC ++ stepC x)) (hgr : W.grownBy w5 v.ownBlock) (hloc : v'.ownBlock = v.ownBlock ∨ v'.ownBlock = some W.heap.size) : RunIn Rt F G hb b w v' (xs ++ [x]) S s F' G' w5 := by
  have hF := h.heap.own
  have hG := Rt.own h.rt
  have keepF : ∀ k, F' k ∨ G' k → w5.heap[k]? = W.heap[k]? := fun k hk => hgr.block k (hk.elim (hF k) (hG k)) (fun e => by
    have := h.row k e.symm
    exact hk.elim this.1 this.2)
  refine ⟨h.heap.keep hgr.size fun k hk => keepF k (.inl hk), Rt.keep h.rt hgr.size fun k hk => keepF k (.inr hk), h.off, h.sub, fun g hg => ?_, ?_, ?_⟩
  · rcases hloc with e | e
    · exact h.row g (e ▸ hg)
    · have e2 : g = W.heap.size := by
        rw [hg] at e
        injection e
      exact ⟨fun h5 => by have := hF g h5; omega, fun h5 => by have := hG g h5; omega⟩
  · rw [List.flatMap_append, List.flatMap_singleton, List.length_append]
    exact hown
  · exact ⟨hgr.os.trans h.chg.os, hgr.tape.trans h.chg.tape, hgr.output.trans h.chg.output, Nat.le_trans h.chg.size hgr.size, fun k hk hn => (hgr.block k (Nat.lt_of_lt_of_le hk h.chg.size) (fun e => by have := (own_lt h.own e.symm).1; omega)).trans (h.chg.block k hk hn)⟩
def RunAt (F G : Nat → Prop) (hb b : Nat) (S0 : PHeap) (s0 : σ) (w : World) (k : Nat) (v : Value) (wr : World) : Prop :=
  ∃ xs S s F' G', Runs Rt S0 s0 xs S s ∧ (k ≤ xs.length ∨ Rt.can S s = false) ∧ xs.length ≤ k ∧ RunIn Rt F G hb b w v xs S s F' G' wr
/-- Between two rounds. -/
structure RunRel (F G : Nat → Prop) (hb b : Nat) (S0 : PHeap) (s0 : σ) (w : World) (n : Nat) (v iv : Value) (wr : World) : Prop where
  ex : ∃ k, k ≤ n ∧ iv = .int .i64 (k : Nat) ∧ RunAt Rt F G hb b S0 s0 w k v wr
set_option maxRecDepth 100000 in
set_option maxHeartbeats 1000000 in
theorem run_any {w : World} {hb : Nat} {S0 : PHeap} {F G : Nat → Prop} {b : Nat} {s0 : σ} (h : HeapIn w hb S0 F) (hR : Rt.R w G b s0) (off : Off F G) (hf : S0.faults ≤ 1000000000) (hla : S0.last ≤ 1000000000) (rb : Nat) (hrb : Blk w rb 102 #[.iface Rt.T (.pointer (some ⟨b, 0, none⟩))]) (hrF : ¬ (F rb ∨ G rb))
    (A : Option Addr) (n cap : Nat) (hp : Reads w w.heap.size 1 A n (List.replicate n (.int .i64 0))) (hpF : ∀ ad, A = some ad → 0 < n → ¬ (F ad.block ∨ G ad.block)) (hn : n ≤ 255) :
    Calls Try.prog 21 #[.pointer (some ⟨hb, 0, none⟩), .slice (some ⟨rb, 0, none⟩) 1 1, .slice A n cap] w fun e w' => ∃ v, e = .returned v ∧ RunAt Rt F G hb b S0 s0 w n v w' := by
  obtain ⟨i0, hi, hz0', hz1', hz2'⟩ : ∃ i, Try.prog.info? 63 = some i ∧ i.zero = some (stepV 0 noAct noGot) ∧ i.size = 9 ∧ i.bytes = 88 := ⟨_, rfl, rfl, rfl, rfl⟩
  have hstart : RunAt Rt F G hb b S0 s0 w 0 (.slice none 0 0) w := ⟨[], S0, s0, F, G, ⟨rfl, rfl⟩, .inl (Nat.zero_le _), Nat.zero_le _, h, hR, off, fun j hj => .inl hj, fun g hg => (by cases hg), ⟨rfl, .inl ⟨rfl, rfl⟩⟩, Chg.refl _ _⟩
  replace h := Lib.hid h
  replace hR := Lib.hid hR
  replace off := Lib.hid off
  replace hi := Lib.hid hi
  replace hz0' := Lib.hid hz0'
  replace hz1' := Lib.hid hz1'
  replace hz2' := Lib.hid hz2'
  replace hstart := Lib.hid hstart
  replace hrb := Lib.hid hrb
  replace hp := Lib.hid hp
  go_enter Try.func21, Try.ntmps21
  go_wp2_with fail
  go_loopw [7, 14] (fun v iv wr => RunRel Rt F G hb b S0 s0 w n v iv wr) (fun _ i _ => n + 1 - (intOf i).toNat)
  case atStart => exact ⟨⟨0, Nat.zero_le _, rfl, hstart.out⟩⟩
  case round =>
    obtain ⟨⟨k, hk, rfl, xs, S, s, F', G', hrun, hstop, hlen, hin⟩⟩ := hrel
    by_cases hlt : k < n
    · have d1 : decide ((k : Int) < (n : Int)) = true := by simp; omega
      obtain ⟨ad, u, rfl, hadb, hu, hcell⟩ := hp.out.at_ hlt
      have hu0 : u = .int .i64 0 := by
        have := List.mem_of_getElem? hu
        exact List.eq_of_mem_replicate this
      subst hu0
      have p0 : wr.cell? (ad.add k) = some (.int .i64 0) := by
        have hbl : (ad.add k).block = ad.block := by unfold Addr.add; split <;> rfl
        exact (hin.chg.cell (by rw [hbl]; exact hadb) (by rw [hbl]; exact hpF ad rfl (by omega))).trans hcell
      have r0 : wr.cell? ⟨rb, 0, none⟩ = some (.iface Rt.T (.pointer (some ⟨b, 0, none⟩))) := ((hrb.out.keep (hin.chg.block rb hrb.out.lt hrF)).cell 0)
      have i1 : (0 : Int) ≤ (k : Int) := by omega
      have i2 : (k : Int) < (n : Int) := by omega
      have hbd := hrun.bounds
      have hfS : S.faults < 9223372036854775807 := by omega
      have hlS : S.last < 9223372036854775807 := by omega
      have hsz := hin.chg.size
      clear hu hcell hbd
      replace hrun := Lib.hid hrun
      replace hin := Lib.hid hin
      replace hstop := Lib.hid hstop
      by_cases hact : (Rt.act s).2 = true
      · by_cases hrd : S.ready (Rt.act s).1 = true
        · have hcan : Rt.can S s = true := by unfold Rout.can; rw [hact, hrd]; rfl
          have hN := next_go Rt hin.out.heap hin.out.rt hin.out.off hfS hact hlS hrd
          have hlk : xs.length = k := by
            rcases hstop.out with h1 | h1
            · omega
            · rw [hcan] at h1; cases h1
          replace hN := Lib.hid hN
          replace hcan := Lib.hid hcan
          clear hact hrd
          go_wp2_with fail
          refine (hN.out).mono ?_; rintro e w2 ⟨r, rfl, hw⟩
          have hrun2 := Runs.snoc Rt hrun.out hcan.out r
          obtain ⟨F2, G2, hin2⟩ := hin.out.went Rt hw
          clear hN hw
          generalize (S.act (Rt.act s).1 r).2 = S' at *
          generalize Rt.take s (S.act (Rt.act s).1 r).1 = s' at *
          generalize (S.act (Rt.act s).1 r).1 = g at *
          generalize (Rt.act s).1 = x at *
          obtain ⟨xk, xb, xc, xo, xn, xt⟩ := x
          obtain ⟨gw, gt⟩ := g
          rw [show stepV 0 ⟨xk, xb, xc, xo, xn, xt⟩ ⟨gw, gt⟩ = .agg #[.int .i64 0, .int .i64 xk, .int .u64 xb, .int .i64 xc, .int .u64 xo, .int .u64 xn, .string xt, .int .u64 gw, .string gt] from rfl]
          have hsz2 := hin2.chg.size
          replace hrun2 := Lib.hid hrun2
          replace hin2 := Lib.hid hin2
          have hrdd : Reads ((w2.alloc (.cells #[.int .i64 0, .int .i64 xk, .int .u64 xb, .int .i64 xc, .int .u64 xo, .int .u64 xn, .string xt, .int .u64 gw, .string gt] 63)).alloc (.cells #[.int .i64 0, .int .i64 xk, .int .u64 xb, .int .i64 xc, .int .u64 xo, .int .u64 xn, .string xt, .int .u64 gw, .string gt] 63)) (w2.heap.size + 2) 9 (some ⟨w2.heap.size + 1, 0, none⟩) 1 [.int .i64 0, .int .i64 xk, .int .u64 xb, .int .i64 xc, .int .u64 xo, .int .u64 xn, .string xt, .int .u64 gw, .string gt] := by
            have := reads_one (w2.alloc (.cells #[.int .i64 0, .int .i64 xk, .int .u64 xb, .int .i64 xc, .int .u64 xo, .int .u64 xn, .string xt, .int .u64 gw, .string gt] 63)) 63 #[.int .i64 0, .int .i64 xk, .int .u64 xb, .int .i64 xc, .int .u64 xo, .int .u64 xn, .string xt, .int .u64 gw, .string gt] 9 rfl
            simpa using this
          replace hrdd := Lib.hid hrdd
          go_wp2_with (at_builtin; go_loud (refine wpList_append_any _ rfl _ _ 52 rfl w.heap.size 63 i0 (stepV 0 noAct noGot) 9 88 Try.underlying52 hi.out hz0'.out hz1'.out hz2'.out rfl (by decide) _ _ _ rfl ((hin2.out.below Rt (by (repeat first | exact Below.refl _ _ | assumption | refine Below.drew ?_ | refine below_drewN ?_ _ | refine Below.more_ ?_ _ | refine Below.setCell ?_ (by first | exact Nat.le_refl _ | (simp; done) | (simp; omega)) _))).own) (w2.heap.size + 2) (some ⟨w2.heap.size + 1, 0, none⟩) 1 1 [.int .i64 0, .int .i64 xk, .int .u64 xb, .int .i64 xc, .int .u64 xo, .int .u64 xn, .string xt, .int .u64 gw, .string gt] rfl hrdd.out (by simp [Value.oneCell']) (by unfold maxLen; omega) (by omega) (by simp; omega) ?_; intro v' w6 hown6 hgrow hloc; have hin6 := RunIn.grow Rt (x := ((⟨xk, xb, xc, xo, xn, xt⟩ : PAct), (⟨gw, gt⟩ : PGot))) (hin2.out.below Rt (Below.more_ (Below.more_ (Below.refl _ _) (.cells #[.int .i64 0, .int .i64 xk, .int .u64 xb, .int .i64 xc, .int .u64 xo, .int .u64 xn, .string xt, .int .u64 gw, .string gt] 63)) (.cells #[.int .i64 0, .int .i64 xk, .int .u64 xb, .int .i64 xc, .int .u64 xo, .int .u64 xn, .string xt, .int .u64 gw, .string gt] 63))) hown6 hgrow (hloc.imp id fun h => h.trans (by simp)); clear hown6 hgrow hloc; replace hin6 := Lib.hid hin6))
          go_roundw
          case rel => exact ⟨⟨k + 1, by omega, by go_num, xs ++ [((⟨xk, xb, xc, xo, xn, xt⟩ : PAct), (⟨gw, gt⟩ : PGot))], S', s', F2, G2, hrun2.out, .inl (by simp; omega), by simp; omega, hin6.out⟩⟩
          case measure => simp [intOf]; omega
        · have hrd' : S.ready (Rt.act s).1 = false := by simpa using hrd
          have hcan : Rt.can S s = false := by unfold Rout.can; rw [hact, hrd']; rfl
          have hS0 : stepV 0 noAct noGot = .agg #[.int .i64 0, .int .i64 0, .int .u64 0, .int .i64 0, .int .u64 0, .int .u64 0, .string ⟨#[]⟩, .int .u64 0, .string ⟨#[]⟩] := rfl
          have hN0 := next_wait Rt hin.out.heap hin.out.rt hin.out.off hfS hact hrd'
          rw [hS0] at hN0
          replace hN0 := Lib.hid hN0
          clear hact hrd hrd' hS0
          go_wp2_with fail
          refine (hN0.out).mono ?_; rintro e w2 ⟨rfl, hw⟩
          obtain ⟨F2, G2, hin2⟩ := hin.out.went Rt hw
          have hin3 : RunIn Rt F G hb b w u7 xs S s F2 G2 (w2.alloc (.cells #[.int .i64 0, .int .i64 0, .int .u64 0, .int .i64 0, .int .u64 0, .int .u64 0, .string ⟨#[]⟩, .int .u64 0, .string ⟨#[]⟩] 63)) := hin2.below Rt (Below.more_ (Below.refl _ _) _)
          clear hw hin2 hN0
          replace hin3 := Lib.hid hin3
          go_wp2_with fail
          go_roundw
          case rel => exact ⟨⟨k + 1, by omega, by go_num, xs, S, s, F2, G2, hrun.out, .inr hcan, by omega, hin3.out⟩⟩
          case measure => simp [intOf]; omega
      · have hact' : (Rt.act s).2 = false := by simpa using hact
        have hcan : Rt.can S s = false := by unfold Rout.can; rw [hact']; rfl
        have hS0 : stepV 0 noAct noGot = .agg #[.int .i64 0, .int .i64 0, .int .u64 0, .int .i64 0, .int .u64 0, .int .u64 0, .string ⟨#[]⟩, .int .u64 0, .string ⟨#[]⟩] := rfl
        have hN0 := next_stop Rt hin.out.heap hin.out.rt hact'
        rw [hS0] at hN0
        replace hN0 := Lib.hid hN0
        clear hact hact' hS0
        go_wp2_with fail
        refine (hN0.out).mono ?_; rintro e w2 ⟨rfl, hw⟩
        obtain ⟨F2, G2, hin2⟩ : ∃ F2 G2, RunIn Rt F G hb b w u7 xs S s F2 G2 w2 := ⟨F', G', hin.out.below Rt hw⟩
        have hin3 : RunIn Rt F G hb b w u7 xs S s F2 G2 (w2.alloc (.cells #[.int .i64 0, .int .i64 0, .int .u64 0, .int .i64 0, .int .u64 0, .int .u64 0, .string ⟨#[]⟩, .int .u64 0, .string ⟨#[]⟩] 63)) := hin2.below Rt (Below.more_ (Below.refl _ _) _)
        clear hw hin2 hN0
        replace hin3 := Lib.hid hin3
        go_wp2_with fail
        go_roundw
        case rel => exact ⟨⟨k + 1, by omega, by go_num, xs, S, s, F2, G2, hrun.out, .inr hcan, by omega, hin3.out⟩⟩
        case measure => simp [intOf]; omega
    · have d1 : decide ((k : Int) < (n : Int)) = false := by simp; omega
      have hkn : k = n := by omega
      subst hkn
      replace hrun := Lib.hid hrun
      replace hin := Lib.hid hin
      replace hstop := Lib.hid hstop
      go_wp2_with fail
      go_ret
      exact ⟨_, rfl, xs, S, s, F', G', hrun.out, hstop.out, hlen, hin.out⟩
end
end Go.Proofs.Ytjoaifdjmdihoaa
