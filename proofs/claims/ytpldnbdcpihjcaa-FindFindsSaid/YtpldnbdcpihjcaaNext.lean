/-
  drive.Next for any routine. No condition.
-/
import Derived.Test.YtpldnbdcpihjcaaDrive
import Derived.Laws.Tables
namespace Go.Proofs.Ytpldnbdcpihjcaa
set_option linter.unusedVariables false
open Go.ChangeShapes Go.WideShapes Go.ChangeAt Go.RowKit
open Go.ChangeMaps (setBlock)

theorem below_row {B : Nat} {w0 w : World} (h : Below B w0 w) (g : Nat) (cs : Array Value) (hg : B ≤ g) : Below B w0 (w.setRow g cs) :=
  h.trans ⟨rfl, rfl, rfl, by simp, fun k hk => setRow_other w g k cs (by omega)⟩
theorem chg_row {F : Nat → Prop} {a w : World} (h : Chg F a w) (g : Nat) (cs : Array Value) (hg : F g ∨ a.heap.size ≤ g) : Chg F a (w.setRow g cs) :=
  ⟨h.os, h.tape, h.output, by simpa using h.size, fun i hi hn => (setRow_other w g i cs (by
    rintro rfl
    rcases hg with hg | hg
    · exact hn hg
    · omega)).trans (h.block i hi hn)⟩
theorem stepSize : (Try.prog.info? 87).map (·.size) = some 9 := by kernel_rfl
theorem zeroStep : stepV 0 noAct noGot = .agg #[.int .i64 0, .int .i64 0, .int .u64 0, .int .i64 0, .int .u64 0, .int .u64 0, .string ⟨#[]⟩, .int .u64 0, .string ⟨#[]⟩] := rfl
section
variable {σ : Type} (Rt : Rout σ)
theorem next_stop {w : World} {hb : Nat} {S : PHeap} {F G : Nat → Prop} {b : Nat} {s : σ} (h : HeapIn w hb S F) (hR : Rt.R w G b s) (hno : (Rt.act s).2 = false) :
    Calls Try.prog 40 #[.pointer (some ⟨hb, 0, none⟩), .iface Rt.T (.pointer (some ⟨b, 0, none⟩))] w fun e w' => e = .returned (.tuple #[stepV 0 noAct noGot, .bool false]) ∧ Below w.heap.size w w' := by
  have hz : Below w.heap.size w (w.alloc (.cells #[.int .i64 0, .int .i64 0, .int .u64 0, .int .i64 0, .int .u64 0, .int .u64 0, .string ⟨#[]⟩, .int .u64 0, .string ⟨#[]⟩] 87)) := (Below.refl _ _).alloc (Nat.le_refl _) _
  have hN := next1_any Rt (Rt.below hR hz)
  rw [hno] at hN
  rcases hx : (Rt.act s).1 with ⟨k, bb, c, o, n, t⟩
  have hv : PAct.val ⟨k, bb, c, o, n, t⟩ = .agg #[.int .i64 k, .int .u64 bb, .int .i64 c, .int .u64 o, .int .u64 n, .string t] := rfl
  rw [hx, hv] at hN
  rw [zeroStep]
  clear hv hx hno
  have B1 := Blk.new w 87 #[.int .i64 0, .int .i64 0, .int .u64 0, .int .i64 0, .int .u64 0, .int .u64 0, .string ⟨#[]⟩, .int .u64 0, .string ⟨#[]⟩]
  replace hN := Lib.hid hN
  replace hz := Lib.hid hz
  replace B1 := Lib.hid B1
  replace h := Lib.hid h
  replace hR := Lib.hid hR
  go_enter Try.func40, Try.ntmps40
  go_wp2_with fail
  refine (hN.out).mono ?_; rintro e w1 ⟨rfl, hb1⟩
  have g1 := B1.out.below hb1 (by simp)
  have hB1 := nx hz.out (Nat.le_refl _) hb1
  have hs1 : w.heap.size + 1 ≤ w1.heap.size := by have := hb1.size; simpa using this
  clear hb1
  replace g1 := Lib.hid g1
  replace hB1 := Lib.hid hB1
  have hsz := stepSize
  replace hsz := Lib.hid hsz
  go_wp2_with (refine wpList_store_row rfl 87 (.tmp 4) (.tmp 25) rfl w.heap.size #[.int .i64 0, .int .i64 0, .int .u64 0, .int .i64 0, .int .u64 0, .int .u64 0, .string ⟨#[]⟩, .int .u64 0, .string ⟨#[]⟩] rfl rfl 87 _ (g1.out.alloc _) hsz.out rfl (by kernel_rfl) ?_; refine gen_world (α := fun W' => wpList _ _ _ _ _ W') (fun W' => Blk W' w.heap.size 87 #[.int .i64 0, .int .i64 0, .int .u64 0, .int .i64 0, .int .u64 0, .int .u64 0, .string ⟨#[]⟩, .int .u64 0, .string ⟨#[]⟩] ∧ Below w.heap.size w W') ⟨setRow_heap _ _ _ _ _ _ (g1.out.alloc _), below_row (Below.more_ hB1.out _) _ _ (Nat.le_refl _)⟩ ?_; rintro W2 ⟨g2, hB2⟩; replace g2 := Lib.hid g2; replace hB2 := Lib.hid hB2)
  have c0 := g2.out.cell 0
  have c1 := g2.out.cell 1
  have c2 := g2.out.cell 2
  have c3 := g2.out.cell 3
  have c4 := g2.out.cell 4
  have c5 := g2.out.cell 5
  have c6 := g2.out.cell 6
  have c7 := g2.out.cell 7
  have c8 := g2.out.cell 8
  refine bodyPost_ret (v := .tuple #[.agg #[.int .i64 0, .int .i64 0, .int .u64 0, .int .i64 0, .int .u64 0, .int .u64 0, .string ⟨#[]⟩, .int .u64 0, .string ⟨#[]⟩], .bool false]) (by simp [results, Try.results40, go_sem, c0, c1, c2, c3, c4, c5, c6, c7, c8]) rfl ⟨rfl, hB2.out⟩
theorem next_wait {w : World} {hb : Nat} {S : PHeap} {F G : Nat → Prop} {b : Nat} {s : σ} (h : HeapIn w hb S F) (hR : Rt.R w G b s) (off : Off F G) (hf : S.faults < 9223372036854775807) (hyes : (Rt.act s).2 = true) (hr : S.ready (Rt.act s).1 = false) :
    Calls Try.prog 40 #[.pointer (some ⟨hb, 0, none⟩), .iface Rt.T (.pointer (some ⟨b, 0, none⟩))] w fun e w' => e = .returned (.tuple #[stepV 0 noAct noGot, .bool false]) ∧ Went Rt F G hb b S s w w' := by
  have hz : Below w.heap.size w (w.alloc (.cells #[.int .i64 0, .int .i64 0, .int .u64 0, .int .i64 0, .int .u64 0, .int .u64 0, .string ⟨#[]⟩, .int .u64 0, .string ⟨#[]⟩] 87)) := (Below.refl _ _).alloc (Nat.le_refl _) _
  have hN := next1_any Rt (Rt.below hR hz)
  rw [hyes] at hN
  have hok := Rt.okA hR
  have hFlt : ∀ j, F j → j < w.heap.size := h.own
  have hGlt : ∀ j, G j → j < w.heap.size := Rt.own hR
  rcases hx : (Rt.act s).1 with ⟨k, bb, c, o, n, t⟩
  rw [hx] at hok hr
  have hv : PAct.val ⟨k, bb, c, o, n, t⟩ = .agg #[.int .i64 k, .int .u64 bb, .int .i64 c, .int .u64 o, .int .u64 n, .string t] := rfl
  rw [hx, hv] at hN
  have hRd := fun (W : World) (h1 : HeapIn W hb S F) => ready_any h1 ⟨k, bb, c, o, n, t⟩ hok hf
  rw [hr, hv] at hRd
  rw [zeroStep]
  clear hx hyes hr hv hok
  have B1 := Blk.new w 87 #[.int .i64 0, .int .i64 0, .int .u64 0, .int .i64 0, .int .u64 0, .int .u64 0, .string ⟨#[]⟩, .int .u64 0, .string ⟨#[]⟩]
  have hsz := stepSize
  replace hsz := Lib.hid hsz
  replace hN := Lib.hid hN
  replace hRd := Lib.hid hRd
  replace hz := Lib.hid hz
  replace B1 := Lib.hid B1
  replace h := Lib.hid h
  replace hR := Lib.hid hR
  replace off := Lib.hid off
  replace hFlt := Lib.hid hFlt
  replace hGlt := Lib.hid hGlt
  go_enter Try.func40, Try.ntmps40
  go_wp2_with fail
  refine (hN.out).mono ?_; rintro e w1 ⟨rfl, hb1⟩
  have g1 := B1.out.below hb1 (by simp)
  have hB1 := nx hz.out (Nat.le_refl _) hb1
  have hs1 : w.heap.size + 1 ≤ w1.heap.size := by have := hb1.size; simpa using this
  clear hb1
  replace g1 := Lib.hid g1
  replace hB1 := Lib.hid hB1
  have hB1' : Below w.heap.size w (w1.alloc (.cells #[.int .i64 k, .int .u64 bb, .int .i64 c, .int .u64 o, .int .u64 n, .string t] 31)) := Below.more_ hB1.out _
  have bx := Blk.new w1 31 #[.int .i64 k, .int .u64 bb, .int .i64 c, .int .u64 o, .int .u64 n, .string t]
  have bx0 := bx.cell 0
  replace hB1' := Lib.hid hB1'
  replace bx := Lib.hid bx
  go_wp2_with fail
  refine (hRd.out _ (h.out.below hB1'.out)).mono ?_; rintro e w2 ⟨rfl, ht⟩
  have hs2 : w1.heap.size + 1 ≤ w2.heap.size := by have := ht.2.size; simpa using this
  have g2 := (g1.out.alloc (.cells #[.int .i64 k, .int .u64 bb, .int .i64 c, .int .u64 o, .int .u64 n, .string t] 31)).keep (ht.2.block w.heap.size (by simp; omega) (fun hf => by have := hFlt.out _ hf; omega))
  have bx2 := bx.out.keep (ht.2.block w1.heap.size (by simp) (fun hf => by have := hFlt.out _ hf; omega))
  have hR2 := Rt.keep (Rt.below hR.out hB1'.out) ht.2.size fun j hj => ht.2.block j (by have := hGlt.out j hj; simp; omega) (fun hf => off.out j hf hj)
  have hc2 : Chg F w w2 := (Chg.of_below hB1'.out F).trans ht.2 fun _ h => .inl h
  clear bx0
  replace ht := Lib.hid ht
  replace g2 := Lib.hid g2
  replace bx2 := Lib.hid bx2
  replace hR2 := Lib.hid hR2
  replace hc2 := Lib.hid hc2
  have hW : Went Rt F G hb b S s w (w2.setRow w.heap.size #[.int .i64 0, .int .i64 0, .int .u64 0, .int .i64 0, .int .u64 0, .int .u64 0, .string ⟨#[]⟩, .int .u64 0, .string ⟨#[]⟩]) := by
    have hne : ∀ j, (nw F (w1.alloc (.cells #[.int .i64 k, .int .u64 bb, .int .i64 c, .int .u64 o, .int .u64 n, .string t] 31)) w2 j ∨ G j) → j ≠ w.heap.size := by
      rintro j ((hj | hj) | hj) rfl
      · have := hFlt.out _ hj; omega
      · have := hj.1; simp at this; omega
      · have := hGlt.out _ hj; omega
    refine ⟨⟨_, G, ht.out.1.keep (by simp) fun j hj => setRow_other _ _ _ _ (hne j (.inl hj)), Rt.keep hR2.out (by simp) fun j hj => setRow_other _ _ _ _ (hne j (.inr hj)), ?_, ?_⟩, ?_⟩
    · rintro j (hj | hj) hg
      · exact off.out j hj hg
      · have := hGlt.out j hg; have := hj.1; simp at this; omega
    · rintro j ((hj | hj) | hj)
      · exact .inl (.inl hj)
      · have := hj.1; simp at this; exact .inr (by omega)
      · exact .inl (.inr hj)
    · exact chg_row (hc2.out.mono fun _ h => .inl h) _ _ (.inr (Nat.le_refl _))
  replace hW := Lib.hid hW
  go_wp2_with (refine wpList_store_row rfl 87 (.tmp 4) (.tmp 25) rfl w.heap.size #[.int .i64 0, .int .i64 0, .int .u64 0, .int .i64 0, .int .u64 0, .int .u64 0, .string ⟨#[]⟩, .int .u64 0, .string ⟨#[]⟩] rfl rfl 87 _ g2.out hsz.out rfl (by kernel_rfl) ?_; refine gen_world (α := fun W' => wpList _ _ _ _ _ W') (fun W' => Blk W' w.heap.size 87 #[.int .i64 0, .int .i64 0, .int .u64 0, .int .i64 0, .int .u64 0, .int .u64 0, .string ⟨#[]⟩, .int .u64 0, .string ⟨#[]⟩] ∧ Went Rt F G hb b S s w W') ⟨setRow_heap _ _ _ _ _ _ g2.out, hW.out⟩ ?_; clear g2; rintro W2 ⟨g2, hB2⟩; replace g2 := Lib.hid g2; replace hB2 := Lib.hid hB2)
  have c0 := g2.out.cell 0
  have c1 := g2.out.cell 1
  have c2 := g2.out.cell 2
  have c3 := g2.out.cell 3
  have c4 := g2.out.cell 4
  have c5 := g2.out.cell 5
  have c6 := g2.out.cell 6
  have c7 := g2.out.cell 7
  have c8 := g2.out.cell 8
  refine bodyPost_ret (v := .tuple #[.agg #[.int .i64 0, .int .i64 0, .int .u64 0, .int .i64 0, .int .u64 0, .int .u64 0, .string ⟨#[]⟩, .int .u64 0, .string ⟨#[]⟩], .bool false]) (by simp [results, Try.results40, go_sem, c0, c1, c2, c3, c4, c5, c6, c7, c8]) rfl ⟨rfl, hB2.out⟩
def GoPost (F G : Nat → Prop) (hb b : Nat) (S : PHeap) (s : σ) (w : World) (e : Ending) (w' : World) : Prop :=
  ∃ r, e = .returned (.tuple #[stepV 0 (Rt.act s).1 (S.act (Rt.act s).1 r).1, .bool true]) ∧ Went Rt F G hb b (S.act (Rt.act s).1 r).2 (Rt.take s (S.act (Rt.act s).1 r).1) w w'
theorem next_go {w : World} {hb : Nat} {S : PHeap} {F G : Nat → Prop} {b : Nat} {s : σ} (h : HeapIn w hb S F) (hR : Rt.R w G b s) (off : Off F G) (hf : S.faults < 9223372036854775807) (hyes : (Rt.act s).2 = true) (hla : S.last < 9223372036854775807) (hr : S.ready (Rt.act s).1 = true) :
    Calls Try.prog 40 #[.pointer (some ⟨hb, 0, none⟩), .iface Rt.T (.pointer (some ⟨b, 0, none⟩))] w (GoPost Rt F G hb b S s w) := by
  have hz : Below w.heap.size w (w.alloc (.cells #[.int .i64 0, .int .i64 0, .int .u64 0, .int .i64 0, .int .u64 0, .int .u64 0, .string ⟨#[]⟩, .int .u64 0, .string ⟨#[]⟩] 87)) := (Below.refl _ _).alloc (Nat.le_refl _) _
  have hN := next1_any Rt (Rt.below hR hz)
  rw [hyes] at hN
  have hok := Rt.okA hR
  have hFlt : ∀ j, F j → j < w.heap.size := h.own
  have hGlt : ∀ j, G j → j < w.heap.size := Rt.own hR
  rcases hx : (Rt.act s).1 with ⟨k, bb, c, o, n, t⟩
  rw [hx] at hok hr
  have hv : PAct.val ⟨k, bb, c, o, n, t⟩ = .agg #[.int .i64 k, .int .u64 bb, .int .i64 c, .int .u64 o, .int .u64 n, .string t] := rfl
  rw [hx, hv] at hN
  have hRd := fun (W : World) (h1 : HeapIn W hb S F) => ready_any h1 ⟨k, bb, c, o, n, t⟩ hok hf
  rw [hr, hv] at hRd
  have hDo := fun (W : World) (G : Nat → Prop) (h1 : HeapIn W hb S G) => do_any h1 ⟨k, bb, c, o, n, t⟩ hok hf hla
  rw [hv] at hDo
  have hpost : ∀ (r : Nat) (e : Ending) (w' : World), e = .returned (.tuple #[stepV 0 ⟨k, bb, c, o, n, t⟩ (S.act ⟨k, bb, c, o, n, t⟩ r).1, .bool true]) → Went Rt F G hb b (S.act ⟨k, bb, c, o, n, t⟩ r).2 (Rt.take s (S.act ⟨k, bb, c, o, n, t⟩ r).1) w w' → GoPost Rt F G hb b S s w e w' := by
    intro r e w' he hw
    refine ⟨r, ?_, ?_⟩
    · rw [hx]; exact he
    · rw [hx]; exact hw
  have hgok := fun (W : World) (G : Nat → Prop) (h1 : HeapIn W hb S G) (r : Nat) => act_ok h1 hla ⟨k, bb, c, o, n, t⟩ r
  have mT := Rt.mTake
  have nT := Rt.nTake
  have eT := Rt.eTake
  clear hx hyes hr hv hok
  replace hDo := Lib.hid hDo
  replace hpost := Lib.hid hpost
  replace hgok := Lib.hid hgok
  have B1 := Blk.new w 87 #[.int .i64 0, .int .i64 0, .int .u64 0, .int .i64 0, .int .u64 0, .int .u64 0, .string ⟨#[]⟩, .int .u64 0, .string ⟨#[]⟩]
  have hsz := stepSize
  replace hsz := Lib.hid hsz
  replace hN := Lib.hid hN
  replace hRd := Lib.hid hRd
  replace hz := Lib.hid hz
  replace B1 := Lib.hid B1
  replace h := Lib.hid h
  replace hR := Lib.hid hR
  replace off := Lib.hid off
  replace hFlt := Lib.hid hFlt
  replace hGlt := Lib.hid hGlt
  go_enter Try.func40, Try.ntmps40
  go_wp2_with fail
  refine (hN.out).mono ?_; rintro e w1 ⟨rfl, hb1⟩
  have g1 := B1.out.below hb1 (by simp)
  have hB1 := nx hz.out (Nat.le_refl _) hb1
  have hs1 : w.heap.size + 1 ≤ w1.heap.size := by have := hb1.size; simpa using this
  clear hb1
  replace g1 := Lib.hid g1
  replace hB1 := Lib.hid hB1
  have hB1' : Below w.heap.size w (w1.alloc (.cells #[.int .i64 k, .int .u64 bb, .int .i64 c, .int .u64 o, .int .u64 n, .string t] 31)) := Below.more_ hB1.out _
  have bx := Blk.new w1 31 #[.int .i64 k, .int .u64 bb, .int .i64 c, .int .u64 o, .int .u64 n, .string t]
  have bx0 := bx.cell 0
  replace hB1' := Lib.hid hB1'
  replace bx := Lib.hid bx
  go_wp2_with fail
  refine (hRd.out _ (h.out.below hB1'.out)).mono ?_; rintro e w2 ⟨rfl, ht⟩
  have hs2 : w1.heap.size + 1 ≤ w2.heap.size := by have := ht.2.size; simpa using this
  have g2 := (g1.out.alloc (.cells #[.int .i64 k, .int .u64 bb, .int .i64 c, .int .u64 o, .int .u64 n, .string t] 31)).keep (ht.2.block w.heap.size (by simp; omega) (fun hf => by have := hFlt.out _ hf; omega))
  have bx2 := bx.out.keep (ht.2.block w1.heap.size (by simp) (fun hf => by have := hFlt.out _ hf; omega))
  have hR2 := Rt.keep (Rt.below hR.out hB1'.out) ht.2.size fun j hj => ht.2.block j (by have := hGlt.out j hj; simp; omega) (fun hf => off.out j hf hj)
  have hc2 : Chg F w w2 := (Chg.of_below hB1'.out F).trans ht.2 fun _ h => .inl h
  clear bx0
  replace ht := Lib.hid ht
  replace g2 := Lib.hid g2
  replace bx2 := Lib.hid bx2
  replace hR2 := Lib.hid hR2
  replace hc2 := Lib.hid hc2
  have bx20 := bx2.out.cell 0
  have bx21 := bx2.out.cell 1
  have bx22 := bx2.out.cell 2
  have bx23 := bx2.out.cell 3
  have bx24 := bx2.out.cell 4
  have bx25 := bx2.out.cell 5
  go_wp2_with fail
  refine (hDo.out _ _ ht.out.1).mono ?_; rintro e w3 ⟨r, rfl, hd⟩
  have hgo := hgok.out _ _ ht.out.1 r
  have hpo := hpost.out r
  clear hpost hgok hDo bx20 bx21 bx22 bx23 bx24 bx25
  generalize (S.act ⟨k, bb, c, o, n, t⟩ r).2 = S' at *
  rcases hgx : (S.act ⟨k, bb, c, o, n, t⟩ r).1 with ⟨gw, gt⟩
  rw [hgx] at hgo hpo
  have hgv : PGot.val ⟨gw, gt⟩ = .agg #[.int .u64 gw, .string gt] := rfl
  rw [hgv]
  clear hgx
  replace hpo := Lib.hid hpo
  have hs3 : w2.heap.size ≤ w3.heap.size := hd.2.size
  have hnF : ∀ j, w.heap.size ≤ j → j < w1.heap.size + 1 → ¬ nw F (w1.alloc (.cells #[.int .i64 k, .int .u64 bb, .int .i64 c, .int .u64 o, .int .u64 n, .string t] 31)) w2 j := by
    rintro j h1 h2 (hj | hj)
    · have := hFlt.out _ hj; omega
    · have := hj.1; simp at this; omega
  have hnG : ∀ j, G j → ¬ nw F (w1.alloc (.cells #[.int .i64 k, .int .u64 bb, .int .i64 c, .int .u64 o, .int .u64 n, .string t] 31)) w2 j := by
    rintro j hg (hj | hj)
    · exact off.out j hj hg
    · have := hGlt.out j hg; have := hj.1; simp at this; omega
  have g3 := (g2.out.keep (hd.2.block w.heap.size (by omega) (hnF _ (Nat.le_refl _) (by omega)))).alloc (.cells #[.int .u64 gw, .string gt] 45)
  have bx3 := (bx2.out.keep (hd.2.block w1.heap.size (by omega) (hnF _ (by omega) (by omega)))).alloc (.cells #[.int .u64 gw, .string gt] 45)
  have bg3 := Blk.new w3 45 #[.int .u64 gw, .string gt]
  have hR3 := Rt.keep hR2.out (w' := w3.alloc (.cells #[.int .u64 gw, .string gt] 45)) (by simp; omega) fun j hj => (Below.heap_alloc w3 _ j (by have := hGlt.out j hj; omega)).trans (hd.2.block j (by have := hGlt.out j hj; omega) (hnG j hj))
  have hT := Rt.cTake ⟨gw, gt⟩ hR3 hgo
  rw [hgv] at hT
  have c30 := bg3.cell 0
  have c31 := bg3.cell 1
  have x30 := bx3.cell 0
  have x31 := bx3.cell 1
  have x32 := bx3.cell 2
  have x33 := bx3.cell 3
  have x34 := bx3.cell 4
  have x35 := bx3.cell 5
  clear hgo hgv
  replace hd := Lib.hid hd
  replace hT := Lib.hid hT
  replace g3 := Lib.hid g3
  replace bx3 := Lib.hid bx3
  replace bg3 := Lib.hid bg3
  replace hnF := Lib.hid hnF
  replace hnG := Lib.hid hnG
  go_wp2_with fail
  refine (hT.out).mono ?_; rintro e w4 ⟨rfl, hR4, hc4⟩
  have hs4 : w3.heap.size + 1 ≤ w4.heap.size := by have := hc4.size; simpa using this
  have hGn : ∀ j, w.heap.size ≤ j → ¬ G j := fun j hj hg => by have := hGlt.out j hg; omega
  have g4 := g3.out.keep (hc4.block w.heap.size (by simp; omega) (hGn _ (by omega)))
  have bx4 := bx3.out.keep (hc4.block w1.heap.size (by simp; omega) (hGn _ (by omega)))
  have bg4 := bg3.out.keep (hc4.block w3.heap.size (by simp) (hGn _ (by omega)))
  clear c30 c31 x30 x31 x32 x33 x34 x35
  have hFs : ∀ j, nw (nw F (w1.alloc (.cells #[.int .i64 k, .int .u64 bb, .int .i64 c, .int .u64 o, .int .u64 n, .string t] 31)) w2) w2 w3 j → j < w3.heap.size ∧ j ≠ w.heap.size ∧ ¬ G j ∧ (F j ∨ w.heap.size ≤ j) := by
    rintro j ((hj | hj) | hj)
    · have := hFlt.out j hj
      exact ⟨by omega, by omega, fun hg => off.out j hj hg, .inl hj⟩
    · have h1 := hj.1
      simp at h1
      exact ⟨by omega, by omega, hGn j (by omega), .inr (by omega)⟩
    · exact ⟨hj.2, by omega, hGn j (by omega), .inr (by omega)⟩
  have hGs : ∀ j, nw G (w3.alloc (.cells #[.int .u64 gw, .string gt] 45)) w4 j → j ≠ w.heap.size ∧ (G j ∨ w3.heap.size < j) := by
    rintro j (hj | hj)
    · have := hGlt.out j hj
      exact ⟨by omega, .inl hj⟩
    · have h1 := hj.1
      simp at h1
      exact ⟨by omega, .inr (by omega)⟩
  have hW : Went Rt F G hb b S' (Rt.take s ⟨gw, gt⟩) w (w4.setRow w.heap.size #[.int .i64 0, .int .i64 k, .int .u64 bb, .int .i64 c, .int .u64 o, .int .u64 n, .string t, .int .u64 gw, .string gt]) := by
    refine ⟨⟨_, _, hd.out.1.keep (w' := w4.setRow w.heap.size #[.int .i64 0, .int .i64 k, .int .u64 bb, .int .i64 c, .int .u64 o, .int .u64 n, .string t, .int .u64 gw, .string gt]) (by simp; omega) fun j hj => ?_, Rt.keep hR4 (w' := w4.setRow w.heap.size #[.int .i64 0, .int .i64 k, .int .u64 bb, .int .i64 c, .int .u64 o, .int .u64 n, .string t, .int .u64 gw, .string gt]) (by simp) fun j hj => setRow_other _ _ _ _ (hGs j hj).1, ?_, fun j hj => ?_⟩, ?_⟩
    · obtain ⟨h1, h2, h3, _⟩ := hFs j hj
      rw [setRow_other _ _ _ _ h2, hc4.block j (by simp; omega) h3]
      exact Below.heap_alloc w3 _ j h1
    · intro j hj hg
      obtain ⟨h1, h2, h3, _⟩ := hFs j hj
      rcases (hGs j hg).2 with hg | hg
      · exact h3 hg
      · omega
    · rcases hj with hj | hj
      · exact (hFs j hj).2.2.2.imp .inl id
      · rcases (hGs j hj).2 with hg | hg
        · exact .inl (.inr hg)
        · exact .inr (by omega)
    · refine chg_row ?_ _ _ (.inr (Nat.le_refl _))
      have k1 : Chg (fun k => F k ∨ G k) w w3 := (hc2.out.mono (G := fun k => F k ∨ G k) fun _ h => .inl h).trans hd.out.2 fun j hj => by
        rcases hj with hj | hj
        · exact .inl (.inl hj)
        · have := hj.1; simp at this; exact .inr (by omega)
      exact (k1.alloc _).trans hc4 fun j hj => .inl (.inr hj)
  replace hW := Lib.hid hW
  have x40 := bx4.cell 0
  have x41 := bx4.cell 1
  have x42 := bx4.cell 2
  have x43 := bx4.cell 3
  have x44 := bx4.cell 4
  have x45 := bx4.cell 5
  have g40 := bg4.cell 0
  have g41 := bg4.cell 1
  replace bx4 := Lib.hid bx4
  replace bg4 := Lib.hid bg4
  replace g4 := Lib.hid g4
  replace hc4 := Lib.hid hc4
  replace hR4 := Lib.hid hR4
  replace hFs := Lib.hid hFs
  replace hGs := Lib.hid hGs
  replace hGn := Lib.hid hGn
  go_wp2_with (refine wpList_store_row rfl 87 (.tmp 4) (.tmp 34) rfl w.heap.size #[.int .i64 0, .int .i64 k, .int .u64 bb, .int .i64 c, .int .u64 o, .int .u64 n, .string t, .int .u64 gw, .string gt] rfl rfl 87 _ g4.out hsz.out rfl (by kernel_rfl) ?_; refine gen_world (α := fun W' => wpList _ _ _ _ _ W') (fun W' => Blk W' w.heap.size 87 #[.int .i64 0, .int .i64 k, .int .u64 bb, .int .i64 c, .int .u64 o, .int .u64 n, .string t, .int .u64 gw, .string gt] ∧ Went Rt F G hb b S' (Rt.take s ⟨gw, gt⟩) w W') ⟨setRow_heap _ _ _ _ _ _ g4.out, hW.out⟩ ?_; rintro W2 ⟨g5, hB2⟩; replace g5 := Lib.hid g5; replace hB2 := Lib.hid hB2)
  have c0 := g5.out.cell 0
  have c1 := g5.out.cell 1
  have c2 := g5.out.cell 2
  have c3 := g5.out.cell 3
  have c4 := g5.out.cell 4
  have c5 := g5.out.cell 5
  have c6 := g5.out.cell 6
  have c7 := g5.out.cell 7
  have c8 := g5.out.cell 8
  refine bodyPost_ret (v := .tuple #[.agg #[.int .i64 0, .int .i64 k, .int .u64 bb, .int .i64 c, .int .u64 o, .int .u64 n, .string t, .int .u64 gw, .string gt], .bool true]) (by simp [results, Try.results40, go_sem, c0, c1, c2, c3, c4, c5, c6, c7, c8]) rfl (hpo.out _ _ rfl hB2.out)
end
end Go.Proofs.Ytpldnbdcpihjcaa
