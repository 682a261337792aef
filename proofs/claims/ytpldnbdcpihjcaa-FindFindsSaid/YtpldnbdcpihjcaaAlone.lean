/-
  drive.Alone for any routine. No condition.
-/
import Derived.Test.YtpldnbdcpihjcaaSteps
namespace Go.Proofs.Ytpldnbdcpihjcaa
set_option linter.unusedVariables false
open Go.ChangeShapes Go.WideShapes Go.ChangeAt Go.RowKit Go.Shelf
open Go.ChangeMaps (setBlock)
attribute [local go_sem] Oper.semAt_some
theorem steps_mk (h r : Value) (m : Int) (w : World) (h1 : ∃ p, h = .pointer p) (h2 : ∃ t u, r = .iface t u) :
    Calls Try.prog 66 #[h, r, .int .i64 m] w fun e w' => e = .returned (.func (.func 98) #[] #[.pointer (some ⟨w.heap.size + 2, 0, none⟩), .pointer (some ⟨w.heap.size, 0, none⟩), .pointer (some ⟨w.heap.size + 1, 0, none⟩)]) ∧ ((w.alloc (.cells #[h] 48)).alloc (.cells #[r] 121)).alloc (.cells #[.int .i64 m] 3) = w' := by
  obtain ⟨p, rfl⟩ := h1
  obtain ⟨t, u, rfl⟩ := h2
  go_enter Try.func66, Try.ntmps66
  go_wp2
  go_ret
  exact ⟨rfl, rfl⟩
section
variable {σ : Type} (Rt : Rout σ)
theorem Mid.off {Z : Nat → Prop} {hb b bm bh br : Nat} {most : Int} {S0 : PHeap} {s0 : σ} {xs : List (PAct × PGot)} {W W' : World} {l : Nat} (h : Mid Rt Z hb b bm bh br most S0 s0 xs W) (hs : W.heap.size ≤ W'.heap.size) (hk : ∀ k, k ≠ l → k < W.heap.size → W'.heap[k]? = W.heap[k]?) (hl : ¬ Z l) (h1 : bm ≠ l) (h2 : bh ≠ l) (h3 : br ≠ l) : Mid Rt Z hb b bm bh br most S0 s0 xs W' := by
  obtain ⟨⟨S, s, F, G, k1, k2, k3, k4, k5⟩, k6, k7, k8, k9⟩ := h
  exact ⟨⟨S, s, F, G, k1, k2.keep hs fun j hj => hk j (fun e => hl (e ▸ k5 j (.inl hj))) (k2.own j hj), Rt.keep k3 hs fun j hj => hk j (fun e => hl (e ▸ k5 j (.inr hj))) (Rt.own k3 j hj), k4, k5⟩, k6.keep (hk _ h1 k6.lt), k7.keep (hk _ h2 k7.lt), k8.keep (hk _ h3 k8.lt), k9⟩
theorem Fin.off {Z : Nat → Prop} {hb b : Nat} {most : Int} {S0 : PHeap} {s0 : σ} {xs : List (PAct × PGot)} {W W' : World} {l : Nat} (h : Fin Rt Z hb b most S0 s0 xs W) (hs : W.heap.size ≤ W'.heap.size) (hk : ∀ k, k ≠ l → k < W.heap.size → W'.heap[k]? = W.heap[k]?) (hl : ¬ Z l) : Fin Rt Z hb b most S0 s0 xs W' := by
  obtain ⟨⟨S, s, F, G, k1, k2, k3, k4, k5, k6⟩⟩ := h
  exact ⟨⟨S, s, F, G, k1, k2.keep hs fun j hj => hk j (fun e => hl (e ▸ k5 j (.inl hj))) (k2.own j hj), Rt.keep k3 hs fun j hj => hk j (fun e => hl (e ▸ k5 j (.inr hj))) (Rt.own k3 j hj), k4, k5, k6⟩⟩
theorem put_same (W : World) (l : Nat) (o : Obj) : ∀ k, k ≠ l → k < W.heap.size → (W.putObj l o).heap[k]? = W.heap[k]? := fun k hk _ => World.putObj_heap_other (by omega)
/-- What Alone keeps of its own: how many steps were done; and what has turned so far. -/
structure Cnt (F G : Nat → Prop) (w : World) (nb : Nat) (pre : List (PAct × PGot)) (W : World) : Prop where
  n : Blk W nb 3 #[.int .i64 (pre.length : Nat)]
  chg : Chg (fun k => F k ∨ G k) w W
theorem Cnt.put {F G : Nat → Prop} {w W : World} {nb l : Nat} {pre : List (PAct × PGot)} (h : Cnt F G w nb pre W) (o : Obj) (h1 : nb ≠ l) (h2 : w.heap.size ≤ l) : Cnt F G w nb pre (W.putObj l o) :=
  ⟨h.n.keep (put_same W l o nb h1 h.n.lt), h.chg.os, h.chg.tape, h.chg.output, by simpa [World.putObj] using h.chg.size, fun k hk hn => (put_same W l o k (by omega) (Nat.lt_of_lt_of_le hk h.chg.size)).trans (h.chg.block k hk hn)⟩
/-- What going alone leaves. -/
def AlonePost (F G : Nat → Prop) (hb b : Nat) (most : Int) (S : PHeap) (s : σ) (w : World) (e : Ending) (w' : World) : Prop :=
  ∃ xs S' s', Runs Rt S s xs S' s' ∧ (most ≤ (xs.length : Nat) ∨ Rt.can S' s' = false) ∧ (((xs.length : Nat) : Int) ≤ most ∨ xs = []) ∧
    e = .returned (.tuple #[.int .i64 (xs.length : Nat), .bool (!(Rt.act s').2)]) ∧ Went Rt F G hb b S' s' w w'
set_option maxHeartbeats 1000000 in
theorem alone_any {w : World} {hb : Nat} {S : PHeap} {F G : Nat → Prop} {b : Nat} {s : σ} (h : HeapIn w hb S F) (hR : Rt.R w G b s) (off : Off F G) (hf : S.faults ≤ 1000000000) (hla : S.last ≤ 1000000000) (most : Int) (hm : most ≤ 1000000) :
    Calls Try.prog 22 #[.pointer (some ⟨hb, 0, none⟩), .iface Rt.T (.pointer (some ⟨b, 0, none⟩)), .int .i64 most] w (AlonePost Rt F G hb b most S s w) := by
  replace h := Lib.hid h
  replace hR := Lib.hid hR
  replace off := Lib.hid off
  refine (callsIn_wide (n := 0)).1 ?_
  refine callsIn_of_wp_marks Try.func22 rfl trivial ?_ rfl
  simp only [Try.ntmps22, List.size_toArray, List.length_cons, List.length_nil, Nat.reduceAdd, Nat.reduceSub, Array.replicate_succ, Array.replicate_zero, List.push_toArray, List.append_toArray, List.nil_append, List.cons_append]
  gi_wp2
  refine ⟨trivial, rfl, (callsIn_wide.2 (steps_mk _ _ most _ ⟨_, rfl⟩ ⟨_, _, rfl⟩)).mono ?_⟩
  rintro e w' ⟨rfl, rfl⟩
  gi_wp2
  have hB0 : Below w.heap.size w ((((w.alloc (.cells #[.int .i64 0] 3)).alloc (.cells #[.pointer (some ⟨hb, 0, none⟩)] 48)).alloc (.cells #[.iface Rt.T (.pointer (some ⟨b, 0, none⟩))] 121)).alloc (.cells #[.int .i64 most] 3)) := ((((Below.refl _ _).alloc (Nat.le_refl _) _).alloc (by simp) _).alloc (by simp; omega) _).alloc (by simp; omega) _
  have bn := (((Blk.new w 3 #[.int .i64 0]).alloc (.cells #[.pointer (some ⟨hb, 0, none⟩)] 48)).alloc (.cells #[.iface Rt.T (.pointer (some ⟨b, 0, none⟩))] 121)).alloc (.cells #[.int .i64 most] 3)
  have bh := ((Blk.new (w.alloc (.cells #[.int .i64 0] 3)) 48 #[.pointer (some ⟨hb, 0, none⟩)]).alloc (.cells #[.iface Rt.T (.pointer (some ⟨b, 0, none⟩))] 121)).alloc (.cells #[.int .i64 most] 3)
  have br := (Blk.new ((w.alloc (.cells #[.int .i64 0] 3)).alloc (.cells #[.pointer (some ⟨hb, 0, none⟩)] 48)) 121 #[.iface Rt.T (.pointer (some ⟨b, 0, none⟩))]).alloc (.cells #[.int .i64 most] 3)
  have bm := Blk.new (((w.alloc (.cells #[.int .i64 0] 3)).alloc (.cells #[.pointer (some ⟨hb, 0, none⟩)] 48)).alloc (.cells #[.iface Rt.T (.pointer (some ⟨b, 0, none⟩))] 121)) 3 #[.int .i64 most]
  simp only [World.size_alloc, Nat.add_assoc, Nat.reduceAdd] at bh br bm
  have hsz : ((((w.alloc (.cells #[.int .i64 0] 3)).alloc (.cells #[.pointer (some ⟨hb, 0, none⟩)] 48)).alloc (.cells #[.iface Rt.T (.pointer (some ⟨b, 0, none⟩))] 121)).alloc (.cells #[.int .i64 most] 3)).heap.size = w.heap.size + 4 := by simp
  generalize ((((w.alloc (.cells #[.int .i64 0] 3)).alloc (.cells #[.pointer (some ⟨hb, 0, none⟩)] 48)).alloc (.cells #[.iface Rt.T (.pointer (some ⟨b, 0, none⟩))] 121)).alloc (.cells #[.int .i64 most] 3)) = W0 at *
  have hFlt : ∀ j, F j → j < w.heap.size := h.out.own
  have hGlt : ∀ j, G j → j < w.heap.size := Rt.own hR.out
  have hZn : ∀ j, w.heap.size ≤ j → j < w.heap.size + 6 → ¬ (F j ∨ G j ∨ W0.heap.size + 2 ≤ j) := by
    rintro j h1 h2 (hj | hj | hj)
    · have := hFlt j hj; omega
    · have := hGlt j hj; omega
    · omega
  have hCl : ∀ (pre : List (PAct × PGot)) (W W' : World), Cnt F G w w.heap.size pre W → Chg (fun k => F k ∨ G k ∨ W0.heap.size + 2 ≤ k) W W' → Cnt F G w w.heap.size pre W' := by
    intro pre W W' hc hg
    refine ⟨hc.n.keep (hg.block _ hc.n.lt (hZn _ (Nat.le_refl _) (by omega))), hc.chg.trans hg ?_⟩
    rintro k (hk | hk | hk)
    · exact .inl (.inl hk)
    · exact .inl (.inr hk)
    · exact .inr (by omega)
  have start : ∀ o, Mid Rt (fun k => F k ∨ G k ∨ W0.heap.size + 2 ≤ k) hb b (w.heap.size + 3) (w.heap.size + 1) (w.heap.size + 2) most S s [] ((W0.alloc (.deferred (some []))).alloc o) ∧ Cnt F G w w.heap.size [] ((W0.alloc (.deferred (some []))).alloc o) := by
    intro o
    have hb2 : Below W0.heap.size W0 ((W0.alloc (.deferred (some []))).alloc o) := ((Below.refl _ _).alloc (Nat.le_refl _) _).alloc (by simp) _
    have hb3 : Below w.heap.size w ((W0.alloc (.deferred (some []))).alloc o) := nx hB0 (Nat.le_refl _) hb2
    exact ⟨⟨⟨S, s, F, G, ⟨rfl, rfl⟩, h.out.below hb3, Rt.below hR.out hb3, off.out, fun k hk => hk.elim .inl (fun h => .inr (.inl h))⟩, bm.below hb2 bm.lt, bh.below hb2 bh.lt, br.below hb2 br.lt, .inr rfl⟩, bn.below hb2 bn.lt, Chg.of_below hb3 _⟩
  have hns : Blk W0 w.heap.size 3 #[.int .i64 0] := bn
  refine rangeFunc_eff (gf := 98) (lb := #[.pointer (some ⟨w.heap.size + 1 + 2, 0, none⟩), .pointer (some ⟨w.heap.size + 1, 0, none⟩), .pointer (some ⟨w.heap.size + 1 + 1, 0, none⟩)]) rfl (enters_of Try.func98 (by kernel_rfl) rfl) (encs := encS) (fun _ => rfl)
    (fun pre W => Mid Rt (fun k => F k ∨ G k ∨ W0.heap.size + 2 ≤ k) hb b (w.heap.size + 3) (w.heap.size + 1) (w.heap.size + 2) most S s pre W ∧ Cnt F G w w.heap.size pre W)
    (fun pre x W => Mid Rt (fun k => F k ∨ G k ∨ W0.heap.size + 2 ≤ k) hb b (w.heap.size + 3) (w.heap.size + 1) (w.heap.size + 2) most S s (pre ++ [x]) W ∧ Cnt F G w w.heap.size pre W)
    (fun xs W => Fin Rt (fun k => F k ∨ G k ∨ W0.heap.size + 2 ≤ k) hb b most S s xs W ∧ Cnt F G w w.heap.size xs W)
    (start _) (fun _ o' _ => start o') ?hM ?hI ?hE ?hiter
    (fun x => { tmps := #[.pointer (some ⟨hb, 0, none⟩), .iface Rt.T (.pointer (some ⟨b, 0, none⟩)), .int .i64 most, undef, undef, undef, .int .i64 0, .bool false, .pointer (some ⟨w.heap.size, 0, none⟩), undef, undef, .iface Rt.T (.pointer (some ⟨b, 0, none⟩)), .bool false, .pointer (some ⟨hb, 0, none⟩), .iface Rt.T (.pointer (some ⟨b, 0, none⟩)), .int .i64 most, .func (.func 98) #[] #[.pointer (some ⟨w.heap.size + 1 + 2, 0, none⟩), .pointer (some ⟨w.heap.size + 1, 0, none⟩), .pointer (some ⟨w.heap.size + 1 + 1, 0, none⟩)], stepV 0 x.1 x.2, undef, undef, undef, undef, undef, undef, undef, undef, undef, undef], defers := [] })
    ?hassign ?hbody ?hdone
  case hM =>
    rintro pre x W o ⟨h1, h2⟩
    exact ⟨Mid.off Rt h1 (by simp [World.putObj]) (put_same W _ o) (hZn _ (by omega) (by omega)) (by omega) (by omega) (by omega), h2.put o (by omega) (by omega)⟩
  case hI =>
    rintro pre W o ⟨h1, h2⟩
    exact ⟨Mid.off Rt h1 (by simp [World.putObj]) (put_same W _ o) (hZn _ (by omega) (by omega)) (by omega) (by omega) (by omega), h2.put o (by omega) (by omega)⟩
  case hE =>
    rintro pre W o ⟨h1, h2⟩
    exact ⟨Fin.off Rt h1 (by simp [World.putObj]) (put_same W _ o) (hZn _ (by omega) (by omega)), h2.put o (by omega) (by omega)⟩
  case hiter =>
    intro rec W hI hB hY
    exact steps_iter Rt (fun k => F k ∨ G k ∨ W0.heap.size + 2 ≤ k) (W0.heap.size + 2) (fun k hk => .inr (.inr hk)) hb b (w.heap.size + 3) (w.heap.size + 1) (w.heap.size + 2) most hm S hf hla s (Cnt F G w w.heap.size) hCl _ _ (hZn _ (by omega) (by omega)) (hZn _ (by omega) (by omega)) (hZn _ (by omega) (by omega)) (hZn _ (by omega) (by omega)) (hZn _ (by omega) (by omega)) rec (fun pre x W1 h1 h2 h3 => hY pre x W1 ⟨h1, h2⟩ h3) W hI.1 hI.2 hB (by omega)
  case hassign =>
    intro l x W K hK
    rw [show (#[17] : Array Tmp).zip (encS x) = #[(17, stepV 0 x.1 x.2)] from by apply Array.ext'; simp [encS]]
    gi_wp2
    exact hK
  case hbody =>
    rintro pre x W rec ⟨h1, h2⟩ hB
    have c0 := h2.n.cell 0
    have f0 := h2.n.frozen 0
    have hlen : (pre.length : Int) + 1 ≤ 1000000 := by
      rcases h1.len with h | h
      · simp at h; omega
      · simp at h
    have hpost : ∀ W', W.setCell ⟨w.heap.size, 0, none⟩ (.int .i64 ((pre.length : Int) + 1)) = W' → (Mid Rt (fun k => F k ∨ G k ∨ W0.heap.size + 2 ≤ k) hb b (w.heap.size + 3) (w.heap.size + 1) (w.heap.size + 2) most S s (pre ++ [x]) W' ∧ Cnt F G w w.heap.size (pre ++ [x]) W') ∧ Book (W0.heap.size + 1) W0.heap.size rec W' := by
      rintro W' rfl
      have hk : ∀ k, k ≠ w.heap.size → k < W.heap.size → (W.setCell ⟨w.heap.size, 0, none⟩ (.int .i64 ((pre.length : Int) + 1))).heap[k]? = W.heap[k]? := fun k hk _ => Below.heap_setCell _ _ _ _ (fun e => hk e)
      refine ⟨⟨Mid.off Rt h1 (by simp [World.setCell]) hk (hZn _ (Nat.le_refl _) (by omega)) (by omega) (by omega) (by omega), Blk.eq_cs (h2.n.set_ 0 _) (by simp), h2.chg.setCell (.inr (Nat.le_refl _)) _⟩, (hk _ (by omega) (Array.getElem?_eq_some_iff.1 hB.1).1).trans hB.1, (hk _ (by omega) (Array.getElem?_eq_some_iff.1 hB.2).1).trans hB.2⟩
    replace hpost := Lib.hid hpost
    replace h1 := Lib.hid h1
    replace h2 := Lib.hid h2
    replace hB := Lib.hid hB
    replace hsz := Lib.hid hsz
    clear hCl start hZn
    gi_wp2
    exact hpost.out _ rfl
  case hdone =>
    rintro xs W ⟨h1, h2⟩ hD
    have hZD := hZn W0.heap.size (by omega) (by omega)
    have hZD := Lib.hid hZD
    obtain ⟨⟨S', s', F', G', k1, k2, k3, k4, k5, k6, k7⟩⟩ := h1
    have c0 := h2.n.cell 0
    have hA := Rt.cAct k3
    have mA := Rt.mAct
    have nA := Rt.nAct
    have eA := Rt.eAct
    rcases hx : (Rt.act s').1 with ⟨k, bb, c, o, n, t⟩
    rw [hx, show PAct.val ⟨k, bb, c, o, n, t⟩ = .agg #[.int .i64 k, .int .u64 bb, .int .i64 c, .int .u64 o, .int .u64 n, .string t] from rfl] at hA
    clear hx
    replace hA := Lib.hid hA
    replace h2 := Lib.hid h2
    replace k1 := Lib.hid k1
    replace k2 := Lib.hid k2
    replace k3 := Lib.hid k3
    replace k4 := Lib.hid k4
    replace k5 := Lib.hid k5
    replace k6 := Lib.hid k6
    replace k7 := Lib.hid k7
    replace hD := Lib.hid hD
    replace hFlt := Lib.hid hFlt
    replace hGlt := Lib.hid hGlt
    replace hsz := Lib.hid hsz
    clear hCl start hZn
    gi_wp2
    refine ⟨trivial, rfl, (callsIn_wide.2 hA.out).mono ?_⟩
    rintro e w2 ⟨rfl, hb2⟩
    have c2 := fun o => ((h2.out.n.below hb2 h2.out.n.lt).alloc o).cell 0
    have hs2 := hb2.size
    have hnl := h2.out.n.lt
    clear c0
    replace hb2 := Lib.hid hb2
    gi_wp2
    have hDlt : W0.heap.size < W.heap.size := (Array.getElem?_eq_some_iff.1 hD.out).1
    have hb3 : Below W.heap.size W (w2.alloc (.cells #[.int .i64 k, .int .u64 bb, .int .i64 c, .int .u64 o, .int .u64 n, .string t] 31)) := nx hb2.out (Nat.le_refl _) ((Below.refl _ _).alloc (Nat.le_refl _) _)
    refine ⟨by simp, .inl ⟨_, _, rfl, run_takeDeferred ((hb3.block _ hDlt).trans hD.out), ?_⟩⟩
    refine ⟨.tuple #[.int .i64 (xs.length : Nat), .bool (!(Rt.act s').2)], by simp [results, Try.results22, go_sem], xs, S', s', k1.out, k6.out, k7.out, rfl, ?_⟩
    have hput : ∀ (o' : Obj) j, j ≠ W0.heap.size → j < W.heap.size → ((w2.alloc (.cells #[.int .i64 k, .int .u64 bb, .int .i64 c, .int .u64 o, .int .u64 n, .string t] 31)).putObj W0.heap.size o').heap[j]? = W.heap[j]? := fun o' j h1 h2 => (World.putObj_heap_other (by omega)).trans (hb3.block j h2)
    have hne : ∀ j, F' j ∨ G' j → j ≠ W0.heap.size := fun j hj e => hZD.out (e ▸ k5.out j hj)
    have hsz3 := hb3.size
    refine ⟨⟨F', G', k2.out.keep (by simpa [World.putObj] using hsz3) fun j hj => hput _ j (hne j (.inl hj)) (k2.out.own j hj), Rt.keep k3.out (by simpa [World.putObj] using hsz3) fun j hj => hput _ j (hne j (.inr hj)) (Rt.own k3.out j hj), k4.out, fun j hj => ?_⟩, ?_⟩
    · rcases k5.out j hj with hj | hj | hj
      · exact .inl (.inl hj)
      · exact .inl (.inr hj)
      · exact .inr (by have := hsz.out; omega)
    · have hc := h2.out.chg.next_ hb3
      exact ⟨hc.os, hc.tape, hc.output, by simpa [World.putObj] using hc.size, fun j hj hn => (World.putObj_heap_other (by have := hsz.out; omega)).trans (hc.block j hj hn)⟩
end
end Go.Proofs.Ytpldnbdcpihjcaa
