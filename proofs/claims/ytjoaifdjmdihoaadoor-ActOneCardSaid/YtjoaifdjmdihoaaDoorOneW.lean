/-
  The walk over the law that an act changes one thing at most (layer 18). No condition.
-/
import Derived.Test.YtjoaifdjmdihoaaDoorOneP
import Derived.Test.YtjoaifdjmdihoaaDoorActF
import Derived.Test.YtjoaifdjmdihoaaDoorLexH
namespace Go.Proofs.YtjoaifdjmdihoaaDoor
set_option linter.unusedVariables false
open Go.ChangeShapes Go.WideShapes Go.ChangeAt Go.RowKit
open Go.ChangeMaps (setBlock)

/-- A heap, its copy, and the row of the copy's blocks. -/
structure TA (w : World) (hb cb : Nat) (S T : PHeap) (A : Option Addr) (ks : List Int) (W : World) : Prop where
  ex : ∃ F G : Nat → Prop, HeapIn W hb S F ∧ HeapIn W cb T G ∧ Off F G ∧ (∀ k, F k ∨ G k → w.heap.size ≤ k) ∧ (∀ i b, ks[i]? = some b → ∃ ad, A = some ad ∧ ad.block < W.heap.size ∧ ¬ F ad.block ∧ ¬ G ad.block ∧ W.cell? (ad.add i) = some (.int .u64 b))
  below : Below w.heap.size w W
theorem add_block (ad : Addr) (i : Nat) : (ad.add i).block = ad.block := by unfold Addr.add; split <;> rfl
section
variable {w W W' : World} {hb cb : Nat} {S T S' : PHeap} {A : Option Addr} {ks : List Int}
theorem TA.keep (q : TA w hb cb S T A ks W) (hb1 : Below W.heap.size W W') : TA w hb cb S T A ks W' := by
  obtain ⟨⟨F, G, h1, h2, h3, h4, h5⟩, h6⟩ := q
  refine ⟨⟨F, G, h1.below hb1, h2.below hb1, h3, h4, fun i b hi => ?_⟩, h6.trans (hb1.mono h6.size)⟩
  obtain ⟨ad, e1, e2, e3, e4, e5⟩ := h5 i b hi
  exact ⟨ad, e1, Nat.lt_of_lt_of_le e2 hb1.size, e3, e4, (World.cell?_of_block (by rw [add_block]; exact hb1.block _ e2)).trans e5⟩
theorem TA.drew (q : TA w hb cb S T A ks W) : TA w hb cb S T A ks W.drew := q.keep ((Below.refl W.heap.size W).drew)
theorem TA.swap (q : TA w hb cb S T A ks W) : TA w cb hb T S A ks W := by
  obtain ⟨⟨F, G, h1, h2, h3, h4, h5⟩, h6⟩ := q
  refine ⟨⟨G, F, h2, h1, h3.symm, fun k hk => h4 k hk.symm, fun i b hi => ?_⟩, h6⟩
  obtain ⟨ad, e1, e2, e3, e4, e5⟩ := h5 i b hi
  exact ⟨ad, e1, e2, e4, e3, e5⟩
theorem TA.turn {F G : Nat → Prop} (h1 : HeapIn W hb S F) (h2 : HeapIn W cb T G) (h3 : Off F G) (h4 : ∀ k, F k ∨ G k → w.heap.size ≤ k) (h5 : ∀ i b, ks[i]? = some b → ∃ ad, A = some ad ∧ ad.block < W.heap.size ∧ ¬ F ad.block ∧ ¬ G ad.block ∧ W.cell? (ad.add i) = some (.int .u64 b))
    (h6 : Below w.heap.size w W) (t : Turned F hb S' W W') : TA w hb cb S' T A ks W' := by
  refine ⟨⟨nw F W W', G, t.1, h2.off t.2 h3, Off.nw h3 h2.own, fun k hk => ?_, fun i b hi => ?_⟩, h6.trans (t.2.below (fun k hk => h4 k (.inl hk)) h6.size)⟩
  · rcases hk with (hk | hk) | hk
    · exact h4 k (.inl hk)
    · exact Nat.le_trans h6.size hk.1
    · exact h4 k (.inr hk)
  · obtain ⟨ad, e1, e2, e3, e4, e5⟩ := h5 i b hi
    refine ⟨ad, e1, Nat.lt_of_lt_of_le e2 t.2.size, fun h => h.elim e3 fun h => by omega, e4, (World.cell?_of_block (by rw [add_block]; exact t.2.block _ e2 e3)).trans e5⟩
theorem TA.size1 (q : TA w hb cb S T A ks W) (b : Int) : Calls Tryd.prog 25 #[.pointer (some ⟨hb, 0, none⟩), .int .u64 b] W fun e W' => e = .returned (.int .i64 (S.size b)) ∧ W = W' := by
  obtain ⟨⟨F, G, h1, _⟩, _⟩ := q
  exact size_any h1 b
theorem TA.locked1 (q : TA w hb cb S T A ks W) : Calls Tryd.prog 18 #[.pointer (some ⟨hb, 0, none⟩)] W fun e W' => e = .returned (.bool S.locked) ∧ W = W' := by
  obtain ⟨⟨F, G, h1, _⟩, _⟩ := q
  exact locked_any h1
theorem TA.load1 (q : TA w hb cb S T A ks W) {b : Int} {x : PBlk} (hx : S.find b = some x) (i : Nat) (hi : i < x.cells.length) :
    Calls Tryd.prog 26 #[.pointer (some ⟨hb, 0, none⟩), .int .u64 b, .int .i64 i] W fun e W' => e = .returned (.tuple #[.int .u64 (S.word b i), .int .i64 0]) ∧ TA w hb cb S T A ks W' := by
  obtain ⟨⟨F, G, h1, h2, h3, h4, h5⟩, h6⟩ := q
  have e : S.word b i = x.nth i := by rw [word_eq hx]; simp
  rw [e]
  exact (load_hit h1 hx i hi).mono fun e W' ⟨he, t⟩ => ⟨he, TA.turn h1 h2 h3 h4 h5 h6 t⟩
theorem TA.does (q : TA w hb cb S T A ks W) (x : PAct) (hx : x.Ok) (hf : S.faults < 9223372036854775807) (hla : S.last < 9223372036854775807) :
    Calls Tryd.prog 15 #[.pointer (some ⟨hb, 0, none⟩), x.val] W fun e W' => ∃ g r, e = .returned g ∧ TA w hb cb (S.act x r).2 T A ks W' := by
  obtain ⟨⟨F, G, h1, h2, h3, h4, h5⟩, h6⟩ := q
  exact (do_any h1 x hx hf hla).mono fun e W' ⟨r, he, t⟩ => ⟨_, r, he, TA.turn h1 h2 h3 h4 h5 h6 t⟩
theorem sorted_len18 (S : PHeap) : S.sorted.length = S.blocks.length := by unfold PHeap.sorted; simp
theorem TA.blocks1 (q : TA w hb cb S T A ks W) (hn : S.blocks.length ≤ 100000) : Calls Tryd.prog 20 #[.pointer (some ⟨hb, 0, none⟩)] W fun e W' => ∃ A' c, e = .returned (.slice A' S.blocks.length c) ∧ TA w hb cb S T A ks W' := by
  have q0 := q
  obtain ⟨⟨F, G, h1, _⟩, _⟩ := q
  refine (blocks_any h1 hn).mono fun e W' ⟨v, he, ho, hb1⟩ => ?_
  obtain ⟨A', c, rfl⟩ := slice_ownB ho
  exact ⟨A', c, he, q0.keep hb1⟩
/-- The copy's blocks. -/
theorem TA.blocks2 (q : TA w hb cb S T none [] W) (hn : T.blocks.length ≤ 100000) : Calls Tryd.prog 20 #[.pointer (some ⟨cb, 0, none⟩)] W fun e W' => ∃ A' c, e = .returned (.slice A' T.blocks.length c) ∧ TA w hb cb S T A' T.sorted W' := by
  have q0 := q
  obtain ⟨⟨F, G, h1, h2, h3, h4, _⟩, h6⟩ := q
  refine (blocks_any h2 hn).mono fun e W' ⟨v, he, ho, hb1⟩ => ?_
  obtain ⟨A', c, rfl⟩ := slice_ownB ho
  refine ⟨A', c, he, ⟨F, G, h1.below hb1, h2.below hb1, h3, h4, fun i b hi => ?_⟩, h6.trans (hb1.mono h6.size)⟩
  have hil := (List.getElem?_eq_some_iff.1 hi).1
  rw [sorted_len18] at hil
  rcases ho.2 with ⟨_, h0⟩ | ⟨g, cap, cur, hv, hg, hgo, _⟩
  · omega
  · injection hv with e1 e2 e3
    subst e1
    have hgl := (Array.getElem?_eq_some_iff.1 hgo).1
    exact ⟨_, rfl, hgl, fun h => absurd (h1.own g h) (by omega), fun h => absurd (h2.own g h) (by omega), ho.cells rfl i _ (by simp [hi])⟩
end
theorem sorted_mem (S : PHeap) (b : Int) : b ∈ S.sorted ↔ b ∈ S.blocks.map (·.key) := by unfold PHeap.sorted; exact List.mem_mergeSort
theorem sorted_nodup {S : PHeap} (h : (S.blocks.map (·.key)).Nodup) : S.sorted.Nodup := by unfold PHeap.sorted; exact (List.mergeSort_perm _ _).nodup_iff.2 h
theorem find_of_key {S : PHeap} {b : Int} (h : b ∈ S.blocks.map (·.key)) : ∃ y, S.find b = some y := by
  obtain ⟨y, hy, e⟩ := List.mem_map.1 h
  cases hf : S.find b with
  | some z => exact ⟨z, rfl⟩
  | none =>
    unfold PHeap.find at hf
    rw [List.find?_eq_none] at hf
    exact absurd (by simpa using e) (hf y hy)
/-- Behind the act: what is counted comes to one at most. -/
theorem one_total {S T : PHeap} (hk : (S.blocks.map (·.key)).Nodup) (a : Alike T S) (x : PAct) (r : Nat) : total T (S.act x r).2 T.sorted ≤ 1 ∧ (x.looks = true → total T (S.act x r).2 T.sorted = 0) := by
  have hkeys : (T.blocks.map (·.key)).Perm (S.blocks.map (·.key)) := by
    have := a.blocks.map (·.1)
    simpa [List.map_map, Function.comp_def, PBlk.bare3] using this
  have hkT : (T.blocks.map (·.key)).Nodup := hkeys.nodup_iff.2 hk
  have hc : ∀ b, (T.find b).map (·.cells) = (S.find b).map (·.cells) := fun b => by
    cases hs : T.find b with
    | none =>
      cases ht : S.find b with
      | none => rfl
      | some y =>
        obtain ⟨h1, h2⟩ := find_mem ht
        obtain ⟨z, hz⟩ := find_of_key (hkeys.symm.subset (List.mem_map.2 ⟨y, h1, h2⟩))
        rw [hs] at hz
        cases hz
    | some y =>
      obtain ⟨h1, h2⟩ := find_mem hs
      have : y.bare3 ∈ S.blocks.map PBlk.bare3 := a.blocks.subset (List.mem_map.2 ⟨y, h1, rfl⟩)
      obtain ⟨z, hz, he⟩ := List.mem_map.1 this
      unfold PBlk.bare3 at he
      simp only [Prod.mk.injEq] at he
      obtain ⟨u, hu⟩ := find_of_key (S := S) (b := b) (List.mem_map.2 ⟨z, hz, by rw [he.1, h2]⟩)
      obtain ⟨g1, g2⟩ := find_mem hu
      have e := eq_of_key hk g1 hz (by rw [g2, he.1, h2])
      rw [hu, e]
      simp [he.2.1]
  have hlen : T.blocks.length = S.blocks.length := by simpa using hkeys.length_eq
  have h1 := act_total S x r T.sorted (sorted_nodup hkT) (fun b hb => find_of_key (hkeys.subset ((sorted_mem T b).1 hb)))
  rw [total_alike hc hlen a.locked]
  exact h1
theorem reads_act (W : World) (x : PAct) : Reads (W.alloc (.cells #[.int .i64 x.kind, .int .u64 x.block, .int .i64 x.cell, .int .u64 x.old, .int .u64 x.new, .string x.text] 34)) (W.alloc (.cells #[.int .i64 x.kind, .int .u64 x.block, .int .i64 x.cell, .int .u64 x.old, .int .u64 x.new, .string x.text] 34)).heap.size 6 (some ⟨W.heap.size, 0, none⟩) 1 (actL [x]) := by
  refine ⟨by simp [actL], fun _ => ⟨_, rfl, by simp, fun j u hu => ?_⟩⟩
  have e : (⟨W.heap.size, 0, none⟩ : Addr).add j = ⟨W.heap.size, j, none⟩ := by unfold Addr.add; split <;> simp_all
  rw [e, (Blk.new W 34 _).cell j]
  simpa [actL] using hu
theorem act_growB (S : PHeap) (x : PAct) (r : Nat) : (S.act x r).2.blocks.length ≤ S.blocks.length + 1 := by
  rcases act_kinds S x r with ⟨h, _⟩ | ⟨_, ⟨b, i, v, h, _⟩ | ⟨z, h, _⟩ | ⟨b, h, _⟩ | h⟩ <;> rw [h]
  · omega
  · simp [PHeap.set]
  · simp
  · have := List.length_filter_le (fun y : PBlk => y.key != b) S.blocks
    omega
  · omega
/-- Between two rounds of the making. -/
def On1 (w2 : World) (hb len : Nat) (iv : Value) (wr : World) : Prop := ∃ (k : Nat) (S : PHeap) (F : Nat → Prop), k ≤ len ∧ iv = .int .i64 k ∧ Own w2 hb S F wr ∧ S.last ≤ k ∧ S.faults ≤ k ∧ S.blocks.length ≤ k
/-- .. of the outer loop. -/
def On2 (w2 : World) (hb cb : Nat) (S T : PHeap) (A : Option Addr) (c0 : Nat) (nv iv : Value) (wr : World) : Prop := ∃ i : Nat, i ≤ T.sorted.length ∧ iv = .int .i64 i ∧ nv = .int .i64 ((c0 + dsum T S (T.sorted.take i) : Nat) : Int) ∧ TA w2 hb cb S T A T.sorted wr
/-- .. of the inner one. -/
def On3 (w2 : World) (hb cb : Nat) (S T : PHeap) (A : Option Addr) (c1 : Nat) (b : Int) (nv kv : Value) (wr : World) : Prop := ∃ k : Nat, (k : Int) ≤ T.size b ∧ (T.size b = S.size b ∨ k = 0) ∧ kv = .int .i64 k ∧ nv = .int .i64 ((c1 + (if T.size b = S.size b then dcount (gap T S b) k else 0) : Nat) : Int) ∧ TA w2 hb cb S T A T.sorted wr
set_option maxRecDepth 100000 in
set_option maxHeartbeats 16000000 in
theorem walkOne (A : Option Addr) (len cap : Nat) (zs : List Int) (hzl : zs.length = len) (hzb : ∀ z ∈ zs, 0 ≤ z ∧ z ≤ 255) (x : PAct) (hx : x.Ok) (w : World) (hr : Reads w w.heap.size 1 A len (zs.map (Value.int .u8))) :
    Calls Tryd.prog 4 #[.slice A len cap, x.val] w fun e w' => e = .returned (.bool true) ∧ Below w.heap.size w w' := by
  obtain ⟨kind, block, cell, old, new, text⟩ := x
  have hv : PAct.val ⟨kind, block, cell, old, new, text⟩ = .agg #[.int .i64 kind, .int .u64 block, .int .i64 cell, .int .u64 old, .int .u64 new, .string text] := rfl
  have hLo := fun W => looks_any ⟨kind, block, cell, old, new, text⟩ hx W
  have B1 := Blk.new w 34 #[.int .i64 kind, .int .u64 block, .int .i64 cell, .int .u64 old, .int .u64 new, .string text]
  have hz1 : Below w.heap.size w (w.alloc (.cells #[.int .i64 kind, .int .u64 block, .int .i64 cell, .int .u64 old, .int .u64 new, .string text] 34)) := Below.more_ (Below.refl _ _) _
  rw [hv] at hLo
  rw [hv]
  replace hr := Lib.hid hr
  replace hLo := Lib.hid hLo
  replace hzb := Lib.hid hzb
  by_cases hlen : (10 : Int) < (len : Int)
  · have d1 : decide ((10 : Int) < (len : Int)) = true := by simpa using hlen
    clear hLo hv B1
    replace hz1 := Lib.hid hz1
    replace hx := Lib.hid hx
    go_enter Tryd.func4, Tryd.ntmps4
    go_wp2_with fail
    refine (awake18 _).mono ?_; rintro e w7 ⟨rfl, hb7⟩
    go_wp2_with fail
    go_ret
    exact ⟨rfl, Below.next_ hz1.out hb7⟩
  · have d1 : decide ((10 : Int) < (len : Int)) = false := by simpa using hlen
    have hl10 : len ≤ 10 := by omega
    have hrA := reads_act (w.alloc (.cells #[.int .i64 kind, .int .u64 block, .int .i64 cell, .int .u64 old, .int .u64 new, .string text] 34)) ⟨kind, block, cell, old, new, text⟩
    have hFe := few18_any (some ⟨(w.alloc (.cells #[.int .i64 kind, .int .u64 block, .int .i64 cell, .int .u64 old, .int .u64 new, .string text] 34)).heap.size, 0, none⟩) 1 1 [⟨kind, block, cell, old, new, text⟩] rfl (by decide) 1 _ hrA
    have hz2 : Below w.heap.size w ((w.alloc (.cells #[.int .i64 kind, .int .u64 block, .int .i64 cell, .int .u64 old, .int .u64 new, .string text] 34)).alloc (.cells #[.int .i64 kind, .int .u64 block, .int .i64 cell, .int .u64 old, .int .u64 new, .string text] 34)) := Below.more_ hz1 _
    have C1 : Blk ((w.alloc (.cells #[.int .i64 kind, .int .u64 block, .int .i64 cell, .int .u64 old, .int .u64 new, .string text] 34)).alloc (.cells #[.int .i64 kind, .int .u64 block, .int .i64 cell, .int .u64 old, .int .u64 new, .string text] 34)) w.heap.size 34 #[.int .i64 kind, .int .u64 block, .int .i64 cell, .int .u64 old, .int .u64 new, .string text] := B1.alloc _
    simp only [World.size_alloc] at hFe
    clear hrA hz1 B1 hv
    replace hFe := Lib.hid hFe
    replace hz2 := Lib.hid hz2
    replace C1 := Lib.hid C1
    replace hx := Lib.hid hx
    go_enter Tryd.func4, Tryd.ntmps4
    go_wp2_with fail
    refine (hFe.out).mono ?_; rintro e w2 ⟨fb, rfl, hfb, rfl⟩
    clear hFe
    generalize (w.alloc (.cells #[.int .i64 kind, .int .u64 block, .int .i64 cell, .int .u64 old, .int .u64 new, .string text] 34)).alloc (.cells #[.int .i64 kind, .int .u64 block, .int .i64 cell, .int .u64 old, .int .u64 new, .string text] 34) = w2 at *
    replace hfb := Lib.hid hfb
    cases fb with
    | false =>
      go_wp2_with fail
      refine (awake18 _).mono ?_; rintro e w7 ⟨rfl, hb7⟩
      go_wp2_with fail
      go_ret
      exact ⟨rfl, Below.next_ hz2.out hb7⟩
    | true =>
      have hcw := C1.out.lt
      have hcf : ∀ W, Below w2.heap.size w2 W → (W.cell? ⟨w.heap.size, 0, none⟩ = some (.int .i64 kind) ∧ W.cell? ⟨w.heap.size, 1, none⟩ = some (.int .u64 block) ∧ W.cell? ⟨w.heap.size, 2, none⟩ = some (.int .i64 cell) ∧ W.cell? ⟨w.heap.size, 3, none⟩ = some (.int .u64 old) ∧ W.cell? ⟨w.heap.size, 4, none⟩ = some (.int .u64 new) ∧ W.cell? ⟨w.heap.size, 5, none⟩ = some (.string text)) := fun W h => by
        have hB := C1.out.below h hcw
        exact ⟨hB.cell 0, hB.cell 1, hB.cell 2, hB.cell 3, hB.cell 4, hB.cell 5⟩
      have hrd : ∀ W, Below w2.heap.size w2 W → Reads W W.heap.size 1 A len (zs.map (Value.int .u8)) := fun W h => by
        have hB := hz2.out.trans (h.mono hz2.out.size)
        exact (hr.out.below hB).more hB.size
      replace hcf := Lib.hid hcf
      replace hrd := Lib.hid hrd
      clear hfb C1 hr
      go_wp2_with fail
      refine (new_sess _).mono ?_; rintro e w3 ⟨hb, rfl, s3⟩
      obtain ⟨F3, o3⟩ := Own.of_sess s3
      clear s3
      replace o3 := Lib.hid o3
      go_wp2_with fail
      go_loopw [6] (fun iv wr => On1 w2 hb len iv wr) (fun i _ => len + 1 - (intOf i).toNat)
      case atStart => exact ⟨0, _, _, Nat.zero_le _, rfl, o3.out, Int.le_refl _, Int.le_refl _, Nat.le_refl _⟩
      case round =>
        clear o3
        obtain ⟨k, S, F, hk, rfl, oA, hla, hfa, hbn⟩ := hrel
        by_cases hlt : k < len
        · have d2 : decide ((k : Int) < (len : Int)) = true := by simpa using hlt
          have i1 : (0 : Int) ≤ (k : Int) := by omega
          have i2 : (k : Int) < (len : Int) := by omega
          obtain ⟨ad, u, rfl, hadb, hu, hcell⟩ := (hrd.out _ oA.below).at_ hlt
          obtain ⟨z, hz, rfl⟩ : ∃ z, zs[k]? = some z ∧ u = .int .u8 z := by
            rw [List.getElem?_map] at hu
            cases hzz : zs[k]? with
            | none => rw [hzz] at hu; simp at hu
            | some z => rw [hzz] at hu; exact ⟨z, rfl, by simpa using hu.symm⟩
          have hz255 := hzb.out z (List.mem_of_getElem? hz)
          clear hu
          replace hz := Lib.hid hz
          replace oA := Lib.hid oA
          replace hla := Lib.hid hla
          replace hfa := Lib.hid hfa
          replace hbn := Lib.hid hbn
          replace hadb := Lib.hid hadb
          have hm := make_any oA.out.heap (z % 8).toNat (by omega) ⟨#[116]⟩ (by have := hla.out; omega)
          rw [show (((z % 8).toNat : Nat) : Int) = z % 8 by omega] at hm
          replace hm := Lib.hid hm
          go_wp2_with fail
          refine (hm.out).mono ?_; rintro e w4 ⟨rfl, r4, t4⟩
          have o4 := oA.out.turned t4
          have hst := store_all o4.heap (S.last + 1) 0 7 (by have := oA.out.heap.last0; omega) (by omega) (by show S.faults < _; have := hfa.out; omega)
          clear hm t4 oA hcell
          generalize hS4 : ({ S with blocks := S.blocks ++ [⟨S.last + 1, r4, List.replicate (z % 8).toNat 0, ⟨#[116]⟩⟩], last := S.last + 1 } : PHeap) = S4 at *
          have hb4 : S4.last ≤ ((k + 1 : Nat) : Int) ∧ S4.faults ≤ (k : Int) ∧ S4.blocks.length ≤ k + 1 := by
            have h1 := hla.out
            have h2 := hfa.out
            have h3 := hbn.out
            subst hS4
            refine ⟨?_, h2, ?_⟩
            · show S.last + 1 ≤ _
              omega
            · show (S.blocks ++ [_]).length ≤ _
              simp only [List.length_append, List.length_cons, List.length_nil]
              omega
          clear hS4
          generalize nw F w3 w4 = F4 at *
          replace o4 := Lib.hid o4
          replace hst := Lib.hid hst
          replace hb4 := Lib.hid hb4
          go_wp2_with fail
          refine (hst.out).mono ?_; rintro e w5 ⟨rfl, t5⟩
          have o5 := o4.out.turned t5
          have hb5 : (S4.store (S.last + 1) 0 7).last ≤ ((k + 1 : Nat) : Int) ∧ (S4.store (S.last + 1) 0 7).faults ≤ ((k + 1 : Nat) : Int) ∧ (S4.store (S.last + 1) 0 7).blocks.length ≤ k + 1 := by
            obtain ⟨h1, h2, h3⟩ := hb4.out
            unfold PHeap.store
            split
            · exact ⟨h1, by show S4.faults ≤ _; omega, by show (S4.blocks.map _).length ≤ _; rw [List.length_map]; exact h3⟩
            · exact ⟨h1, by show S4.faults + 1 ≤ _; omega, h3⟩
          clear hst t5 o4 hb4
          replace o5 := Lib.hid o5
          replace hb5 := Lib.hid hb5
          have hk10 : k ≤ 10 := by omega
          go_wp2_with fail
          go_roundw
          case rel => exact ⟨k + 1, _, _, by omega, by go_num, o5.out, hb5.out.1, hb5.out.2.1, hb5.out.2.2⟩
          case measure => simp [intOf]; omega
        · have d2 : decide ((k : Int) < (len : Int)) = false := by simpa using hlt
          have hCp := copy_any oA.heap
          have hkS := oA.heap.keys
          have hS11 : S.last ≤ 10 ∧ S.faults ≤ 10 ∧ S.blocks.length ≤ 10 := ⟨by omega, by omega, by omega⟩
          replace hCp := Lib.hid hCp
          replace oA := Lib.hid oA
          replace hkS := Lib.hid hkS
          replace hS11 := Lib.hid hS11
          clear hla hfa hbn
          go_wp2_with fail
          refine (hCp.out).mono ?_; rintro e w4 ⟨cb, T, G, rfl, hT, hal, hG, hb4⟩
          have qA : TA w2 hb cb S T none [] w4 := ⟨⟨F, G, oA.out.heap.below hb4, hT, fun k h1 h2 => by have := oA.out.heap.own k h1; have := hG k h2; omega, fun k hk => hk.elim (oA.out.new k) (fun h => Nat.le_trans oA.out.below.size (hG k h)), fun i b hi => by simp at hi⟩, oA.out.below.trans (hb4.mono oA.out.below.size)⟩
          have hDo := qA.does ⟨kind, block, cell, old, new, text⟩ hx.out (by have := hS11.out.2.1; omega) (by have := hS11.out.1; omega)
          have hTl : T.blocks.length ≤ 10 := by have := hal.blocks.length_eq; simp only [List.length_map] at this; have := hS11.out.2.2; omega
          have hto := fun r => one_total hkS.out hal ⟨kind, block, cell, old, new, text⟩ r
          have hgr := fun r => act_growB S ⟨kind, block, cell, old, new, text⟩ r
          obtain ⟨c0, c1, c2, c3, c4, c5⟩ := hcf.out _ qA.below
          have hv : PAct.val ⟨kind, block, cell, old, new, text⟩ = .agg #[.int .i64 kind, .int .u64 block, .int .i64 cell, .int .u64 old, .int .u64 new, .string text] := rfl
          rw [hv] at hDo
          generalize PHeap.act S ⟨kind, block, cell, old, new, text⟩ = Ac at *
          generalize PAct.looks ⟨kind, block, cell, old, new, text⟩ = lk at *
          clear hv qA hT hal hG hb4 oA hCp
          replace hDo := Lib.hid hDo
          replace hTl := Lib.hid hTl
          replace hto := Lib.hid hto
          replace hgr := Lib.hid hgr
          go_wp2_with fail
          refine (hDo.out).mono ?_; rintro e w5 ⟨gv, r5, rfl, qB⟩
          have hto5 := hto.out r5
          have hgr5 := hgr.out r5
          generalize (Ac r5).2 = U at *
          have hUl : U.blocks.length ≤ 11 := by have := hS11.out.2.2; omega
          have hBl := qB.blocks2 (by have := hTl.out; omega)
          clear hDo hto hgr hgr5 qB c0 c1 c2 c3 c4 c5 hS11 hkS Ac
          replace hto5 := Lib.hid hto5
          replace hUl := Lib.hid hUl
          replace hBl := Lib.hid hBl
          go_wp2_with fail
          refine (hBl.out).mono ?_; rintro e w6 ⟨A6, c6, rfl, q6⟩
          have hBm := q6.blocks1 (by have := hUl.out; omega)
          clear hBl q6
          replace hBm := Lib.hid hBm
          go_wp2_with fail
          refine (hBm.out).mono ?_; rintro e w7 ⟨A7, c7, rfl, q7⟩
          clear hBm
          have hL2 := q7.swap.locked1
          have hL1 := q7.locked1
          obtain ⟨c0, hc0⟩ : ∃ c0 : Nat, c0 = (if T.blocks.length = U.blocks.length then 0 else 1) + (if T.locked = U.locked then 0 else 1) := ⟨_, rfl⟩
          have htt : c0 + dsum T U T.sorted ≤ 1 ∧ (lk = true → c0 + dsum T U T.sorted = 0) := by
            rw [hc0]
            exact hto5.out
          have hTs : T.sorted.length = T.blocks.length := sorted_len18 T
          have hTl' := hTl.out
          have hUl' := hUl.out
          generalize hnT : T.blocks.length = nT at *
          generalize hnU : U.blocks.length = nU at *
          generalize hlT : T.locked = lT at *
          generalize hlU : U.locked = lU at *
          clear hto5 hTl hUl
          replace hnT := Lib.hid hnT
          replace hnU := Lib.hid hnU
          replace hlT := Lib.hid hlT
          replace hlU := Lib.hid hlU
          replace q7 := Lib.hid q7
          replace hL2 := Lib.hid hL2
          replace hL1 := Lib.hid hL1
          replace htt := Lib.hid htt
          replace hTs := Lib.hid hTs
          have hcmp : (nT = nU ∧ ((nT : Int) == (nU : Int)) = true) ∨ (¬ nT = nU ∧ ((nT : Int) == (nU : Int)) = false) := by
            by_cases e : nT = nU
            · exact .inl ⟨e, by rw [e]; simp⟩
            · exact .inr ⟨e, by rw [beq_eq_false_iff_ne]; omega⟩
          have hcml : (lT = lU ∧ (lT == lU) = true) ∨ (¬ lT = lU ∧ (lT == lU) = false) := by cases lT <;> cases lU <;> simp
          rcases hcmp with ⟨e1, f1⟩ | ⟨e1, f1⟩ <;> rcases hcml with ⟨e2, f2⟩ | ⟨e2, f2⟩
          case inr.inr => rw [if_neg e1, if_neg e2] at hc0; have := htt.out.1; omega
          all_goals
            (first | rw [if_pos e1, if_pos e2] at hc0 | rw [if_pos e1, if_neg e2] at hc0 | rw [if_neg e1, if_pos e2] at hc0)
            replace e1 := Lib.hid e1
            replace e2 := Lib.hid e2
            replace hc0 := Lib.hid hc0
            go_wp2_with fail
            refine (hL2.out).mono ?_; rintro e w8 ⟨rfl, rfl⟩
            go_wp2_with fail
            refine (hL1.out).mono ?_; rintro e w8 ⟨rfl, rfl⟩
            go_wp2_with fail
            clear hL1 hL2
            go_loopw [11, 12] (fun nv iv wr => On2 w2 hb cb U T A6 c0 nv iv wr) (fun _ i _ => nT + 1 - (intOf i).toNat)
            case atStart => exact ⟨0, Nat.zero_le _, rfl, by rw [hc0.out]; rfl, q7.out⟩
            case round =>
              clear q7
              obtain ⟨i, hi, rfl, rfl, qA⟩ := hrel
              by_cases hli : i < nT
              · have d3 : decide ((i : Int) < (nT : Int)) = true := by simpa using hli
                have hi' := hTs.out
                obtain ⟨b, hbi⟩ : ∃ b, T.sorted[i]? = some b := ⟨_, List.getElem?_eq_getElem (by omega)⟩
                have htk := dsum_take (S := T) (T := U) hbi
                obtain ⟨ad, hA6, _⟩ : ∃ ad, A6 = some ad ∧ True := by
                  obtain ⟨⟨F', G', _, _, _, _, h5⟩, _⟩ := qA
                  obtain ⟨ad, e, _⟩ := h5 i b hbi
                  exact ⟨ad, e, trivial⟩
                subst hA6
                obtain ⟨m, hmT, hm256⟩ : ∃ m : Nat, T.size b = (m : Int) ∧ m ≤ 256 := by
                  obtain ⟨⟨F', G', _, h2, _⟩, _⟩ := qA
                  unfold PHeap.size
                  cases hf : T.find b with
                  | none => exact ⟨0, rfl, by omega⟩
                  | some y => exact ⟨y.cells.length, rfl, (h2.span y (find_mem hf).1).2.2.1⟩
                obtain ⟨m2, hmU⟩ : ∃ m2 : Nat, U.size b = (m2 : Int) := by
                  unfold PHeap.size
                  cases hf : U.find b with
                  | none => exact ⟨0, rfl⟩
                  | some y => exact ⟨y.cells.length, rfl⟩
                have hS2 := fun W (q : TA w2 hb cb U T (some ad) T.sorted W) => q.swap.size1 b
                have hS1 := fun W (q : TA w2 hb cb U T (some ad) T.sorted W) => q.size1 b
                rw [hmT] at hS2
                rw [hmU] at hS1
                have hcell := fun W (q : TA w2 hb cb U T (some ad) T.sorted W) => (show W.cell? (ad.add i) = some (.int .u64 b) by
                  obtain ⟨⟨F', G', _, _, _, _, h5⟩, _⟩ := q
                  obtain ⟨ad', e, _, _, _, h⟩ := h5 i b hbi
                  cases e
                  exact h)
                have j1 : (0 : Int) ≤ (i : Int) := by omega
                have j2 : (i : Int) < (nT : Int) := by omega
                replace hbi := Lib.hid hbi
                replace htk := Lib.hid htk
                replace hmT := Lib.hid hmT
                replace hmU := Lib.hid hmU
                replace hS1 := Lib.hid hS1
                replace hS2 := Lib.hid hS2
                replace hcell := Lib.hid hcell
                replace qA := Lib.hid qA
                replace hi' := Lib.hid hi'
                obtain ⟨c1, hc1⟩ : ∃ c1, c0 + dsum T U (T.sorted.take i) = c1 := ⟨_, rfl⟩
                rw [hc1]
                replace hc1 := Lib.hid hc1
                go_wp2_with fail
                go_loopw [11, 13] (fun nv kv wr => On3 w2 hb cb U T (some ad) c1 b nv kv wr) (fun _ k _ => m + 1 - (intOf k).toNat)
                case atStart => exact ⟨0, by rw [hmT.out]; omega, .inr rfl, rfl, by split <;> rfl, qA.out⟩
                case round =>
                  clear qA
                  obtain ⟨k, hk, hke, rfl, rfl, qB⟩ := hrel
                  have hrow := hcell.out _ qB
                  rw [hmT.out] at hk hke
                  replace hrow := Lib.hid hrow
                  by_cases hsz : m = m2
                  · subst hsz
                    have hse : T.size b = U.size b := by rw [hmT.out, hmU.out]
                    rw [if_pos hse]
                    have hdf : dfull T U b = dcount (gap T U b) m := by unfold dfull; rw [if_pos hse, hmT.out]; rfl
                    have hle := dcount_le (f := gap T U b) (k := k) (n := m) (by omega)
                    have hsum : c1 + dcount (gap T U b) m ≤ 1 := by have h1 := htt.out.1; have h2 := htk.out.1; have h3 := hc1.out; rw [hdf] at h2; omega
                    by_cases hkm : k < m
                    · have d4 : decide ((k : Int) < (m : Int)) = true := by simpa using hkm
                      have d5 : (((m : Int)) == (m : Int)) = true := by simp
                      obtain ⟨y2, hy2, hl2⟩ : ∃ y, T.find b = some y ∧ y.cells.length = m := by
                        have := hmT.out
                        unfold PHeap.size at this
                        cases hf : T.find b with
                        | none => rw [hf] at this; simp at this; omega
                        | some y => rw [hf] at this; simp at this; exact ⟨y, rfl, by omega⟩
                      obtain ⟨y1, hy1, hl1⟩ : ∃ y, U.find b = some y ∧ y.cells.length = m := by
                        have := hmU.out
                        unfold PHeap.size at this
                        cases hf : U.find b with
                        | none => rw [hf] at this; simp at this; omega
                        | some y => rw [hf] at this; simp at this; exact ⟨y, rfl, by omega⟩
                      have hld2 := fun W (q : TA w2 hb cb U T (some ad) T.sorted W) => q.swap.load1 hy2 k (by omega)
                      have hld1 := fun W (q : TA w2 hb cb U T (some ad) T.sorted W) => q.load1 hy1 k (by omega)
                      have hstep : dcount (gap T U b) (k + 1) = dcount (gap T U b) k + (if gap T U b k then 1 else 0) := rfl
                      have hle1 := dcount_le (f := gap T U b) (k := k + 1) (n := m) (by omega)
                      have hgk : gap T U b k = !(T.word b k == U.word b k) := rfl
                      obtain ⟨n, hn⟩ : ∃ n, c1 + dcount (gap T U b) k = n := ⟨_, rfl⟩
                      rw [hn]
                      have hn1 : n ≤ 1 := by omega
                      generalize T.word b k = v2 at *
                      generalize U.word b k = v1 at *
                      replace qB := Lib.hid qB
                      replace hld1 := Lib.hid hld1
                      replace hld2 := Lib.hid hld2
                      replace hy1 := Lib.hid hy1
                      replace hy2 := Lib.hid hy2
                      replace hl1 := Lib.hid hl1
                      replace hl2 := Lib.hid hl2
                      replace hse := Lib.hid hse
                      replace hdf := Lib.hid hdf
                      replace hstep := Lib.hid hstep
                      replace hle := Lib.hid hle
                      replace hle1 := Lib.hid hle1
                      replace hsum := Lib.hid hsum
                      replace hgk := Lib.hid hgk
                      replace hn := Lib.hid hn
                      go_upto_region 21 with fail
                      refine wp_region_lex [(true, 0), (true, 1), (true, 2), (true, 3), (true, 4), (true, 5), (false, 6), (true, 7), (true, 8), (true, 9), (true, 10), (true, 11), (true, 12), (true, 13), (true, 15), (true, 16), (true, 17), (true, 18), (true, 19), (false, 14), (false, 20), (true, 21), (true, 22)] (fun W : World => W.cell? (ad.add i) = some (.int .u64 b)) (by kernel_rfl) (by kernel_rfl) (fun R hR => ?_)
                      have hHeld : (fun W : World => W.cell? (ad.add i) = some (.int .u64 b)) wr.drew := hrow.out
                      have q0 := qB.out.drew
                      replace q0 := Lib.hid q0
                      clear qB
                      repeat (refine lex_take (v := ?_) rfl (by rfl) (by assumption) ?_ ?_; rotate_left 1; (focus (intro w hSw; (try dsimp only at hSw); go_simp; (try with_reducible rfl))); (try simp only [Act.put, List.setIfInBounds_toArray, List.set_cons_zero, List.set_cons_succ]))
                      (refine lex_call rfl (by rfl) (fun K hq => ?_); go_simp)
                      go_at_call 25
                      refine (hS2.out _ q0.out).mono ?_; rintro e w9 ⟨rfl, rfl⟩
                      go_wp2_with fail
                      (refine hq.out _ _ (fun W : World => W.cell? (ad.add i) = some (.int .u64 b)) (fun _ h => h) hHeld ?_; clear hq K; (try simp only [Act.put, List.setIfInBounds_toArray, List.set_cons_zero, List.set_cons_succ]))
                      repeat (refine lex_take (v := ?_) rfl (by rfl) (by assumption) ?_ ?_; rotate_left 1; (focus (intro w hSw; (try dsimp only at hSw); go_simp; (try with_reducible rfl))); (try simp only [Act.put, List.setIfInBounds_toArray, List.set_cons_zero, List.set_cons_succ]))
                      (refine lex_call rfl (by rfl) (fun K hq => ?_); go_simp)
                      go_at_call 25
                      refine (hS1.out _ q0.out).mono ?_; rintro e w9 ⟨rfl, rfl⟩
                      go_wp2_with fail
                      (refine hq.out _ _ (fun W : World => W.cell? (ad.add i) = some (.int .u64 b)) (fun _ h => h) hHeld ?_; clear hq K; (try simp only [Act.put, List.setIfInBounds_toArray, List.set_cons_zero, List.set_cons_succ]))
                      (refine lex_call rfl (by rfl) (fun K hq => ?_); go_simp)
                      go_at_call 25
                      refine (hS2.out _ q0.out).mono ?_; rintro e w9 ⟨rfl, rfl⟩
                      go_wp2_with fail
                      (refine hq.out _ _ (fun W : World => W.cell? (ad.add i) = some (.int .u64 b)) (fun _ h => h) hHeld ?_; clear hq K; (try simp only [Act.put, List.setIfInBounds_toArray, List.set_cons_zero, List.set_cons_succ]))
                      repeat (refine lex_take (v := ?_) rfl (by rfl) (by assumption) ?_ ?_; rotate_left 1; (focus (intro w hSw; (try dsimp only at hSw); go_simp; (try with_reducible rfl))); (try simp only [Act.put, List.setIfInBounds_toArray, List.set_cons_zero, List.set_cons_succ]))
                      have hHeld2 := hHeld
                      clear hHeld
                      refine lex_end ?_
                      refine hR.out _ _ ?_
                      clear hR R
                      have hcB := hcell.out _ q0.out
                      clear hHeld2 hrow
                      go_wp2_with fail
                      refine (hld2.out _ q0.out).mono ?_; rintro e wA ⟨rfl, q1⟩
                      have hcA := hcell.out _ q1.swap
                      clear hcB q0 hld2
                      replace q1 := Lib.hid q1
                      go_wp2_with fail
                      refine (hld1.out _ q1.out.swap).mono ?_; rintro e wB ⟨rfl, q2⟩
                      clear hcA q1 hld1
                      replace q2 := Lib.hid q2
                      obtain ⟨bv, hbv⟩ : ∃ bv, (v2 == v1) = bv := ⟨_, rfl⟩
                      have hnx : c1 + dcount (gap T U b) (k + 1) = n + (if bv then 0 else 1) := by
                        rw [hstep.out, hgk.out, hbv, ← hn.out]
                        cases bv <;> simp <;> omega
                      have hnx1 : n + (if bv then 0 else 1) ≤ 1 := by
                        have h1 := hsum.out
                        have h2 := hle1.out
                        omega
                      replace hnx := Lib.hid hnx
                      replace hnx1 := Lib.hid hnx1
                      cases bv
                      all_goals
                        have hn0 : (n : Int) ≤ 1 := by omega
                        go_wp2_with fail
                        go_roundw
                        case rel => exact ⟨k + 1, by rw [hmT.out]; omega, .inl hse.out, by go_num, by rw [if_pos hse.out, hnx.out]; first | rfl | (simp; done) | go_num, q2.out⟩
                        case measure => simp [intOf]; omega
                    · have d4 : decide ((k : Int) < (m : Int)) = false := by simpa using hkm
                      have hkm' : k = m := by omega
                      subst hkm'
                      have heq : c0 + dsum T U (T.sorted.take (i + 1)) = c1 + dcount (gap T U b) k := by rw [htk.out.2, hdf, ← Nat.add_assoc, hc1.out]
                      generalize c1 + dcount (gap T U b) k = n at *
                      replace hsum := Lib.hid hsum
                      replace hse := Lib.hid hse
                      replace hdf := Lib.hid hdf
                      replace hle := Lib.hid hle
                      replace qB := Lib.hid qB
                      replace heq := Lib.hid heq
                      go_upto_region 21 with fail
                      refine wp_region_lex [(true, 0), (true, 1), (true, 2), (true, 3), (true, 4), (true, 5), (false, 6), (true, 7), (true, 8), (true, 9), (true, 10), (true, 11), (true, 12), (true, 13), (true, 15), (true, 16), (true, 17), (true, 18), (true, 19), (false, 14), (false, 20), (true, 21), (true, 22)] (fun W : World => W.cell? (ad.add i) = some (.int .u64 b)) (by kernel_rfl) (by kernel_rfl) (fun R hR => ?_)
                      have hHeld : (fun W : World => W.cell? (ad.add i) = some (.int .u64 b)) wr.drew := hrow.out
                      have q0 := qB.out.drew
                      replace q0 := Lib.hid q0
                      clear qB
                      repeat (refine lex_take (v := ?_) rfl (by rfl) (by assumption) ?_ ?_; rotate_left 1; (focus (intro w hSw; (try dsimp only at hSw); go_simp; (try with_reducible rfl))); (try simp only [Act.put, List.setIfInBounds_toArray, List.set_cons_zero, List.set_cons_succ]))
                      (refine lex_call rfl (by rfl) (fun K hq => ?_); go_simp)
                      go_at_call 25
                      refine (hS2.out _ q0.out).mono ?_; rintro e w9 ⟨rfl, rfl⟩
                      go_wp2_with fail
                      (refine hq.out _ _ (fun W : World => W.cell? (ad.add i) = some (.int .u64 b)) (fun _ h => h) hHeld ?_; clear hq K; (try simp only [Act.put, List.setIfInBounds_toArray, List.set_cons_zero, List.set_cons_succ]))
                      repeat (first | (refine lex_take (v := ?_) rfl (by rfl) (by assumption) ?_ ?_; rotate_left 1; (focus (intro w hSw; (try dsimp only at hSw); go_simp; (try with_reducible rfl))); (try simp only [Act.put, List.setIfInBounds_toArray, List.set_cons_zero, List.set_cons_succ])) | (refine lex_pass rfl (by rfl) (by assumption) ?_; (try simp only [Act.put, List.setIfInBounds_toArray, List.set_cons_zero, List.set_cons_succ])))
                      have hHeld2 := hHeld
                      clear hHeld
                      refine lex_end ?_
                      refine hR.out _ _ ?_
                      clear hR R
                      go_wp2_with fail
                      go_roundw
                      case rel => exact ⟨i + 1, by have := hTs.out; omega, by go_num, by rw [heq.out], q0.out⟩
                      case measure => simp [intOf]; omega
                  · have hse : ¬ T.size b = U.size b := by rw [hmT.out, hmU.out]; omega
                    rw [if_neg hse]
                    have hdf : dfull T U b = 0 := by unfold dfull; rw [if_neg hse]
                    have heq : c0 + dsum T U (T.sorted.take (i + 1)) = c1 + 0 := by rw [htk.out.2, hdf, Nat.add_zero, hc1.out]; rfl
                    have hk0 : k = 0 := by rcases hke with h | h; exact absurd (h.trans rfl) (by rw [← hmT.out]; exact hse); exact h
                    subst hk0
                    have d6 : (((m2 : Int)) == (m : Int)) = false := by rw [beq_eq_false_iff_ne]; omega
                    generalize c1 + 0 = n at *
                    replace hse := Lib.hid hse
                    replace hdf := Lib.hid hdf
                    replace qB := Lib.hid qB
                    replace heq := Lib.hid heq
                    by_cases hkm : 0 < m
                    · have d4 : decide (((0 : Nat) : Int) < (m : Int)) = true := by simpa using hkm
                      go_upto_region 21 with fail
                      refine wp_region_lex [(true, 0), (true, 1), (true, 2), (true, 3), (true, 4), (true, 5), (false, 6), (true, 7), (true, 8), (true, 9), (true, 10), (true, 11), (true, 12), (true, 13), (true, 15), (true, 16), (true, 17), (true, 18), (true, 19), (false, 14), (false, 20), (true, 21), (true, 22)] (fun W : World => W.cell? (ad.add i) = some (.int .u64 b)) (by kernel_rfl) (by kernel_rfl) (fun R hR => ?_)
                      have hHeld : (fun W : World => W.cell? (ad.add i) = some (.int .u64 b)) wr.drew := hrow.out
                      have q0 := qB.out.drew
                      replace q0 := Lib.hid q0
                      clear qB
                      repeat (refine lex_take (v := ?_) rfl (by rfl) (by assumption) ?_ ?_; rotate_left 1; (focus (intro w hSw; (try dsimp only at hSw); go_simp; (try with_reducible rfl))); (try simp only [Act.put, List.setIfInBounds_toArray, List.set_cons_zero, List.set_cons_succ]))
                      (refine lex_call rfl (by rfl) (fun K hq => ?_); go_simp)
                      go_at_call 25
                      refine (hS2.out _ q0.out).mono ?_; rintro e w9 ⟨rfl, rfl⟩
                      go_wp2_with fail
                      (refine hq.out _ _ (fun W : World => W.cell? (ad.add i) = some (.int .u64 b)) (fun _ h => h) hHeld ?_; clear hq K; (try simp only [Act.put, List.setIfInBounds_toArray, List.set_cons_zero, List.set_cons_succ]))
                      repeat (refine lex_take (v := ?_) rfl (by rfl) (by assumption) ?_ ?_; rotate_left 1; (focus (intro w hSw; (try dsimp only at hSw); go_simp; (try with_reducible rfl))); (try simp only [Act.put, List.setIfInBounds_toArray, List.set_cons_zero, List.set_cons_succ]))
                      (refine lex_call rfl (by rfl) (fun K hq => ?_); go_simp)
                      go_at_call 25
                      refine (hS1.out _ q0.out).mono ?_; rintro e w9 ⟨rfl, rfl⟩
                      go_wp2_with fail
                      (refine hq.out _ _ (fun W : World => W.cell? (ad.add i) = some (.int .u64 b)) (fun _ h => h) hHeld ?_; clear hq K; (try simp only [Act.put, List.setIfInBounds_toArray, List.set_cons_zero, List.set_cons_succ]))
                      (refine lex_call rfl (by rfl) (fun K hq => ?_); go_simp)
                      go_at_call 25
                      refine (hS2.out _ q0.out).mono ?_; rintro e w9 ⟨rfl, rfl⟩
                      go_wp2_with fail
                      (refine hq.out _ _ (fun W : World => W.cell? (ad.add i) = some (.int .u64 b)) (fun _ h => h) hHeld ?_; clear hq K; (try simp only [Act.put, List.setIfInBounds_toArray, List.set_cons_zero, List.set_cons_succ]))
                      repeat (refine lex_take (v := ?_) rfl (by rfl) (by assumption) ?_ ?_; rotate_left 1; (focus (intro w hSw; (try dsimp only at hSw); go_simp; (try with_reducible rfl))); (try simp only [Act.put, List.setIfInBounds_toArray, List.set_cons_zero, List.set_cons_succ]))
                      have hHeld2 := hHeld
                      clear hHeld
                      refine lex_end ?_
                      refine hR.out _ _ ?_
                      clear hR R
                      go_wp2_with fail
                      go_roundw
                      case rel => exact ⟨i + 1, by have := hTs.out; omega, by go_num, by rw [heq.out], q0.out⟩
                      case measure => simp [intOf]; omega
                    · have d4 : decide (((0 : Nat) : Int) < (m : Int)) = false := by simpa using hkm
                      go_upto_region 21 with fail
                      refine wp_region_lex [(true, 0), (true, 1), (true, 2), (true, 3), (true, 4), (true, 5), (false, 6), (true, 7), (true, 8), (true, 9), (true, 10), (true, 11), (true, 12), (true, 13), (true, 15), (true, 16), (true, 17), (true, 18), (true, 19), (false, 14), (false, 20), (true, 21), (true, 22)] (fun W : World => W.cell? (ad.add i) = some (.int .u64 b)) (by kernel_rfl) (by kernel_rfl) (fun R hR => ?_)
                      have hHeld : (fun W : World => W.cell? (ad.add i) = some (.int .u64 b)) wr.drew := hrow.out
                      have q0 := qB.out.drew
                      replace q0 := Lib.hid q0
                      clear qB
                      repeat (refine lex_take (v := ?_) rfl (by rfl) (by assumption) ?_ ?_; rotate_left 1; (focus (intro w hSw; (try dsimp only at hSw); go_simp; (try with_reducible rfl))); (try simp only [Act.put, List.setIfInBounds_toArray, List.set_cons_zero, List.set_cons_succ]))
                      (refine lex_call rfl (by rfl) (fun K hq => ?_); go_simp)
                      go_at_call 25
                      refine (hS2.out _ q0.out).mono ?_; rintro e w9 ⟨rfl, rfl⟩
                      go_wp2_with fail
                      (refine hq.out _ _ (fun W : World => W.cell? (ad.add i) = some (.int .u64 b)) (fun _ h => h) hHeld ?_; clear hq K; (try simp only [Act.put, List.setIfInBounds_toArray, List.set_cons_zero, List.set_cons_succ]))
                      repeat (first | (refine lex_take (v := ?_) rfl (by rfl) (by assumption) ?_ ?_; rotate_left 1; (focus (intro w hSw; (try dsimp only at hSw); go_simp; (try with_reducible rfl))); (try simp only [Act.put, List.setIfInBounds_toArray, List.set_cons_zero, List.set_cons_succ])) | (refine lex_pass rfl (by rfl) (by assumption) ?_; (try simp only [Act.put, List.setIfInBounds_toArray, List.set_cons_zero, List.set_cons_succ])))
                      have hHeld2 := hHeld
                      clear hHeld
                      refine lex_end ?_
                      refine hR.out _ _ ?_
                      clear hR R
                      go_wp2_with fail
                      go_roundw
                      case rel => exact ⟨i + 1, by have := hTs.out; omega, by go_num, by rw [heq.out], q0.out⟩
                      case measure => simp [intOf]; omega
              · have d3 : decide ((i : Int) < (nT : Int)) = false := by simpa using hli
                have hin : i = T.sorted.length := by have := hTs.out; omega
                subst hin
                rw [List.take_length]
                obtain ⟨n, hn⟩ : ∃ n, c0 + dsum T U T.sorted = n := ⟨_, rfl⟩
                rw [hn]
                have hnn := htt.out
                rw [hn] at hnn
                obtain ⟨c0', c1', c2', c3', c4', c5'⟩ := hcf.out _ qA.below
                have hcase : (n = 0) ∨ (n = 1 ∧ lk = false) := by
                  rcases (by omega : n = 0 ∨ n = 1) with h | h
                  · exact .inl h
                  · refine .inr ⟨h, ?_⟩
                    cases hlk : lk with
                    | false => rfl
                    | true => have := hnn.2 hlk; omega
                replace qA := Lib.hid qA
                replace hnn := Lib.hid hnn
                replace hn := Lib.hid hn
                clear htt
                rcases hcase with rfl | ⟨rfl, rfl⟩
                · cases lk
                  all_goals
                    go_wp2_with fail
                    refine (hLo.out _).mono ?_; rintro e wC ⟨rfl, hbC⟩
                    go_wp2_with fail
                    refine (awake18 _).mono ?_; rintro e wD ⟨rfl, hbD⟩
                    go_wp2_with fail
                    go_ret
                    exact ⟨rfl, Below.next_ (Below.next_ (hz2.out.trans (qA.out.below.mono hz2.out.size)) hbC) hbD⟩
                · go_wp2_with fail
                  refine (hLo.out _).mono ?_; rintro e wC ⟨rfl, hbC⟩
                  go_wp2_with fail
                  refine (awake18 _).mono ?_; rintro e wD ⟨rfl, hbD⟩
                  go_wp2_with fail
                  go_ret
                  exact ⟨rfl, Below.next_ (Below.next_ (hz2.out.trans (qA.out.below.mono hz2.out.size)) hbC) hbD⟩
end Go.Proofs.YtjoaifdjmdihoaaDoor
