import Derived.Test.YtjoaifdjmdihoaaDoorBlocks
import Derived.Lib.SliceRun
import Derived.Test.YtjoaifdjmdihoaaDoorLexH
import Derived.BigRegion
/-
  slices.Clone of a row of words. No condition.
-/
namespace Go.Proofs.YtjoaifdjmdihoaaDoor
set_option linter.unusedVariables false
open Go.ChangeShapes Go.WideShapes Go.ChangeAt Go.RowKit
open Go.ChangeMaps (setBlock)

theorem own_blk {w : World} {base n : Nat} {v : Value} {xs : List Value} (h : w.ownsRow base 32 1 v n xs) (hv : v.ownBlock ≠ none) :
    ∃ g cap ys, v = .slice (some ⟨g, 0, none⟩) n cap ∧ base ≤ g ∧ g < w.heap.size ∧ n ≤ cap ∧ cap ≤ maxLen ∧ Blk w g 32 (xs ++ ys).toArray := by
  rcases h.2 with ⟨rfl, _⟩ | ⟨g, cap, cur, rfl, hb, hg, h1, h2, h3, h4⟩
  · exact absurd rfl hv
  · refine ⟨g, cap, cur.toList.drop (n * 1), rfl, hb, (Array.getElem?_eq_some_iff.1 hg).1, h1, h2, ?_⟩
    rw [← h4, List.take_append_drop]
    exact hg
set_option maxRecDepth 100000 in
theorem clone_any {w : World} (A : Addr) (n c : Nat) (xs : List Int) (hn : n ≤ 256) (hr : Reads w w.heap.size 1 (some A) n (xs.map (Value.int .u64))) :
    Calls Tryd.prog 47 #[.slice (some A) n c] w fun e w' => ∃ g cap ys, e = .returned (.slice (some ⟨g, 0, none⟩) n cap) ∧ w.heap.size ≤ g ∧ g < w'.heap.size ∧ n ≤ cap ∧ cap ≤ maxLen ∧ Blk w' g 32 (xs.map (Value.int .u64) ++ ys).toArray ∧ Below w.heap.size w w' := by
  obtain ⟨i0, hi, hz0', hz1', hz2'⟩ : ∃ i, Tryd.prog.info? 32 = some i ∧ i.zero = some (.int .u64 0) ∧ i.size = 1 ∧ i.bytes = 8 := ⟨_, rfl, rfl, rfl, rfl⟩
  have hown : (w.alloc (.cells #[] 32)).ownsRow w.heap.size 32 1 (.slice (some ⟨w.heap.size, 0, none⟩) 0 0) 0 [] :=
    ⟨rfl, .inr ⟨w.heap.size, 0, #[], rfl, Nat.le_refl _, Blk.new w 32 #[], Nat.le_refl _, Nat.zero_le _, rfl, rfl⟩⟩
  have hb1 : Below w.heap.size w (w.alloc (.cells #[] 32)) := (Below.refl _ _).alloc (Nat.le_refl _) _
  have hr1 := hr.below hb1
  clear hr
  replace hr1 := Lib.hid hr1
  replace hown := Lib.hid hown
  replace hb1 := Lib.hid hb1
  have hnil : ∀ W, (binOp .eql 43 (.slice (some A) n c) (.slice none 0 0)).run Tryd.prog W = .ok (.bool false) W := fun W => by have := Lib.run_eql_slice_nil (P := Tryd.prog) W _ _ (some A) n c 0 0 Tryd.underlying43; exact this
  go_enter Tryd.func47, Tryd.ntmps47
  go_wp2_with (at_builtin; go_loud (refine wpList_append_any _ rfl _ _ 43 rfl w.heap.size 32 i0 (.int .u64 0) 1 8 Tryd.underlying43 hi hz0' hz1' hz2' rfl (by decide) (.slice (some ⟨w.heap.size, 0, none⟩) 0 0) 0 [] rfl hown.out w.heap.size (some A) n c (xs.map (Value.int .u64)) rfl hr1.out (by simp [Value.oneCell']) (by unfold maxLen; omega) (by omega) (by simp) ?_; intro v' w6 hown6 hgrow hloc; have hb6 := row_below (Nat.le_refl _) hb1.out hown.out hgrow; have hv6 : v'.ownBlock ≠ none := (by rcases hloc with h | h <;> rw [h] <;> simp [Value.ownBlock]); replace hown6 := Lib.hid hown6; clear hgrow hloc; replace hb6 := Lib.hid hb6; replace hv6 := Lib.hid hv6))
  go_wp2_with fail
  go_ret
  have h6 := hown6.out
  rw [Nat.zero_add, List.nil_append] at h6
  obtain ⟨g, cap, ys, rfl, h1, h2, h3, h4, h5⟩ := own_blk h6 hv6.out
  exact ⟨g, cap, ys, rfl, h1, h2, h3, h4, h5, hb6.out⟩
end Go.Proofs.YtjoaifdjmdihoaaDoor

/-
  The heap's method Copy: another heap with the same blocks, in whichever order. No condition.
-/
namespace Go.Proofs.YtjoaifdjmdihoaaDoor
set_option linter.unusedVariables false
open Go.ChangeShapes Go.WideShapes Go.ChangeAt Go.RowKit
open Go.ChangeMaps (setBlock)

/-- What a block holds, wherever its cells lie. -/
def PBlk.bare3 (b : PBlk) : Int × List Int × ByteArray := (b.key, b.cells, b.text)
/-- Two heaps with the same blocks. -/
structure Alike (S T : PHeap) : Prop where
  blocks : (S.blocks.map PBlk.bare3).Perm (T.blocks.map PBlk.bare3)
  last : S.last = T.last
  locked : S.locked = T.locked
  faults : S.faults = T.faults
theorem HeapIn.the_map {w : World} {hb m : Nat} {S : PHeap} {F : Nat → Prop} (h : HeapIn w hb S F) (hB : Blk w hb 58 (heapCells (some m) S)) : F m ∧ MapIs w m S.ents := by
  obtain ⟨mo, hm1, hm2⟩ := h.m
  have e : mo = some m := by
    unfold Blk at hm1 hB
    rw [hB] at hm1
    simp only [heapCells, Option.some.injEq, Obj.cells.injEq, Array.mk.injEq, List.cons.injEq, Value.map.injEq] at hm1
    exact hm1.1.1.symm
  subst e
  rcases hm2 with ⟨he, _⟩ | ⟨m', he, h1, h2⟩
  · cases he
  · cases he; exact ⟨h1, h2⟩
/-- The head of a heap without a block is written anew. -/
theorem HeapIn.refit {w w' : World} {c m : Nat} {G : Nat → Prop} {last faults : Int} {locked : Bool} (h : HeapIn w c ⟨[], 0, false, 0⟩ G) (hB0 : Blk w c 58 (heapCells (some m) ⟨[], 0, false, 0⟩)) (hc : Chg (fun k => k = c) w w')
    (hB : Blk w' c 58 (heapCells (some m) ⟨[], last, locked, faults⟩)) (hl : 0 ≤ last) (hf : 0 ≤ faults) : HeapIn w' c ⟨[], last, locked, faults⟩ (nw G w w') := by
  obtain ⟨h1, h2⟩ := h.the_map hB0
  exact ⟨h.own.nw hc.size, .inl h.hF, ⟨some m, hB, .inr ⟨m, rfl, .inl h1, h2.keep (hc.block _ h2.lt (h2.ne_blk hB0))⟩⟩, (fun b hb => by cases hb), (fun b hb => by cases hb), List.nodup_nil, (fun b hb => by cases hb), hl, hf⟩
/-- A block more, which has its key already. -/
theorem HeapIn.added {w w' : World} {hb m : Nat} {S : PHeap} {F : Nat → Prop} (h : HeapIn w hb S F) (b : PBlk) (hB : Blk w hb 58 (heapCells (some m) S)) (hc : Chg (fun k => k = m) w w') (hk : ∀ y ∈ S.blocks, y.key ≠ b.key)
    (hsp : 1 ≤ b.key ∧ b.key ≤ S.last ∧ b.cells.length ≤ 256 ∧ ∀ z ∈ b.cells, 0 ≤ z ∧ z ≤ 18446744073709551615) (hM : MapIs w' m (PHeap.ents { S with blocks := S.blocks ++ [b] }))
    (hR : w.heap.size ≤ b.pos ∧ b.pos < w'.heap.size ∧ ∃ xs : List Value, Blk w' b.pos 32 (b.cells.map (Value.int .u64) ++ xs).toArray) :
    HeapIn w' hb { S with blocks := S.blocks ++ [b] } (nw F w w') ∧ Blk w' hb 58 (heapCells (some m) { S with blocks := S.blocks ++ [b] }) := by
  obtain ⟨hFm, hM0⟩ := h.the_map hB
  have hB' : Blk w' hb 58 (heapCells (some m) S) := hB.keep (hc.block _ (h.own _ h.hF) fun e => hM0.ne_blk hB e.symm)
  refine ⟨⟨h.own.nw hc.size, .inl h.hF, ⟨some m, hB', .inr ⟨m, rfl, .inl hFm, hM⟩⟩, fun y hy hne => ?_, ?_, ?_, fun y hy => ?_, h.last0, h.faults0⟩, hB'⟩
  · rcases List.mem_append.1 hy with h1 | h1
    · obtain ⟨r1, xs, r2⟩ := h.rows y h1 hne
      exact ⟨.inl r1, xs, r2.keep (hc.block _ (h.own _ r1) fun e => hM0.ne_blk r2 e.symm)⟩
    · simp only [List.mem_singleton] at h1
      subst h1
      exact ⟨.inr ⟨hR.1, hR.2.1⟩, hR.2.2⟩
  · intro x hx y hy hnx hny he
    rcases List.mem_append.1 hx with h1 | h1 <;> rcases List.mem_append.1 hy with h2 | h2
    · exact h.apart x h1 y h2 hnx hny he
    · simp only [List.mem_singleton] at h2
      subst h2
      have := h.own _ (h.rows x h1 hnx).1
      have := hR.1
      omega
    · simp only [List.mem_singleton] at h1
      subst h1
      have := h.own _ (h.rows y h2 hny).1
      have := hR.1
      omega
    · simp only [List.mem_singleton] at h1 h2
      rw [h1, h2]
  · rw [List.map_append, List.nodup_append]
    refine ⟨h.keys, by simp, fun a ha b' hb' => ?_⟩
    simp only [List.map_cons, List.map_nil, List.mem_singleton] at hb'
    subst hb'
    obtain ⟨y, hy, rfl⟩ := List.mem_map.1 ha
    exact hk y hy
  · rcases List.mem_append.1 hy with h1 | h1
    · exact h.span y h1
    · simp only [List.mem_singleton] at h1
      subst h1
      exact hsp
theorem genW {α : World → Prop} (Pw : World → Prop) {W : World} (h : Pw W) (k : ∀ W', Pw W' → α W') : α W := k W h
/-- Between two rounds. -/
structure CopyRel (w : World) (c m m1 r : Nat) (S : PHeap) (wr : World) : Prop where
  ex : ∃ (dn src L : List PBlk) (left : List (Int × Value)) (G : Nat → Prop), HeapIn wr c ⟨dn, S.last, S.locked, S.faults⟩ G ∧ Blk wr c 58 (heapCells (some m1) ⟨dn, S.last, S.locked, S.faults⟩) ∧ Iter wr m r S.ents left ∧
    left.Perm (L.map fun b => (b.key, b.val)) ∧ (src ++ L).Perm S.blocks ∧ dn.map PBlk.bare3 = src.map PBlk.bare3 ∧ (∀ k, G k → w.heap.size ≤ k ∧ k ≠ r) ∧ w.heap.size ≤ r
  below : Below w.heap.size w wr
theorem HeapIn.reads {w : World} {hb : Nat} {S : PHeap} {F : Nat → Prop} (h : HeapIn w hb S F) {b : PBlk} (hb' : b ∈ S.blocks) : Reads w w.heap.size 1 (some ⟨b.pos, 0, none⟩) b.cells.length (b.cells.map (Value.int .u64)) := by
  refine ⟨by simp, fun hn => ?_⟩
  obtain ⟨r1, xs, r2⟩ := h.rows b hb' (fun e => by rw [e] at hn; simp at hn)
  refine ⟨_, rfl, h.own _ r1, fun j u hu => ?_⟩
  have e : (⟨b.pos, 0, none⟩ : Addr).add j = ⟨b.pos, j, none⟩ := by unfold Addr.add; split <;> simp_all
  rw [e, r2.cell j]
  have hj := (List.getElem?_eq_some_iff.1 hu).1
  rw [List.getElem?_toArray, List.getElem?_append_left hj]
  exact hu
/-- The next block that is copied. -/
theorem copy_pick {S : PHeap} {left left' : List (Int × Value)} {src L : List PBlk} {x : Int} {v : Value} (hl : left.Perm (L.map fun b => (b.key, b.val))) (hp : (src ++ L).Perm S.blocks) (hn : left.Perm ((x, v) :: left')) :
    ∃ b L', b ∈ S.blocks ∧ x = b.key ∧ v = b.val ∧ left'.Perm (L'.map fun b => (b.key, b.val)) ∧ (src ++ [b] ++ L').Perm S.blocks := by
  have hm : (x, v) ∈ L.map fun b => (b.key, b.val) := (hn.symm.trans hl).subset (by simp)
  obtain ⟨b, hbL, he⟩ := List.mem_map.1 hm
  obtain ⟨L1, L2, rfl⟩ := List.append_of_mem hbL
  injection he with e1 e2
  refine ⟨b, L1 ++ L2, hp.subset (by simp), e1.symm, e2.symm, ?_, ?_⟩
  · have h1 : ((x, v) :: left').Perm ((x, v) :: (L1 ++ L2).map fun b => (b.key, b.val)) := by
      refine hn.symm.trans (hl.trans ?_)
      rw [← e1, ← e2]
      rw [List.map_append, List.map_cons, List.map_append]
      exact List.perm_middle
    exact h1.cons_inv
  · refine List.Perm.trans ?_ hp
    rw [List.append_assoc]
    refine List.Perm.append_left src ?_
    rw [List.singleton_append]
    exact List.perm_middle.symm
set_option maxRecDepth 100000 in
set_option maxHeartbeats 2000000 in
theorem copy_any {w : World} {hb : Nat} {S : PHeap} {F : Nat → Prop} (h : HeapIn w hb S F) :
    Calls Tryd.prog 24 #[.pointer (some ⟨hb, 0, none⟩)] w fun e w' => ∃ c T G, e = .returned (.pointer (some ⟨c, 0, none⟩)) ∧ HeapIn w' c T G ∧ Alike T S ∧ (∀ k, G k → w.heap.size ≤ k) ∧ Below w.heap.size w w' := by
  obtain ⟨mo, hm1, hm2⟩ := h.m
  rcases hm2 with ⟨rfl, hbl, hla⟩ | ⟨m, rfl, hFm, hmap⟩
  · exact (copy_empty h hbl).mono fun e w' ⟨c, h1, h2, h3, h4⟩ => ⟨c, S, _, h1, h3, ⟨.refl _, rfl, rfl, rfl⟩, fun k hk => hk.resolve_left id |>.1, h4⟩
  · have hl0 := h.last0
    have hf0 := h.faults0
    have hlt := h.own _ h.hF
    have hmlt := hmap.lt
    replace hl0 := Lib.hid hl0
    replace hf0 := Lib.hid hf0
    replace h := Lib.hid h
    replace hFm := Lib.hid hFm
    replace hmap := Lib.hid hmap
    go_enter Tryd.func24, Tryd.ntmps24
    go_wp2_with fail
    refine (new_any _).mono ?_; rintro e w1 ⟨c, rfl, hc1, hn1, hb1, m1, hn2⟩
    have hclt := hn1.own _ hn1.hF
    have hcne : hb ≠ c := by omega
    have hB1 := hm1.below hb1 hlt
    have a0 : w1.cell? ⟨hb, 0, none⟩ = some (.map (some m)) := hB1.cell 0
    have a1 : w1.cell? ⟨hb, 1, none⟩ = some (.int .u64 S.last) := hB1.cell 1
    have a2 : w1.cell? ⟨hb, 2, none⟩ = some (.bool S.locked) := hB1.cell 2
    have a3 : w1.cell? ⟨hb, 3, none⟩ = some (.int .i64 S.faults) := hB1.cell 3
    have b1 : w1.cell? ⟨c, 1, none⟩ = some (.int .u64 0) := hn2.cell 1
    have b2 : w1.cell? ⟨c, 2, none⟩ = some (.bool false) := hn2.cell 2
    have b3 : w1.cell? ⟨c, 3, none⟩ = some (.int .i64 0) := hn2.cell 3
    have g1 := hn2.frozen 1
    have g2 := hn2.frozen 2
    have g3 := hn2.frozen 3
    go_wp2_with fail
    go_region
    have hc : Chg (fun k => k = c) w1 ((((w1.setCell ⟨c, 1, none⟩ (.int .u64 S.last)).setCell ⟨c, 2, none⟩ (.bool S.locked)).setCell ⟨c, 3, none⟩ (.int .i64 S.faults)).drew) := by
      (repeat first | exact Chg.refl _ _ | assumption | refine Chg.drew ?_ | refine Chg.drewN ?_ _ | refine Chg.alloc ?_ _ | refine Chg.setCell ?_ (by first | (left; rfl) | (left; assumption) | (right; exact Nat.le_refl _) | (right; simp; done) | (right; simp; omega)) _ | refine Chg.setBlock ?_ (by first | (left; rfl) | (left; assumption) | (right; exact Nat.le_refl _) | (right; simp; done) | (right; simp; omega)) _)
    have hB : Blk ((((w1.setCell ⟨c, 1, none⟩ (.int .u64 S.last)).setCell ⟨c, 2, none⟩ (.bool S.locked)).setCell ⟨c, 3, none⟩ (.int .i64 S.faults)).drew) c 58 (heapCells (some m1) ⟨[], S.last, S.locked, S.faults⟩) := by
      exact (Blk.drew (Blk.set_ (Blk.set_ (Blk.set_ hn2 1 (.int .u64 S.last)) 2 (.bool S.locked)) 3 (.int .i64 S.faults))).eq_cs rfl
    have hI := hn1.refit hn2 hc hB hl0.out hf0.out
    have hbc : Below w.heap.size w ((((w1.setCell ⟨c, 1, none⟩ (.int .u64 S.last)).setCell ⟨c, 2, none⟩ (.bool S.locked)).setCell ⟨c, 3, none⟩ (.int .i64 S.faults)).drew) := hb1.trans (Chg.below hc (fun i hi => by omega) hb1.size)
    have hG : ∀ k, nw (nw (fun _ => False) w w1) w1 ((((w1.setCell ⟨c, 1, none⟩ (.int .u64 S.last)).setCell ⟨c, 2, none⟩ (.bool S.locked)).setCell ⟨c, 3, none⟩ (.int .i64 S.faults)).drew) k → w.heap.size ≤ k := fun k hk => by
      have := hb1.size
      rcases hk with (hk | hk) | hk
      · exact hk.elim
      · exact hk.1
      · omega
    clear hn1 hn2 hc b1 b2 b3 g1 g2 g3 a0 a1 a2 a3 hB1 hclt hb1
    refine genW (α := fun W' => Exit.then _ _ _ _ W') (fun W' => ∃ G0, HeapIn W' c ⟨[], S.last, S.locked, S.faults⟩ G0 ∧ Blk W' c 58 (heapCells (some m1) ⟨[], S.last, S.locked, S.faults⟩) ∧ Below w.heap.size w W' ∧ ∀ k, G0 k → w.heap.size ≤ k) ⟨_, hI, hB, hbc, hG⟩ ?_
    clear hI hB hbc hG w1
    rintro w2 ⟨G0, hI, hB, hb2, hG⟩
    have a0 : w2.cell? ⟨hb, 0, none⟩ = some (.map (some m)) := (hm1.below hb2 hlt).cell 0
    have hmap2 := hmap.out.keep (hb2.block m hmlt)
    have hrlt := hb2.size
    replace hmap2 := Lib.hid hmap2
    replace hI := Lib.hid hI
    replace hB := Lib.hid hB
    replace hb2 := Lib.hid hb2
    replace hG := Lib.hid hG
    replace hm1 := Lib.hid hm1
    go_wp2_with (first | (at_range; refine wpList_range_iter _ rfl _ 56 32 75 rfl Tryd.underlying56 m S.ents rfl hmap2.out ?_; intro w3 hit3 hb3 hs3; replace hit3 := Lib.hid hit3; replace hb3 := Lib.hid hb3; go_frame))
    go_loopw [4] (fun _ wr => CopyRel w c m m1 w2.heap.size S wr) (fun _ wr => wr.rangeLeft m w2.heap.size)
    case atStart => exact ⟨⟨[], [], S.blocks, S.ents, G0, hI.out.below hb3.out, hB.out.below hb3.out (hI.out.own _ hI.out.hF), hit3.out, .refl _, .refl _, rfl, fun k hk => ⟨hG.out k hk, by have := hI.out.own k hk; omega⟩, hrlt⟩, Below.next_ hb2.out hb3.out⟩
    case round =>
      clear hit3 hb3 hI hB hb2 hG a0 hmap2
      obtain ⟨⟨dn, src, L, left, G, hH, hB, hit, hle, hpe, hba, hG, hr0⟩, hbl⟩ := hrel
      have hmeas := iter_left hit
      replace hH := Lib.hid hH
      replace hB := Lib.hid hB
      replace hit := Lib.hid hit
      replace hle := Lib.hid hle
      replace hpe := Lib.hid hpe
      replace hba := Lib.hid hba
      replace hG := Lib.hid hG
      replace hbl := Lib.hid hbl
      go_wp2_with (first | (at_next; refine wpList_next_iter _ rfl _ rfl m w2.heap.size S.ents left rfl hit.out ?_ ?_))
      · intro hl0
        subst hl0
        replace hmeas := Lib.hid hmeas
        go_wp2_with fail
        go_ret
        have hL : L = [] := by
          have := hle.out.length_eq
          simpa using this.symm
        have hps : src.Perm S.blocks := by simpa [hL] using hpe.out
        exact ⟨c, _, G, rfl, hH.out, ⟨by rw [hba.out]; exact hps.map _, rfl, rfl, rfl⟩, fun k hk => (hG.out k hk).1, hbl.out⟩
      · intro x vx left' w5 hpm hit5 hch5 hsz5 hen5
        obtain ⟨b, L', hbS, rfl, rfl, hle', hpe'⟩ := copy_pick hle.out hpe.out hpm
        have hH5 := hH.out.keep (Nat.le_of_eq hsz5.symm) (fun k hk => hch5.block k (hH.out.own k hk) (hG.out k hk).2)
        have hcr : c ≠ w2.heap.size := (hG.out _ hH.out.hF).2
        have hB5 := hB.out.keep (hch5.block c (hH.out.own _ hH.out.hF) hcr)
        have hbl5 : Below w.heap.size w w5 := hbl.out.trans (hch5.below (fun i hi => by omega) hbl.out.size)
        have hwz := hbl5.size
        clear hH hB hit hle hpe hch5
        simp only [PBlk.val] at hen5
        have hn5 : ∀ y ∈ dn, y.key ≠ b.key := by
          intro y hy he
          have h1 : y.key ∈ src.map (·.key) := by
            have e : dn.map (·.key) = src.map (·.key) := by
              have := congrArg (List.map (·.1)) hba.out
              simpa [List.map_map, Function.comp_def, PBlk.bare3] using this
            rw [← e]
            exact List.mem_map.2 ⟨y, hy, rfl⟩
          have h2 := (hpe'.map (·.key)).nodup_iff.2 h.out.keys
          rw [List.map_append, List.map_append, List.append_assoc, List.nodup_append] at h2
          exact h2.2.2 _ h1 b.key (by simp) (he ▸ rfl)
        have hsp5 := h.out.span b hbS
        have hrd5 := (h.out.reads hbS).below hbl5
        have hclt := hH5.own _ hH5.hF
        replace hH5 := Lib.hid hH5
        replace hB5 := Lib.hid hB5
        replace hbl5 := Lib.hid hbl5
        replace hit5 := Lib.hid hit5
        replace hpm := Lib.hid hpm
        replace hsz5 := Lib.hid hsz5
        replace hle' := Lib.hid hle'
        replace hpe' := Lib.hid hpe'
        replace hn5 := Lib.hid hn5
        replace hsp5 := Lib.hid hsp5
        replace hrd5 := Lib.hid hrd5
        replace hbS := Lib.hid hbS
        replace hmeas := Lib.hid hmeas
        go_upto_region 8 with fail
        refine genW (α := fun W' => Code.wp _ _ _ _ W') (fun W' => Blk W' w5.heap.size 75 #[.slice (some ⟨b.pos, 0, none⟩) b.cells.length b.cap, .string b.text] ∧ Below w5.heap.size w5 W') ⟨?_, ?_⟩ ?_
        · exact Blk.new w5 75 _
        · (repeat first | exact Below.refl _ _ | assumption | refine Below.drew ?_ | refine below_drewN ?_ _ | refine Below.more_ ?_ _ | refine Below.setCell ?_ (by first | exact Nat.le_refl _ | (simp; done) | (simp; omega)) _)
        rintro w6 ⟨g6, hb6⟩
        have hs6 := hb6.size
        have hg6 : w5.heap.size < w6.heap.size := g6.lt
        have c0 : w6.cell? ⟨c, 0, none⟩ = some (.map (some m1)) := (hB5.out.below hb6 hclt).cell 0
        have hH6 := hH5.out.below hb6
        have hB6 := hB5.out.below hb6 hclt
        have hit6 := hit5.out.keep (hb6.block m hit5.out.lt.2.1) (hb6.block _ hit5.out.lt.1)
        have hrd6 : Reads w6 w6.heap.size 1 (some ⟨b.pos, 0, none⟩) b.cells.length (b.cells.map (Value.int .u64)) := ((hrd5.out.below (hb6.mono hbl5.out.size)).more (Nat.le_trans hbl5.out.size hs6))
        have hbl6 := Below.next_ hbl5.out hb6
        have hGr : ∀ k, G k → k < w5.heap.size := fun k hk => hH5.out.own k hk
        replace hGr := Lib.hid hGr
        replace hH6 := Lib.hid hH6
        replace hB6 := Lib.hid hB6
        replace hit6 := Lib.hid hit6
        replace hrd6 := Lib.hid hrd6
        replace hbl6 := Lib.hid hbl6
        clear hH5 hB5 hit5 hbl5 hb6 hrd5
        refine wp_region_lex [(true, 0), (true, 1), (true, 2), (true, 3), (true, 4), (true, 5), (true, 6), (true, 8), (true, 9), (false, 7), (true, 10), (false, 11)] (fun W : World => W.cell? ⟨c, 0, none⟩ = some (.map (some m1)) ∧ W.cell? ⟨w5.heap.size, 0, none⟩ = some (.slice (some ⟨b.pos, 0, none⟩) b.cells.length b.cap) ∧ W.cell? ⟨w5.heap.size, 1, none⟩ = some (.string b.text)) (by kernel_rfl) (by kernel_rfl) (fun R hR => ?_)
        have hHeld : (fun W : World => W.cell? ⟨c, 0, none⟩ = some (.map (some m1)) ∧ W.cell? ⟨w5.heap.size, 0, none⟩ = some (.slice (some ⟨b.pos, 0, none⟩) b.cells.length b.cap) ∧ W.cell? ⟨w5.heap.size, 1, none⟩ = some (.string b.text)) w6.drew := ⟨c0, g6.cell 0, g6.cell 1⟩
        repeat (refine lex_take (v := ?_) rfl (by rfl) (by assumption) ?_ ?_; rotate_left 1; (focus (intro w hSw; (try dsimp only at hSw); go_simp; (try with_reducible rfl))); (try simp only [Act.put, List.setIfInBounds_toArray, List.set_cons_zero, List.set_cons_succ]))
        (refine lex_call rfl (by rfl) (fun K hq => ?_); go_simp)
        go_at_call 47
        refine (clone_any (w := w6.drew) _ _ _ b.cells hsp5.out.2.2.1 hrd6.out).mono ?_; rintro e w7 ⟨g, cap, ys, rfl, h1, h2, h3, h4, h5, hb7d⟩
        have hb7 : Below w6.heap.size w6 w7 := ⟨hb7d.os, hb7d.tape, hb7d.output, hb7d.size, hb7d.block⟩
        replace h1 : w6.heap.size ≤ g := h1
        clear hb7d
        have hs7 : w6.heap.size ≤ w7.heap.size := hb7.size
        have hHeld' : (fun W : World => W.cell? ⟨c, 0, none⟩ = some (.map (some m1)) ∧ W.cell? ⟨w5.heap.size, 0, none⟩ = some (.slice (some ⟨b.pos, 0, none⟩) b.cells.length b.cap) ∧ W.cell? ⟨w5.heap.size, 1, none⟩ = some (.string b.text)) w7 := ⟨(hB6.out.below hb7 (Nat.lt_of_lt_of_le hclt (Nat.le_trans (by omega) (Nat.le_refl _)))).cell 0, (g6.below hb7 hg6).cell 0, (g6.below hb7 hg6).cell 1⟩
        clear hHeld
        have hHeld := hHeld'
        clear hHeld'
        have hpos : PBlk.val ⟨b.key, rowAt g (cap - b.cells.length), b.cells, b.text⟩ = .agg #[.slice (some ⟨g, 0, none⟩) b.cells.length cap, .string b.text] := by
          unfold PBlk.val
          rw [(pos_rowAt _ g _ (by unfold maxLen at h4; omega) _ _).1, (pos_rowAt _ g _ (by unfold maxLen at h4; omega) _ _).2]
          show Value.agg #[.slice (some ⟨g, 0, none⟩) b.cells.length (b.cells.length + (cap - b.cells.length)), .string b.text] = _
          rw [Nat.add_sub_cancel' h3]
        have hpo : (⟨b.key, rowAt g (cap - b.cells.length), b.cells, b.text⟩ : PBlk).pos = g := (pos_rowAt _ g _ (by unfold maxLen at h4; omega) _ _).1
        obtain ⟨hFm1, hM6⟩ := hH6.out.the_map hB6.out
        have hM7 := hM6.keep (hb7.block _ hM6.lt)
        have hlk : look (PHeap.ents ⟨dn, S.last, S.locked, S.faults⟩) b.key = none := by
          rw [look_ents]
          have : PHeap.find ⟨dn, S.last, S.locked, S.faults⟩ b.key = none := by
            unfold PHeap.find
            rw [List.find?_eq_none]
            intro y hy
            have := hn5.out y hy
            simpa using this
          rw [this]
          rfl
        obtain ⟨ob, hpt, hmp⟩ := run_put (P := Tryd.prog) w7 56 32 75 Tryd.underlying56 Tryd.underlying32 m1 _ hM7 b.key hlk (PBlk.val ⟨b.key, rowAt g (cap - b.cells.length), b.cells, b.text⟩)
        rw [hpos] at hpt
        have hpt7 := hpt w7 rfl
        have hM8 := hmp w7 hM7.lt
        have hch8 : Chg (fun k => k = m1) w6 (setBlock w7 m1 ob) := (Chg.of_below hb7 (fun k => k = m1)).setBlock (.inl rfl) _
        have hnew := hH6.out.added (w' := setBlock w7 m1 ob) ⟨b.key, rowAt g (cap - b.cells.length), b.cells, b.text⟩ hB6.out hch8 hn5.out hsp5.out (by simpa [PHeap.ents] using hM8) (by
          rw [hpo]
          refine ⟨h1, by rw [size_setBlock]; exact h2, ys, Blk.setb h5 (fun e => ?_) _⟩
          have := hM6.lt
          omega)
        have hm1w := (hG.out _ hFm1)
        have hbl8 : Below w.heap.size w (setBlock w7 m1 ob) := hbl6.out.trans (hch8.below (fun i hi => by omega) hbl6.out.size)
        have hit8 : Iter (setBlock w7 m1 ob) m w2.heap.size S.ents left' := hit6.out.keep (hch8.block m hit6.out.lt.2.1 (fun e => by have := hm1w.1; omega)) (hch8.block _ hit6.out.lt.1 (fun e => hm1w.2 e.symm))
        have hmc : c ≠ m1 := fun e => hM6.ne_blk hB6.out e.symm
        have hmt : w5.heap.size ≠ m1 := fun e => by have := hGr.out _ hFm1; omega
        have hHeld8 : (fun W : World => W.cell? ⟨c, 0, none⟩ = some (.map (some m1)) ∧ W.cell? ⟨w5.heap.size, 0, none⟩ = some (.slice (some ⟨b.pos, 0, none⟩) b.cells.length b.cap) ∧ W.cell? ⟨w5.heap.size, 1, none⟩ = some (.string b.text)) (setBlock w7 m1 ob) := ⟨((hB6.out.below hb7 (Nat.lt_of_lt_of_le hclt hs6)).setb hmc ob).cell 0, ((g6.below hb7 hg6).setb hmt ob).cell 0, ((g6.below hb7 hg6).setb hmt ob).cell 1⟩
        replace hHeld8 := Lib.hid hHeld8
        clear hpt hmp hM7 hM8 hch8 hM6 hlk hpos h5
        replace hnew := Lib.hid hnew
        replace hbl8 := Lib.hid hbl8
        replace hit8 := Lib.hid hit8
        go_wp2_with fail
        (refine hq.out _ _ (fun W : World => W.cell? ⟨c, 0, none⟩ = some (.map (some m1)) ∧ W.cell? ⟨w5.heap.size, 0, none⟩ = some (.slice (some ⟨b.pos, 0, none⟩) b.cells.length b.cap) ∧ W.cell? ⟨w5.heap.size, 1, none⟩ = some (.string b.text)) (fun _ h => h) hHeld ?_; clear hq K; (try simp only [Act.put, List.setIfInBounds_toArray, List.set_cons_zero, List.set_cons_succ]))
        repeat (refine lex_take (v := ?_) rfl (by rfl) (by assumption) ?_ ?_; rotate_left 1; (focus (intro w hSw; (try dsimp only at hSw); go_simp; (try with_reducible rfl))); (try simp only [Act.put, List.setIfInBounds_toArray, List.set_cons_zero, List.set_cons_succ]))
        (refine lex_call rfl (by rfl) (fun K hq => ?_); go_simp)
        clear hHeld
        have hHeld := hHeld8.out
        clear hHeld8
        (refine hq.out _ _ (fun W : World => W.cell? ⟨c, 0, none⟩ = some (.map (some m1)) ∧ W.cell? ⟨w5.heap.size, 0, none⟩ = some (.slice (some ⟨b.pos, 0, none⟩) b.cells.length b.cap) ∧ W.cell? ⟨w5.heap.size, 1, none⟩ = some (.string b.text)) (fun _ h => h) hHeld ?_; clear hq K; (try simp only [Act.put, List.setIfInBounds_toArray, List.set_cons_zero, List.set_cons_succ]))
        refine lex_end ?_
        refine hR.out _ _ ?_
        clear hR R hHeld hpt7
        go_wp2_with fail
        go_roundw
        case rel =>
          refine ⟨⟨dn ++ [⟨b.key, rowAt g (cap - b.cells.length), b.cells, b.text⟩], src ++ [b], L', left', _, hnew.out.1, hnew.out.2, hit8.out, hle'.out, hpe'.out, ?_, fun k hk => ?_, hr0⟩, hbl8.out⟩
          · rw [List.map_append, List.map_append, hba.out]
            rfl
          · rcases hk with hk | hk
            · exact hG.out k hk
            · have := hit6.out.lt.1
              have := hbl6.out.size
              exact ⟨by omega, by omega⟩
        case measure =>
          rw [iter_left hit8.out, hmeas.out, hpm.out.length_eq]
          simp
end Go.Proofs.YtjoaifdjmdihoaaDoor
