import Derived.Maps.RangeWalk
import Derived.Test.YtmlnhjfdhjachaaGreatQva2
import Derived.Test.YtmlnhjfdhjachaaGreatQva30
/-
  A range over a map of words: whichever order the entries come in. No condition.
-/
namespace Go.Proofs.YtmlnhjfdhjachaaGreat
set_option linter.unusedVariables false
open Go.ChangeShapes Go.WideShapes Go.ChangeAt Go.RowKit
open Go.ChangeMaps (setBlock)

def keyI : Value → Int | .int _ q => q | _ => 0
def entI (e : MapEntry) : Int × Value := (keyI e.key, e.val)
theorem ents_of {es : List MapEntry} {l : List (Int × Value)} (h : es.map (fun e => (e.key, e.val)) = kvOf l) : l = es.map entI ∧ ∀ e ∈ es, e.key = .int .u64 (keyI e.key) := by
  induction es generalizing l with
  | nil =>
    cases l with
    | nil => exact ⟨rfl, fun e he => by cases he⟩
    | cons p l => simp [kvOf] at h
  | cons e es ih =>
    cases l with
    | nil => simp [kvOf] at h
    | cons p l =>
      simp only [kvOf, List.map_cons, List.cons.injEq] at h
      obtain ⟨h1, h2⟩ := h
      obtain ⟨k1, k2⟩ := ih (l := l) h2
      have e1 : e.key = .int .u64 p.1 := congrArg (·.1) h1
      have e2 : e.val = p.2 := congrArg (·.2) h1
      refine ⟨?_, fun x hx => ?_⟩
      · rw [List.map_cons, ← k1]
        congr 1
        unfold entI
        rw [e1, e2]
        rfl
      · rcases List.mem_cons.1 hx with rfl | hx
        · rw [e1]; rfl
        · exact k2 x hx
/-- A loop over a map that holds l: what is to come yet. -/
structure Iter (w : World) (m r : Nat) (l left : List (Int × Value)) : Prop where
  ex : ∃ es clock seen, w.heap[m]? = some (.map es clock) ∧ kvs es = kvOf l ∧ MapKept.Stamped es clock ∧ w.heap[r]? = some (.mapIter (some m) clock seen clock) ∧ left = (leftOf es seen).toList.map entI
theorem Iter.keep {w w' : World} {m r : Nat} {l left : List (Int × Value)} (h : Iter w m r l left) (hm : w'.heap[m]? = w.heap[m]?) (hr : w'.heap[r]? = w.heap[r]?) : Iter w' m r l left := by
  obtain ⟨es, c, s, h1, h2, h3, h4, h5⟩ := h.ex
  exact ⟨es, c, s, hm.trans h1, h2, h3, hr.trans h4, h5⟩
theorem Iter.map {w : World} {m r : Nat} {l left : List (Int × Value)} (h : Iter w m r l left) : MapIs w m l := by
  obtain ⟨es, c, s, h1, h2, h3, h4, h5⟩ := h.ex
  exact ⟨es, c, h1, h2, h3⟩
theorem Iter.lt {w : World} {m r : Nat} {l left : List (Int × Value)} (h : Iter w m r l left) : r < w.heap.size ∧ m < w.heap.size ∧ r ≠ m := by
  obtain ⟨es, c, s, h1, h2, h3, h4, h5⟩ := h.ex
  refine ⟨(Array.getElem?_eq_some_iff.1 h4).1, (Array.getElem?_eq_some_iff.1 h1).1, fun e => ?_⟩
  rw [e, h1] at h4
  cases h4
theorem filter_out {es : List MapEntry} (hn : (es.map (·.born)).Nodup) {e : MapEntry} (he : e ∈ es) : es.Perm (e :: es.filter fun x => x.born != e.born) := by
  induction es with
  | nil => cases he
  | cons x es ih =>
    rw [List.map_cons, List.nodup_cons] at hn
    by_cases hx : x.born = e.born
    · have hxe : x = e := by
        rcases List.mem_cons.1 he with h | h
        · exact h.symm
        · exact absurd (List.mem_map.2 ⟨e, h, hx.symm⟩) hn.1
      subst hxe
      have hf : (x :: es).filter (fun y => y.born != x.born) = es := by
        rw [List.filter_cons_of_neg (by simp)]
        exact List.filter_eq_self.2 fun y hy => by
          have : y.born ≠ x.born := fun h => hn.1 (List.mem_map.2 ⟨y, hy, h⟩)
          simpa using this
      rw [hf]
    · have hm : e ∈ es := by
        rcases List.mem_cons.1 he with h | h
        · exact absurd (by rw [h]) hx
        · exact h
      rw [List.filter_cons_of_pos (by simpa using hx)]
      exact ((ih hn.2 hm).cons x).trans (List.Perm.swap ..)
theorem left_push (es : Array MapEntry) (seen : Array Nat) (b : Nat) : (leftOf es (seen.push b)).toList = (leftOf es seen).toList.filter fun x => x.born != b := by
  unfold leftOf
  rw [Array.toList_filter, Array.toList_filter, List.filter_filter]
  apply List.filter_congr
  intro x _
  rw [contains_push]
  cases seen.contains x.born <;> simp [bne]
section
variable {P : Program} (w : World) {ops : Array Oper} {rest : List Oper} {o : Oper} {a : Act} {Q : Exit → Act → World → Prop}
/-- 'range m'. -/
theorem wpList_range_iter (hg : o.guard = none) (mo : Operand) (t k e : TypeId) (hop : o.op = Op.range t mo) (ht : P.underlying t = some (.map k e)) (m : Nat) (l : List (Int × Value)) (hm : a.eval mo = .map (some m)) (h : MapIs w m l)
    (hK : ∀ w', Iter w' m w.heap.size l l → Below w.heap.size w w' → w'.heap.size = w.heap.size + 1 → wpList P ops Q rest (a.put o.dst (.pointer (some ⟨w.heap.size, 0, none⟩))) w') :
    wpList P ops Q (o :: rest) a w := by
  obtain ⟨es, clock, h1, h2, h3⟩ := h.some_
  refine wpList_plain hg fun K' hK' => ?_
  have hrun := run_range_map (P := P) w t k e m es clock ht h1
  unfold Oper.wp
  simp [execOp, hop, hm, hrun, Result.andThen]
  refine hK' _ _ (hK _ ⟨es, clock, #[], (Below.heap_alloc w _ m (Array.getElem?_eq_some_iff.1 h1).1).trans h1, h2, h3, heap_alloc_new w _, ?_⟩ ((Below.refl _ _).alloc (Nat.le_refl _) _) (by simp))
  have e1 : leftOf es #[] = es := by unfold leftOf; exact Array.filter_eq_self.2 (fun x _ => by simp)
  rw [e1]
  exact (ents_of h2).1
/-- The step. -/
theorem wpList_next_iter (hg : o.guard = none) (it : Operand) (hop : o.op = Op.next it false) (m r : Nat) (l left : List (Int × Value)) (hit : a.eval it = .pointer (some ⟨r, 0, none⟩)) (h : Iter w m r l left)
    (hDone : left = [] → wpList P ops Q rest (a.put o.dst (.tuple #[.bool false])) w)
    (hMore : ∀ (x : Int) (v : Value) (left' : List (Int × Value)) (w' : World), left.Perm ((x, v) :: left') → Iter w' m r l left' → Chg (fun k => k = r) w w' → w'.heap.size = w.heap.size → (Instr.entry (.pointer (some ⟨r, 0, none⟩))).run P w' = .ok (.tuple #[.int .u64 x, v]) w' →
      wpList P ops Q rest (a.put o.dst (.tuple #[.bool true, .int .u64 x, v])) w') :
    wpList P ops Q (o :: rest) a w := by
  have hlt := h.lt
  obtain ⟨es, clock, seen, h1, h2, h3, h4, h5⟩ := h.ex
  obtain ⟨s1, s2, s3⟩ := (MapKept.stamped_iff es clock).1 h3
  obtain ⟨k1, k2⟩ := ents_of h2
  refine wpList_plain hg fun K' hK' => ?_
  unfold Oper.wp
  rcases run_next_at (P := P) w o.type r m clock clock seen es clock h4 h1 s1 (Nat.le_refl _) with ⟨h0, hrun⟩ | ⟨e, he, w1, hw1, hrun⟩
  · simp [execOp, hop, hit, hrun, Result.andThen]
    have e0 : (leftOf es seen).toList = [] := by
      have := Array.eq_empty_of_size_eq_zero h0
      rw [this]
    exact hK' _ _ (hDone (by rw [h5, e0]; rfl))
  · simp [execOp, hop, hit, hrun, Result.andThen]
    have hmem := (mem_left he).1
    have hsz : (setBlock w1 r (.mapIter (some m) clock (seen.push e.born) clock)).heap.size = w.heap.size := by rw [size_setBlock]; rcases hw1 with rfl | rfl <;> rfl
    have hw1h : w1.heap = w.heap := by rcases hw1 with rfl | rfl <;> rfl
    have hm' : (setBlock w1 r (.mapIter (some m) clock (seen.push e.born) clock)).heap[m]? = some (.map es clock) := by rw [heap_setBlock _ _ _ _ (fun e => hlt.2.2 e.symm), hw1h]; exact h1
    have hr' : (setBlock w1 r (.mapIter (some m) clock (seen.push e.born) clock)).heap[r]? = some (.mapIter (some m) clock (seen.push e.born) clock) := heap_setBlock_at _ _ _ (by rw [hw1h]; exact hlt.1)
    have hkey := k2 e hmem
    have hent := run_entry_at (P := P) (setBlock w1 r (.mapIter (some m) clock (seen.push e.born) clock)) r m clock seen es clock e hr' hm' hmem s2
    rw [hkey] at hent ⊢
    refine hK' _ _ (hMore (keyI e.key) e.val ((leftOf es (seen.push e.born)).toList.map entI) _ ?_ ⟨es, clock, seen.push e.born, hm', h2, h3, hr', rfl⟩ ?_ hsz hent)
    · rw [h5, left_push]
      have hnd : ((leftOf es seen).toList.map (·.born)).Nodup := by
        unfold leftOf
        rw [Array.toList_filter]
        exact (List.Sublist.map _ List.filter_sublist).nodup s2
      exact (filter_out hnd he).map entI
    · have hc : Chg (fun k => k = r) w w1 := by
        rcases hw1 with rfl | rfl
        · exact Chg.refl _ _
        · exact (Chg.refl _ _).drew
      exact hc.setBlock (.inl rfl) _
end
end Go.Proofs.YtmlnhjfdhjachaaGreat

/-
  The heap's blocks, rising. No condition.
-/
namespace Go.Proofs.YtmlnhjfdhjachaaGreat
set_option linter.unusedVariables false
open Go.ChangeShapes Go.WideShapes Go.ChangeAt Go.RowKit
open Go.ChangeMaps (setBlock)

def PHeap.sorted (S : PHeap) : List Int := (S.blocks.map (·.key)).mergeSort fun x y => decide (x ≤ y)
theorem iter_left {w : World} {m r : Nat} {l left : List (Int × Value)} (h : Iter w m r l left) : w.rangeLeft m r = left.length := by
  obtain ⟨es, c, s, h1, h2, h3, h4, h5⟩ := h.ex
  simp only [World.rangeLeft, h1, h4]
  rw [h5]
  simp
theorem sort_perm {a b : List Int} (h : a.Perm b) : a.mergeSort (fun x y => decide (x ≤ y)) = b.mergeSort fun x y => decide (x ≤ y) := by
  have tr : ∀ x y z : Int, decide (x ≤ y) = true → decide (y ≤ z) = true → decide (x ≤ z) = true := fun x y z h1 h2 => by simp at *; omega
  have to : ∀ x y : Int, (decide (x ≤ y) || decide (y ≤ x)) = true := fun x y => by simp; omega
  refine List.Perm.eq_of_pairwise (le := fun x y : Int => x ≤ y) (fun x y _ _ h1 h2 => Int.le_antisymm h1 h2) ?_ ?_ ((List.mergeSort_perm a _).trans (h.trans (List.mergeSort_perm b _).symm))
  · exact (List.pairwise_mergeSort tr to a).imp fun h => by simpa using h
  · exact (List.pairwise_mergeSort tr to b).imp fun h => by simpa using h
theorem reads_wordB (w : World) (x : Int) : Reads (w.alloc (.cells #[.int .u64 x] 22)) (w.heap.size + 1) 1 (some ⟨w.heap.size, 0, none⟩) 1 [.int .u64 x] := by
  refine ⟨rfl, fun _ => ⟨_, rfl, by show w.heap.size < w.heap.size + 1; omega, fun j u hu => ?_⟩⟩
  have e : (⟨w.heap.size, 0, none⟩ : Addr).add j = ⟨w.heap.size, j, none⟩ := by unfold Addr.add; split <;> simp_all
  rw [e, (Blk.new w 22 #[.int .u64 x]).cell j]
  simpa using hu
theorem slice_ownB {w : World} {base : Nat} {e : TypeId} {size n : Nat} {v : Value} {xs : List Value} (h : w.ownsRow base e size v n xs) : ∃ A c, v = .slice A n c := by
  rcases h.2 with ⟨rfl, rfl⟩ | ⟨g, cap, _, rfl, _⟩
  · exact ⟨none, 0, rfl⟩
  · exact ⟨_, cap, rfl⟩
theorem row_below {B : Nat} {w wr w1 : World} {e : TypeId} {size n : Nat} {v : Value} {xs : List Value} (hB : B ≤ w.heap.size) (h : Below B w wr) (ho : wr.ownsRow B e size v n xs) (hg : wr.grownBy w1 v.ownBlock) : Below B w w1 :=
  ⟨hg.os.trans h.os, hg.tape.trans h.tape, hg.output.trans h.output, Nat.le_trans h.size hg.size, fun i hi => (hg.block i (Nat.lt_of_lt_of_le (Nat.lt_of_lt_of_le hi hB) h.size) (fun e' => by have := (World.ownsRow.lt ho _ e'.symm).1; omega)).trans (h.block i hi)⟩
theorem row_keepB {w w' : World} {e : TypeId} {size n B : Nat} {v : Value} {xs : List Value} (h : w.ownsRow B e size v n xs) (hk : ∀ g, v.ownBlock = some g → w'.heap[g]? = w.heap[g]?) : w'.ownsRow B e size v n xs :=
  ⟨h.1, h.2.imp id fun ⟨g, cap, cur, e1, e2, e3, r⟩ => ⟨g, cap, cur, e1, e2, (hk g (by rw [e1]; rfl)).trans e3, r⟩⟩
theorem row_off {v v' : Value} {k : Nat} {W : World} (h : v.ownBlock ≠ some k) (hloc : v'.ownBlock = v.ownBlock ∨ v'.ownBlock = some W.heap.size) (hk : k < W.heap.size) : v'.ownBlock ≠ some k := by
  rcases hloc with e | e
  · rw [e]; exact h
  · rw [e]
    intro e'
    injection e' with e'
    omega
/-- Between two rounds. -/
structure BlkRel (w : World) (m : Nat) (S : PHeap) (v : Value) (wr : World) : Prop where
  ex : ∃ (ks : List Int) (left : List (Int × Value)), wr.ownsRow w.heap.size 22 1 v ks.length (ks.map (Value.int .u64)) ∧ Iter wr m w.heap.size S.ents left ∧ (ks ++ left.map (·.1)).Perm (S.blocks.map (·.key))
  below : Below w.heap.size w wr
  row : v.ownBlock ≠ some w.heap.size
set_option maxRecDepth 100000 in
set_option maxHeartbeats 2000000 in
theorem blocks_any {w : World} {hb : Nat} {S : PHeap} {F : Nat → Prop} (h : HeapIn w hb S F) (hn : S.blocks.length ≤ 100000) :
    Calls Tryz.prog 25 #[.pointer (some ⟨hb, 0, none⟩)] w fun e w' => ∃ v, e = .returned v ∧ w'.ownsRow w.heap.size 22 1 v S.blocks.length (S.sorted.map (Value.int .u64)) ∧ Below w.heap.size w w' := by
  obtain ⟨i0, hi, hz0', hz1', hz2'⟩ : ∃ i, Tryz.prog.info? 22 = some i ∧ i.zero = some (.int .u64 0) ∧ i.size = 1 ∧ i.bytes = 8 := ⟨_, rfl, rfl, rfl, rfl⟩
  obtain ⟨mo, hm1, hm2⟩ := h.m
  have c0 : w.cell? ⟨hb, 0, none⟩ = some (.map mo) := hm1.cell 0
  have hso : ∀ (W : World) (ks : List Int) (v : Value), ks.length ≤ 1000000 → W.ownsRow w.heap.size 22 1 v ks.length (ks.map (Value.int .u64)) → Calls Tryz.prog 65 #[v] W _ := fun W ks v hn ho => sort_any hn ho
  replace hso := Lib.hid hso
  replace hm1 := Lib.hid hm1
  rcases hm2 with ⟨rfl, hbl, hla⟩ | ⟨m, rfl, hFm, hmap⟩
  · have e0 : S.sorted = [] := by unfold PHeap.sorted; rw [hbl]; simp
    rw [e0, hbl]
    have hrg := run_range_nilMap (P := Tryz.prog) w 134 22 172 Tryz.underlying134
    have hnx := fun ty a s b => run_next_nilMap (P := Tryz.prog) w ty a s b
    replace h := Lib.hid h
    replace hbl := Lib.hid hbl
    replace hla := Lib.hid hla
    clear e0
    go_enter Tryz.func25, Tryz.ntmps25
    go_wp2_with fail
    refine wp_loop_rounds 1 ?_
    rw [rounds_succ]
    go_wp2_with fail
    refine (hso.out _ [] (.slice none 0 0) (by decide) (World.ownsRow_nil _ _ _ _)).mono ?_; rintro e w5 ⟨rfl, ho5, hg5⟩
    have hb5 : Below w.heap.size w w5 := row_below (e := 22) (size := 1) (Nat.le_refl _) ((Below.refl _ _).alloc (Nat.le_refl _) _) (World.ownsRow_nil _ _ _ _) hg5
    clear hg5
    replace ho5 := Lib.hid ho5
    go_wp2_with fail
    go_ret
    exact ⟨_, rfl, World.ownsRow_nil _ _ _ _, hb5⟩
  · have hmlt := hmap.lt
    replace h := Lib.hid h
    replace hmap := Lib.hid hmap
    go_enter Tryz.func25, Tryz.ntmps25
    go_wp2_with (first | (at_range; refine wpList_range_iter _ rfl _ 134 22 172 rfl Tryz.underlying134 m S.ents rfl hmap.out ?_; intro w1 hit1 hb1 hs1; replace hit1 := Lib.hid hit1; replace hb1 := Lib.hid hb1; go_frame))
    go_loopw [3] (fun v wr => BlkRel w m S v wr) (fun _ wr => wr.rangeLeft m w.heap.size)
    case atStart => exact ⟨⟨[], S.ents, World.ownsRow_nil _ _ _ _, hit1.out, by unfold PHeap.ents; simp [List.map_map, Function.comp_def]⟩, hb1.out, by simp [Value.ownBlock]⟩
    case round =>
      clear hit1 hb1
      obtain ⟨⟨ks, left, hown, hit, hperm⟩, hbl, hrw⟩ := hrel
      have hkl : ks.length ≤ 100000 := by have := hperm.length_eq; simp at this; omega
      obtain ⟨A, cp, rfl⟩ := slice_ownB hown
      have hmeas := iter_left hit
      replace hown := Lib.hid hown
      replace hit := Lib.hid hit
      replace hperm := Lib.hid hperm
      replace hbl := Lib.hid hbl
      replace hrw := Lib.hid hrw
      go_wp2_with (first | (at_next; refine wpList_next_iter _ rfl _ rfl m w.heap.size S.ents left rfl hit.out ?_ ?_))
      · intro hl0
        subst hl0
        replace hmeas := Lib.hid hmeas
        go_wp2_with fail
        refine (hso.out _ ks _ (by omega) hown.out).mono ?_; rintro e w5 ⟨rfl, ho5, hg5⟩
        have hpk : ks.Perm (S.blocks.map (·.key)) := by simpa using hperm.out
        have hkn : ks.length = S.blocks.length := by have := hpk.length_eq; simpa using this
        have hb5 := row_below (Nat.le_refl _) hbl.out hown.out hg5
        rw [sort_perm hpk, hkn] at ho5
        clear hg5 hpk
        replace ho5 := Lib.hid ho5
        replace hkn := Lib.hid hkn
        go_wp2_with fail
        go_ret
        exact ⟨_, rfl, by rw [← hkn.out] at ho5 ⊢; exact ho5.out, hb5⟩
      · intro x vx left' w5 hpm hit5 hch5 hsz5 hen5
        have hown5 := row_keepB (w' := w5) hown.out fun g hg => hch5.block g (World.ownsRow.lt hown.out g hg).2 fun e => hrw.out (by rw [hg, e])
        have hbl5 : Below w.heap.size w w5 := hbl.out.trans (hch5.below (fun i hi => by omega) hbl.out.size)
        have hwz := hbl5.size
        replace hmeas := Lib.hid hmeas
        replace hpm := Lib.hid hpm
        replace hit5 := Lib.hid hit5
        replace hch5 := Lib.hid hch5
        replace hsz5 := Lib.hid hsz5
        replace hown5 := Lib.hid hown5
        replace hbl5 := Lib.hid hbl5
        go_wp2_with (at_builtin; go_loud (refine wpList_append_any _ rfl _ _ 69 rfl w.heap.size 22 i0 (.int .u64 0) 1 8 Tryz.underlying69 hi hz0' hz1' hz2' rfl (by decide) _ _ _ rfl (hown5.out.alloc _) (w5.heap.size + 1) (some ⟨w5.heap.size, 0, none⟩) 1 1 [.int .u64 x] rfl (reads_wordB w5 x) (by simp [Value.oneCell']) (by unfold maxLen; omega) (by omega) (by simp; omega) ?_; intro v' w6 hown6 hgrow hloc; have hb6 := row_below (Nat.le_refl _) (Below.more_ hbl5.out (.cells #[.int .u64 x] 22)) (hown5.out.alloc _) hgrow; have hit6 : Iter w6 m w.heap.size S.ents left' := (hit5.out.keep (Below.heap_alloc w5 _ m hit5.out.lt.2.1) (Below.heap_alloc w5 _ _ hit5.out.lt.1)).keep (hgrow.block m (by have := hit5.out.lt; simp; omega) (fun e => by have := (World.ownsRow.lt hown5.out m e.symm).1; omega)) (hgrow.block _ (by have := hit5.out.lt; simp; omega) (fun e => hrw.out e.symm)); have hrw6 : v'.ownBlock ≠ some w.heap.size := row_off hrw.out hloc (by have := hit5.out.lt.1; simp; omega); replace hown6 := Lib.hid hown6; clear hgrow hloc; replace hb6 := Lib.hid hb6; replace hit6 := Lib.hid hit6; replace hrw6 := Lib.hid hrw6))
        go_roundw
        case rel =>
          refine ⟨⟨ks ++ [x], left', ?_, hit6.out, ?_⟩, hb6.out, hrw6.out⟩
          · have h6 := hown6.out
            rw [List.length_append, List.length_singleton, List.map_append]
            exact h6
          · have h1 : ((x, vx) :: left').map (·.1) = x :: left'.map (·.1) := rfl
            have h2 := (hpm.out.map (·.1)).symm
            rw [h1] at h2
            rw [List.append_assoc]
            exact (List.Perm.append_left ks h2).trans hperm.out
        case measure =>
          rw [iter_left hit6.out, hmeas.out, hpm.out.length_eq]
          simp
end Go.Proofs.YtmlnhjfdhjachaaGreat
