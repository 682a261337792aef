/-
  The document's heap (layer 17): Make. No condition.
-/
import Derived.Test.YtjoaifdjmdihoaaDoorRefL
import Derived.Test.YtjoaifdjmdihoaaDoorBlocks
namespace Go.Proofs.YtjoaifdjmdihoaaDoor
set_option linter.unusedVariables false
open Go.ChangeShapes Go.WideShapes Go.ChangeAt Go.RowKit
open Go.ChangeMaps (setBlock)

theorem made_find (S : PHeap) (r n : Nat) (t : ByteArray) (k : Int) (hk : k ≠ S.last + 1) : PHeap.find { S with blocks := S.blocks ++ [⟨S.last + 1, r, List.replicate n 0, t⟩], last := S.last + 1 } k = S.find k := by
  unfold PHeap.find
  simp only [List.find?_append]
  have : ([(⟨S.last + 1, r, List.replicate n 0, t⟩ : PBlk)].find? fun b => b.key == k) = none := by
    simp only [List.find?_cons, List.find?_nil]
    have e : (S.last + 1 == k) = false := by rw [beq_eq_false_iff_ne]; exact fun e => hk e.symm
    rw [e]
  rw [this]
  simp
theorem made_new (S : PHeap) (r n : Nat) (t : ByteArray) (hs : ∀ x ∈ S.blocks, x.key ≤ S.last) : PHeap.find { S with blocks := S.blocks ++ [⟨S.last + 1, r, List.replicate n 0, t⟩], last := S.last + 1 } (S.last + 1) = some ⟨S.last + 1, r, List.replicate n 0, t⟩ := by
  unfold PHeap.find
  simp only [List.find?_append]
  have : (S.blocks.find? fun b => b.key == S.last + 1) = none := by
    rw [List.find?_eq_none]
    intro x hx
    have := hs x hx
    simp only [beq_iff_eq]
    omega
  rw [this]
  simp
theorem reads_blkM {w : World} {g : Nat} {t : TypeId} {cs : Array Value} (h : Blk w g t cs) (k m : Nat) (hk : cs.size = m * k) (hm : 0 < m) : Reads w (g + 1) k (some ⟨g, 0, none⟩) m cs.toList := by
  refine ⟨by simp [hk], fun _ => ⟨_, rfl, by show g < g + 1; omega, fun j u hu => ?_⟩⟩
  have := h.cell j
  have e : (⟨g, 0, none⟩ : Addr).add j = ⟨g, j, none⟩ := by unfold Addr.add; split <;> simp_all
  rw [e, this]
  simpa using hu
theorem slice_someM {w : World} {base n : Nat} {v : Value} {e : TypeId} {size : Nat} {xs : List Value} (h : w.ownsRow base e size v n xs) (hn : 0 < n) : ∃ g cap, v = .slice (some ⟨g, 0, none⟩) n cap := by
  rcases h.2 with ⟨_, h0⟩ | ⟨g, cap, _, rfl, _⟩
  · omega
  · exact ⟨g, cap, rfl⟩
theorem slice_keepM {w w' : World} {base n n0 g0 c0 : Nat} {v : Value} {e : TypeId} {size : Nat} {xs : List Value} (h : w'.ownsRow base e size v n xs) (hloc : v.ownBlock = (Value.slice (some ⟨g0, 0, none⟩) n0 c0).ownBlock ∨ v.ownBlock = some w.heap.size) : ∃ g cap, v = .slice (some ⟨g, 0, none⟩) n cap := by
  rcases h.2 with ⟨rfl, _⟩ | ⟨g, cap, _, rfl, _⟩
  · rcases hloc with h | h <;> simp [Value.ownBlock] at h
  · exact ⟨g, cap, rfl⟩
/-- Between two rounds of Make. -/
structure RMakeRel (w : World) (n : Nat) (v iv : Value) (wr : World) : Prop where
  ex : ∃ (k g cap : Nat), k ≤ n ∧ iv = .int .i64 k ∧ v = .slice (some ⟨g, 0, none⟩) k cap ∧ wr.ownsRow w.heap.size 32 1 v k (List.replicate k (.int .u64 0))
  below : Below w.heap.size w wr
/-- The block that was made. -/
theorem RefIn.made {w wr w5 : World} {xb : Nat} {S : PHeap} {F : Nat → Prop} (h : RefIn w xb S F) {A : Option Addr} {cap g rcap g5 cap5 n : Nat} {R : List RBlk} (t : ByteArray) (hX : Blk w xb 30 #[.slice A R.length cap, .bool S.locked, .int .i64 S.faults]) (hR : RowsIn w F A cap R) (hlen : (R.length : Int) = S.last) (ht : ∀ (i : Nat) r, R[i]? = some r → r.Tells (S.find ((i : Int) + 1)))
    (hbl : Below w.heap.size w wr) (hown : wr.ownsRow w.heap.size 32 1 (.slice (some ⟨g, 0, none⟩) n rcap) n (List.replicate n (.int .u64 0)))
    (h5 : w5.ownsRow 0 73 3 (.slice (some ⟨g5, 0, none⟩) (R.length + 1) cap5) (R.length + 1) (rCs R ++ [.slice (some ⟨g, 0, none⟩) n rcap, .string t, .bool false])) (hg : World.grownBy (wr.alloc (.cells #[.slice (some ⟨g, 0, none⟩) n rcap, .string t, .bool false] 73)) w5 (Value.slice A R.length cap).ownBlock)
    (hloc : (Value.slice (some ⟨g5, 0, none⟩) (R.length + 1) cap5).ownBlock = (Value.slice A R.length cap).ownBlock ∨ (Value.slice (some ⟨g5, 0, none⟩) (R.length + 1) cap5).ownBlock = some (wr.alloc (.cells #[.slice (some ⟨g, 0, none⟩) n rcap, .string t, .bool false] 73)).heap.size) (r : Nat) :
    RTurned F xb { S with blocks := S.blocks ++ [⟨S.last + 1, r, List.replicate n 0, t⟩], last := S.last + 1 } w (w5.setCell ⟨xb, 0, none⟩ (.slice (some ⟨g5, 0, none⟩) (R.length + 1) cap5)) := by
  have hsl := Slab.of_own h5
  have hsr := Slab.of_own hown
  have hgw : w.heap.size ≤ g := (World.ownsRow.lt hown g rfl).1
  have hgr : g < wr.heap.size := hsr.lt
  generalize hw1 : wr.alloc (.cells #[.slice (some ⟨g, 0, none⟩) n rcap, .string t, .bool false] 73) = w1 at *
  have hs1 : w1.heap.size = wr.heap.size + 1 := by rw [← hw1]; simp
  have hk1 : ∀ k, k < wr.heap.size → w1.heap[k]? = wr.heap[k]? := fun k hk => by rw [← hw1]; exact Below.heap_alloc wr _ k hk
  have hbs := hbl.size
  have hg5 : g5 < w5.heap.size := hsl.lt
  -- the old row's block
  have hob : ∀ k, (Value.slice A R.length cap).ownBlock = some k → F k ∧ (∀ r ∈ R, r.g ≠ k) ∧ k ≠ xb := fun k hk => by
    rcases hR.row with ⟨rfl, _, _⟩ | ⟨gv, rfl, hgF, hS⟩
    · simp [Value.ownBlock] at hk
    · simp only [Value.ownBlock, Option.some.injEq] at hk
      subst hk
      refine ⟨hgF, fun r hr => (hR.rows r hr).2.ne hS (by decide), ?_⟩
      obtain ⟨cur, h6, _⟩ := hS.ex
      exact h6.ne_ hX (by decide)
  have hkk : ∀ k, k < w.heap.size → (Value.slice A R.length cap).ownBlock ≠ some k → w5.heap[k]? = w.heap[k]? := fun k hk hn => by
    rw [hg.block k (by omega) (fun e => hn e.symm), hk1 k (by omega), hbl.block k hk]
  have hks : ∀ k, k ≠ xb → (w5.setCell ⟨xb, 0, none⟩ (.slice (some ⟨g5, 0, none⟩) (R.length + 1) cap5)).heap[k]? = w5.heap[k]? := fun k hk => Below.heap_setCell w5 _ _ k hk
  have hxl := h.own xb h.hF
  have hsz5 : (w5.setCell ⟨xb, 0, none⟩ (.slice (some ⟨g5, 0, none⟩) (R.length + 1) cap5)).heap.size = w5.heap.size := size_setCell _ _ _
  have hg5' : w1.heap.size ≤ w5.heap.size := hg.size
  have hX5 : Blk w5 xb 30 #[.slice A R.length cap, .bool S.locked, .int .i64 S.faults] := hX.keep (hkk xb hxl (fun e => (hob xb e).2.2 rfl))
  have hgx5 : g5 ≠ xb := by
    obtain ⟨cur, h6, _⟩ := hsl.ex
    exact h6.ne_ hX5 (by decide)
  have hgo : (Value.slice A R.length cap).ownBlock ≠ some g := fun e => by have := h.own g (hob g e).1; omega
  have hc : Chg F w (w5.setCell ⟨xb, 0, none⟩ (.slice (some ⟨g5, 0, none⟩) (R.length + 1) cap5)) := by
    refine Chg.setCell (show Chg F w w5 from ⟨?_, ?_, ?_, by omega, fun k hk hn => hkk k hk fun e => hn (hob k e).1⟩) (.inl h.hF) _
    · rw [hg.os, ← hw1]; exact hbl.os
    · rw [hg.tape, ← hw1]; exact hbl.tape
    · rw [hg.output, ← hw1]; exact hbl.output
  have hgF5 : nw F w (w5.setCell ⟨xb, 0, none⟩ (.slice (some ⟨g5, 0, none⟩) (R.length + 1) cap5)) g5 := by
    rcases hloc with e | e
    · exact .inl (hob g5 (by rw [← e]; rfl)).1
    · simp only [Value.ownBlock, Option.some.injEq] at e
      exact .inr ⟨by omega, by rw [hsz5]; exact hg5⟩
  have hrk : (rCs R ++ [.slice (some ⟨g, 0, none⟩) n rcap, .string t, .bool false]) = rCs (R ++ [⟨g, rcap, List.replicate n 0, t, false⟩]) := by
    unfold rCs
    simp [RBlk.cs]
  rw [hrk] at hsl
  refine ⟨⟨h.own.nw hc.size, .inl h.hF, ⟨some ⟨g5, 0, none⟩, cap5, R ++ [⟨g, rcap, List.replicate n 0, t, false⟩], ?_, ⟨.inr ⟨g5, rfl, hgF5, ?_⟩, fun r' hr' => ?_, ?_⟩, ?_, fun i r' hi => ?_⟩, fun y hy => ?_, h.faults0⟩, hc⟩
  · exact (hX5.set_ 0 _).eq_cs (by simp)
  · have e : (R ++ [(⟨g, rcap, List.replicate n 0, t, false⟩ : RBlk)]).length = R.length + 1 := by simp
    rw [e]
    exact hsl.keep (hks g5 hgx5)
  · rcases List.mem_append.1 hr' with hr' | hr'
    · obtain ⟨k1, k2⟩ := hR.rows r' hr'
      refine ⟨.inl k1, k2.keep ((hks _ ?_).trans (hkk _ (h.own _ k1) fun e => (hob _ e).2.1 r' hr' rfl))⟩
      obtain ⟨cur, h6, _⟩ := k2.ex
      exact h6.ne_ hX (by decide)
    · simp only [List.mem_singleton] at hr'
      subst hr'
      refine ⟨.inr ⟨hgw, by rw [hsz5]; show g < _; omega⟩, ?_⟩
      show Slab _ g 32 1 (List.replicate n (0 : Int)).length rcap ((List.replicate n (0 : Int)).map (Value.int .u64))
      rw [List.length_replicate, List.map_replicate]
      refine hsr.keep ((hks g (by omega)).trans ?_)
      rw [hg.block g (by omega) (fun e => hgo e.symm), hk1 g hgr]
  · rw [List.map_append, List.nodup_append]
    refine ⟨hR.apart, by simp, fun a ha b hb => ?_⟩
    simp only [List.map_cons, List.map_nil, List.mem_singleton] at hb
    obtain ⟨r', hr', rfl⟩ := List.mem_map.1 ha
    have := h.own _ (hR.rows r' hr').1
    show r'.g ≠ b
    rw [hb]
    show r'.g ≠ g
    omega
  · show ((R ++ [_]).length : Int) = S.last + 1
    simp only [List.length_append, List.length_singleton]
    omega
  · by_cases hiR : i < R.length
    · rw [List.getElem?_append_left hiR] at hi
      rw [made_find _ _ _ _ _ (by omega)]
      exact ht i r' hi
    · rw [List.getElem?_append_right (by omega)] at hi
      have hi0 : i = R.length := by
        have := (List.getElem?_eq_some_iff.1 hi).1
        simp at this
        omega
      subst hi0
      simp at hi
      subst hi
      unfold RBlk.Tells
      rw [if_neg (by simp), hlen, made_new _ _ _ _ (fun x hx => (h.span x hx).2)]
      exact ⟨_, rfl, rfl, rfl⟩
  · show 1 ≤ y.key ∧ y.key ≤ S.last + 1
    rcases List.mem_append.1 hy with hy | hy
    · have := h.span y hy
      omega
    · simp only [List.mem_singleton] at hy
      subst hy
      show 1 ≤ S.last + 1 ∧ S.last + 1 ≤ S.last + 1
      omega
set_option maxRecDepth 100000 in
set_option maxHeartbeats 4000000 in
theorem rmake_any {w : World} {xb : Nat} {S : PHeap} {F : Nat → Prop} (h : RefIn w xb S F) (n : Int) (t : ByteArray) (hl : S.last ≤ 1000000) :
    Calls Tryd.prog 40 #[.pointer (some ⟨xb, 0, none⟩), .int .i64 n, .string t] w fun e w' => ∀ r, e = .returned (.int .u64 (S.make n t r).1) ∧ RTurned F xb (S.make n t r).2 w w' := by
  obtain ⟨i0, hi, hz0', hz1', hz2'⟩ : ∃ i, Tryd.prog.info? 32 = some i ∧ i.zero = some (.int .u64 0) ∧ i.size = 1 ∧ i.bytes = 8 := ⟨_, rfl, rfl, rfl, rfl⟩
  obtain ⟨i9, hi9, hz9, hy9, hb9⟩ : ∃ i, Tryd.prog.info? 73 = some i ∧ i.zero = some (.agg #[.slice none 0 0, .string ⟨#[]⟩, .bool false]) ∧ i.size = 3 ∧ i.bytes = 48 := ⟨_, rfl, rfl, rfl, rfl⟩
  by_cases hn : 0 ≤ n ∧ n ≤ 256
  · have hmk : ∀ r, S.make n t r = (S.last + 1, { S with blocks := S.blocks ++ [⟨S.last + 1, r, List.replicate n.toNat 0, t⟩], last := S.last + 1 }) := fun r => by unfold PHeap.make; rw [if_pos hn]
    simp only [hmk]
    clear hmk
    obtain ⟨m, rfl⟩ := Int.eq_ofNat_of_zero_le hn.1
    rw [Int.toNat_natCast]
    have hm : m ≤ 256 := by omega
    have d1 : decide ((m : Int) < 0) = false := by simp
    have d2 : decide ((256 : Int) < (m : Int)) = false := by simp; omega
    replace h := Lib.hid h
    clear hn
    go_enter Tryd.func40, Tryd.ntmps40
    go_wp2_with fail
    go_loopw [7, 8] (fun v iv wr => RMakeRel w m v iv wr) (fun _ i _ => m + 1 - (intOf i).toNat)
    case atStart =>
      refine ⟨⟨0, w.heap.size, 0, Nat.zero_le _, rfl, rfl, ?_⟩, (Below.refl _ _).alloc (Nat.le_refl _) _⟩
      exact ⟨rfl, .inr ⟨w.heap.size, 0, #[], rfl, Nat.le_refl _, heap_alloc_new w _, Nat.le_refl _, Nat.zero_le _, rfl, rfl⟩⟩
    case round =>
      obtain ⟨⟨k, g, cp, hk, rfl, rfl, hown⟩, hbl⟩ := hrel
      by_cases hlt : k < m
      · have d3 : decide ((k : Int) < (m : Int)) = true := by simpa using hlt
        have h63 : (k : Int) + 1 ≤ 9223372036854775807 := by omega
        replace hown := Lib.hid hown
        replace hbl := Lib.hid hbl
        go_wp2_with (at_builtin; go_loud (refine wpList_append_any _ rfl _ _ 43 rfl w.heap.size 32 i0 (.int .u64 0) 1 8 Tryd.underlying43 hi hz0' hz1' hz2' rfl (by decide) _ _ _ rfl (hown.out.alloc _) (wr.heap.size + 1) (some ⟨wr.heap.size, 0, none⟩) 1 1 [.int .u64 0] rfl (reads_wordB wr 0) (by simp [Value.oneCell']) (by unfold maxLen; omega) (by omega) (by have := hbl.out.size; simp; omega) ?_; intro v' w6 hown6 hgrow hloc; have hb6 := row_below (Nat.le_refl _) (Below.more_ hbl.out (.cells #[.int .u64 0] 32)) (hown.out.alloc _) hgrow; have hsl := slice_someM hown6 (by omega); replace hown6 := Lib.hid hown6; clear hgrow hloc; replace hb6 := Lib.hid hb6; obtain ⟨g6, cp6, rfl⟩ := hsl))
        go_roundw
        case rel => exact ⟨⟨k + 1, g6, cp6, by omega, by go_num, rfl, by rw [List.replicate_succ']; exact hown6.out⟩, hb6.out⟩
        case measure => simp [intOf]; omega
      · have d3 : decide ((k : Int) < (m : Int)) = false := by simpa using hlt
        have hkm : k = m := by omega
        subst hkm
        obtain ⟨A, cap, R, hX, hR, hlen, ht⟩ := h.out.ex
        have hX1 := hX.below hbl hX.lt
        have hX2 := fun o => hX1.alloc o
        have c0 : wr.cell? ⟨xb, 0, none⟩ = some (.slice A R.length cap) := hX1.cell 0
        have hxl := hX1.lt
        have hxw := hX.lt
        have hRL : R.length ≤ 1000000 := by omega
        have hwl : IntKind.u64.wrap ((R.length + 1 : Nat) : Int) = S.last + 1 := by rw [IntKind.wrap_u64]; omega
        have hrow : wr.ownsRow 0 73 3 (.slice A R.length cap) R.length (rCs R) := by
          rcases hR.row with ⟨rfl, rfl, rfl⟩ | ⟨gv, rfl, hgF, hS⟩
          · exact World.ownsRow_nil _ _ _ _
          · exact (hS.keep (hbl.block gv hS.lt)).own
        have hmade : ∀ (w5 : World) (g5 cap5 : Nat), _ → _ → _ → ∀ r, _ := fun w5 g5 cap5 h5 hg hloc r => h.out.made (w5 := w5) (g5 := g5) (cap5 := cap5) t hX hR hlen ht hbl hown h5 hg hloc r
        have hXn : (Value.slice A R.length cap).ownBlock ≠ some xb := by
          rcases hR.row with ⟨rfl, _, _⟩ | ⟨gv, rfl, hgF, hS⟩
          · simp [Value.ownBlock]
          · obtain ⟨cur, h6, _⟩ := hS.ex
            have := h6.ne_ hX (by decide)
            simp only [Value.ownBlock, ne_eq, Option.some.injEq]
            exact this
        replace hmade := Lib.hid hmade
        replace hown := Lib.hid hown
        replace hbl := Lib.hid hbl
        replace hX := Lib.hid hX
        replace hX1 := Lib.hid hX1
        replace hR := Lib.hid hR
        replace hlen := Lib.hid hlen
        replace hrow := Lib.hid hrow
        clear hX2
        generalize hn1 : R.length = nR at *
        replace hn1 := Lib.hid hn1
        go_wp2_with (at_builtin; go_loud (refine wpList_append_any _ rfl _ _ 28 rfl 0 73 i9 (.agg #[.slice none 0 0, .string ⟨#[]⟩, .bool false]) 3 48 Tryd.underlying28 hi9 hz9 hy9 hb9 rfl (by decide) _ _ _ rfl (hrow.out.alloc _) (wr.heap.size + 1) (some ⟨wr.heap.size, 0, none⟩) 1 1 [.slice (some ⟨g, 0, none⟩) k cp, .string t, .bool false] rfl (reads_blkM (Blk.new wr 73 _) 3 1 rfl (by decide)) (by simp [Value.oneCell']) (by unfold maxLen; omega) (by omega) (Nat.zero_le _) ?_; intro v' w5 hown5 hgrow hloc; have hsl := slice_someM hown5 (by omega); obtain ⟨g5, cp5, rfl⟩ := hsl; have hX5 := (hX1.out.alloc _).keep (hgrow.block xb (by simp; omega) (fun e => hXn e.symm)); have f5 := hX5.frozen 0; have e5 := hX5.cell 0; have hw5 : xb < w5.heap.size := hX5.lt; have hfin := hmade.out w5 g5 cp5 hown5 hgrow hloc; replace hX5 := Lib.hid hX5; replace hfin := Lib.hid hfin; replace hown5 := Lib.hid hown5; replace hgrow := Lib.hid hgrow; clear hloc))
        go_ret
        exact fun r => ⟨by rw [← hlen.out]; rfl, hfin.out r⟩
  · have hmk : ∀ r, S.make n t r = (0, S) := fun r => by unfold PHeap.make; rw [if_neg hn]
    simp only [hmk]
    have hst : RTurned F xb S w w := RTurned.still h (Below.refl _ _)
    replace hmk := Lib.hid hmk
    replace hst := Lib.hid hst
    by_cases h0 : n < 0
    · have d1 : decide (n < 0) = true := by simpa using h0
      clear hn
      go_enter Tryd.func40, Tryd.ntmps40
      go_wp2_with fail
      go_ret
      first | exact fun _ => ⟨rfl, hst.out⟩ | exact ⟨rfl, hst.out⟩
    · have d1 : decide (n < 0) = false := by simpa using h0
      have d2 : decide ((256 : Int) < n) = true := by simp; omega
      clear hn
      go_enter Tryd.func40, Tryd.ntmps40
      go_wp2_with fail
      go_ret
      first | exact fun _ => ⟨rfl, hst.out⟩ | exact ⟨rfl, hst.out⟩
end Go.Proofs.YtjoaifdjmdihoaaDoor
