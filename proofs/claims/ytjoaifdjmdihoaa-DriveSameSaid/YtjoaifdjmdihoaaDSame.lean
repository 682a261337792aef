/-
  The walk over the law that one routine alone is as if it went alone (layer 19). No condition. (UNDER WAY)
-/
import Derived.Test.YtjoaifdjmdihoaaRowB
import Derived.Test.YtjoaifdjmdihoaaRun
import Derived.Test.YtjoaifdjmdihoaaShort
import Derived.Sort.CutIn
import Derived.Test.YtjoaifdjmdihoaaRange2
import Derived.Test.YtjoaifdjmdihoaaLexIn
namespace Go.Proofs.Ytjoaifdjmdihoaa
set_option linter.unusedVariables false
open Go.ChangeShapes Go.WideShapes Go.ChangeAt Go.RowKit Go.Shelf
open Go.ChangeMaps (setBlock)
attribute [local go_sem] Oper.semAt_some
theorem runs_l {A : Option Addr} {cap : Nat} {o : Option Obj} : ∀ (xs : List (PAct × PGot)) {S S' : PHeap} {s s' : PRow}, Runs (rowRout A cap o) S s xs S' s' → s'.l = s.l
  | [], _, _, _, _, h => by rw [h.2]
  | x :: xs, _, _, _, _, h => by
    obtain ⟨_, r, _, h⟩ := h
    have := runs_l xs h
    exact this
theorem slice_own19 {w : World} {base : Nat} {e : TypeId} {size n : Nat} {v : Value} {xs : List Value} (h : w.ownsRow base e size v n xs) : ∃ A c, v = .slice A n c := by
  rcases h.2 with ⟨rfl, rfl⟩ | ⟨g, cap, _, rfl, _⟩
  · exact ⟨none, 0, rfl⟩
  · exact ⟨_, cap, rfl⟩
/-- What stays while the other routine goes: the result, the steps of the first one, how many were told. -/
structure SameCl (Z0 : Nat → Prop) (w : World) (rb gb ib ha B : Nat) (v : Value) (xs : List (PAct × PGot)) (S5 : PHeap) (F5 : Nat → Prop) (pre : List (PAct × PGot)) (W : World) : Prop where
  res : Blk W rb 4 #[.bool false]
  got : Blk W gb 52 #[v]
  i : Blk W ib 3 #[.int .i64 (pre.length : Nat)]
  own : W.ownsRow B 63 9 v xs.length (xs.flatMap stepC)
  hp : HeapIn W ha S5 F5
  chg : Chg Z0 w W
theorem SameCl.keep {Z0 Z : Nat → Prop} {w : World} {rb gb ib ha B : Nat} {v : Value} {xs : List (PAct × PGot)} {S5 : PHeap} {F5 : Nat → Prop} {pre : List (PAct × PGot)} {W W' : World} (h : SameCl Z0 w rb gb ib ha B v xs S5 F5 pre W) (hc : Chg Z W W')
    (h1 : ¬ Z rb) (h2 : ¬ Z gb) (h3 : ¬ Z ib) (h4 : ∀ g, v.ownBlock = some g → ¬ Z g) (h5 : ∀ k, F5 k → ¬ Z k) (h6 : ∀ k, Z k → Z0 k ∨ w.heap.size ≤ k) : SameCl Z0 w rb gb ib ha B v xs S5 F5 pre W' :=
  ⟨h.res.keep (hc.block _ h.res.lt h1), h.got.keep (hc.block _ h.got.lt h2), h.i.keep (hc.block _ h.i.lt h3), ownsRow_keep h.own fun g hg => hc.block g (own_lt h.own hg).2 (h4 g hg), h.hp.off hc (fun k h1 h2 => h5 k h2 h1), h.chg.trans hc h6⟩
theorem stepC_at : ∀ (l : List (PAct × PGot)) (k : Nat) (a : PAct × PGot), l[k]? = some a → ∀ i : Nat, i < 9 → (l.flatMap stepC)[k * 9 + i]? = (stepC a)[i]?
  | [], k, a, h, i, hi => by simp at h
  | d :: l, 0, a, h, i, hi => by
    have e : d = a := by simpa using h
    subst e
    show (stepC d ++ l.flatMap stepC)[0 * 9 + i]? = _
    rw [List.getElem?_append_left (by show _ < 9; omega)]
    rw [show 0 * 9 + i = i by omega]
  | d :: l, k + 1, a, h, i, hi => by
    have h2 := stepC_at l k a (by simpa using h) i hi
    show (stepC d ++ l.flatMap stepC)[(k + 1) * 9 + i]? = _
    rw [List.getElem?_append_right (by show 9 ≤ _; omega), show (k + 1) * 9 + i - (stepC d).length = k * 9 + i from by show (k + 1) * 9 + i - 9 = _; omega]
    exact h2
theorem eqf19 (f : Fn) (cs bs : Array Value) (w : World) : (binOp .eql 56 (.func f cs bs) .nilFunc).run Try.prog w = .ok (.bool false) w := by kernel_rfl
theorem info_int19 : (Try.prog.info? 3).map (fun i => (i.zero, i.size, i.bytes)) = some (some (.int .i64 0), 1, 8) := by kernel_rfl
set_option maxRecDepth 100000 in
set_option maxHeartbeats 1000000 in
theorem walkSame19 (A : Option Addr) (len cap : Nat) (l : List PAct) (hlen : l.length = len) (hok : ∀ x ∈ l, x.Ok) (hmax : len ≤ maxLen) (n : Int) (hn : 0 ≤ n ∧ n ≤ 255) (w : World) (hr : Reads w w.heap.size 6 A len (act19L l)) :
    Calls Try.prog 5 #[.slice A len cap, .int .u8 n] w fun e w' => e = .returned (.bool true) ∧ Below w.heap.size w w' := by
  have hb0 : Below w.heap.size w (w.alloc (.cells #[.bool false] 4)) := Below.more_ (Below.refl _ _) _
  have hSh := short_any A len cap l hlen hmax (w.alloc (.cells #[.bool false] 4)) ((hr.below hb0).more hb0.size)
  replace hr := Lib.hid hr
  replace hSh := Lib.hid hSh
  have B0 := Blk.new w 4 #[.bool false]
  replace hb0 := Lib.hid hb0
  replace B0 := Lib.hid B0
  refine (callsIn_wide (n := 0)).1 ?_
  refine callsIn_of_wp_marks Try.func5 rfl trivial ?_ rfl
  simp only [Try.ntmps5, List.size_toArray, List.length_cons, List.length_nil, Nat.reduceAdd, Nat.reduceSub, Array.replicate_succ, Array.replicate_zero, List.push_toArray, List.append_toArray, List.nil_append, List.cons_append]
  gi_wp2
  refine ⟨trivial, rfl, (callsIn_wide.2 hSh.out).mono ?_⟩
  rintro e w1 ⟨fb, rfl, hfb, rfl⟩
  cases fb with
  | false =>
    gi_wp2
    refine ⟨trivial, rfl, (callsIn_wide.2 (awake19 _)).mono ?_⟩
    rintro e w7 ⟨rfl, hb7⟩
    have B7 := B0.out.below hb7 B0.out.lt
    have y0 := B7.cell 0
    have g0 := B7.frozen 0
    have hb8 := Below.next_ hb0.out hb7
    have e0 := (B7.set_ 0 (.bool true)).cell 0
    replace hb8 := Lib.hid hb8
    clear hb7
    replace B7 := Lib.hid B7
    gi_wp2
    exact ⟨.bool true, by simp [results, Try.results5, go_sem, e0], rfl, hb8.out.setCell (Nat.le_refl _) _⟩
  | true =>
    have hl60 : len ≤ 60 := by have := hfb rfl; omega
    clear hfb
    gi_wp2
    refine ⟨trivial, rfl, (callsIn_wide.2 (new_sess _)).mono ?_⟩
    rintro e w2 ⟨ha, rfl, s2⟩
    obtain ⟨F2, o2⟩ := Own.of_sess s2
    clear s2
    replace o2 := Lib.hid o2
    gi_wp2
    refine ⟨trivial, rfl, (callsIn_wide.2 (new_sess _)).mono ?_⟩
    rintro e w3 ⟨hb, rfl, s3⟩
    obtain ⟨F3, o3⟩ := Own.of_sess s3
    clear s3
    replace o3 := Lib.hid o3
    obtain ⟨m, rfl⟩ := Int.eq_ofNat_of_zero_le hn.1
    have hm255 : m ≤ 255 := by omega
    obtain ⟨i0, hi, hz0, hz1, hz2⟩ := info_parts info_int19
    have hmk := fun W => run_make_rowN (P := Try.prog) 51 3 i0 (.int .i64 0) Try.underlying51 hi hz0 .i64 .i64 m m (Nat.le_refl _) (by rw [hz2]; omega) (by omega) W
    rw [hz1] at hmk
    clear hi hz0 hz1 hz2
    gi_wp2
    have b4 : Below w3.heap.size w3 ((((w3.alloc (.cells #[.slice A len cap, .int .i64 0, .slice none 0 0] 50)).alloc (.cells #[.slice A len cap, .int .i64 0, .slice none 0 0] 50)).alloc (.cells (madeCells #[.int .i64 0] m) 3)).alloc (.cells #[.iface 47 (.pointer (some ⟨w3.heap.size, 0, none⟩))] 102)) := Below.more_ (Below.more_ (Below.more_ (Below.more_ (Below.refl _ _) _) _) _) _
    have Bx : Blk ((((w3.alloc (.cells #[.slice A len cap, .int .i64 0, .slice none 0 0] 50)).alloc (.cells #[.slice A len cap, .int .i64 0, .slice none 0 0] 50)).alloc (.cells (madeCells #[.int .i64 0] m) 3)).alloc (.cells #[.iface 47 (.pointer (some ⟨w3.heap.size, 0, none⟩))] 102)) w3.heap.size 50 #[.slice A len cap, .int .i64 0, .slice none 0 0] := (((Blk.new w3 _ _).alloc _).alloc _).alloc _
    have By : Blk ((((w3.alloc (.cells #[.slice A len cap, .int .i64 0, .slice none 0 0] 50)).alloc (.cells #[.slice A len cap, .int .i64 0, .slice none 0 0] 50)).alloc (.cells (madeCells #[.int .i64 0] m) 3)).alloc (.cells #[.iface 47 (.pointer (some ⟨w3.heap.size, 0, none⟩))] 102)) (w3.heap.size + 1) 50 #[.slice A len cap, .int .i64 0, .slice none 0 0] := by
      have := ((Blk.new (w3.alloc (.cells #[.slice A len cap, .int .i64 0, .slice none 0 0] 50)) 50 #[.slice A len cap, .int .i64 0, .slice none 0 0]).alloc (.cells (madeCells #[.int .i64 0] m) 3)).alloc (.cells #[.iface 47 (.pointer (some ⟨w3.heap.size, 0, none⟩))] 102)
      rwa [World.size_alloc] at this
    have Bp : Blk ((((w3.alloc (.cells #[.slice A len cap, .int .i64 0, .slice none 0 0] 50)).alloc (.cells #[.slice A len cap, .int .i64 0, .slice none 0 0] 50)).alloc (.cells (madeCells #[.int .i64 0] m) 3)).alloc (.cells #[.iface 47 (.pointer (some ⟨w3.heap.size, 0, none⟩))] 102)) (w3.heap.size + 2) 3 (madeCells #[.int .i64 0] m) := by
      have := (Blk.new ((w3.alloc (.cells #[.slice A len cap, .int .i64 0, .slice none 0 0] 50)).alloc (.cells #[.slice A len cap, .int .i64 0, .slice none 0 0] 50)) 3 (madeCells #[.int .i64 0] m)).alloc (.cells #[.iface 47 (.pointer (some ⟨w3.heap.size, 0, none⟩))] 102)
      rwa [World.size_alloc, World.size_alloc] at this
    have Br : Blk ((((w3.alloc (.cells #[.slice A len cap, .int .i64 0, .slice none 0 0] 50)).alloc (.cells #[.slice A len cap, .int .i64 0, .slice none 0 0] 50)).alloc (.cells (madeCells #[.int .i64 0] m) 3)).alloc (.cells #[.iface 47 (.pointer (some ⟨w3.heap.size, 0, none⟩))] 102)) (w3.heap.size + 3) 102 #[.iface 47 (.pointer (some ⟨w3.heap.size, 0, none⟩))] := by
      have := Blk.new (((w3.alloc (.cells #[.slice A len cap, .int .i64 0, .slice none 0 0] 50)).alloc (.cells #[.slice A len cap, .int .i64 0, .slice none 0 0] 50)).alloc (.cells (madeCells #[.int .i64 0] m) 3)) 102 #[.iface 47 (.pointer (some ⟨w3.heap.size, 0, none⟩))]
      rwa [World.size_alloc, World.size_alloc, World.size_alloc] at this
    have hs4 : (((((w3.alloc (.cells #[.slice A len cap, .int .i64 0, .slice none 0 0] 50)).alloc (.cells #[.slice A len cap, .int .i64 0, .slice none 0 0] 50)).alloc (.cells (madeCells #[.int .i64 0] m) 3)).alloc (.cells #[.iface 47 (.pointer (some ⟨w3.heap.size, 0, none⟩))] 102))).heap.size = w3.heap.size + 4 := by simp
    generalize ((((w3.alloc (.cells #[.slice A len cap, .int .i64 0, .slice none 0 0] 50)).alloc (.cells #[.slice A len cap, .int .i64 0, .slice none 0 0] 50)).alloc (.cells (madeCells #[.int .i64 0] m) 3)).alloc (.cells #[.iface 47 (.pointer (some ⟨w3.heap.size, 0, none⟩))] 102)) = W4 at *
    have hs1 : (w.alloc (.cells #[.bool false] 4)).heap.size = w.heap.size + 1 := by simp
    have b23 := o3.out.below
    have b12 := o2.out.below
    have bw3 : Below w.heap.size w W4 := Below.next_ (Below.next_ (Below.next_ hb0.out b12) b23) b4
    have hz3 : w.heap.size + 1 ≤ w3.heap.size := by have := b12.size; have := b23.size; omega
    have hRd := hr.out.below bw3
    have hok' := hok
    have hRx := row_new (l := l) (B := w.heap.size) (A := A) (cap := cap) (b := w3.heap.size) (by rw [hlen]; exact Bx) (by rw [hlen]; exact hRd) bw3.size (by omega) (by omega) hok
    have hRy := row_new (l := l) (B := w.heap.size) (A := A) (cap := cap) (b := w3.heap.size + 1) (by rw [hlen]; exact By) (by rw [hlen]; exact hRd) bw3.size (by omega) (by omega) hok
    obtain ⟨ob, hob⟩ : ∃ ob, rowObj A W4 = ob := ⟨_, rfl⟩
    rw [hob] at hRx hRy
    have hadl : ∀ ad, A = some ad → 0 < len → ad.block < w.heap.size := fun ad e h0 => by
      obtain ⟨ad', e', h1, _⟩ := hRd.2 h0
      rw [e] at e'
      cases e'
      exact h1
    have hGx : ∀ k, rowG A l.length w3.heap.size k → k = w3.heap.size ∨ k < w.heap.size := fun k hk => hk.imp id fun ⟨ad, e, h0, h⟩ => by rw [h]; exact hadl ad e (by omega)
    have hH := (o2.out.keep b23).heap.below b4
    have hF2 := o2.out.heap.own
    have hF2n := o2.out.new
    have hRun := run_any (rowRout A cap ob) hH hRx (fun k h1 h2 => by have := hF2 k h1; have := hF2n k h1; have := b23.size; rcases hGx k h2 with h | h <;> omega) (by decide) (by decide) (w3.heap.size + 3) Br (fun h => by
        have := b23.size
        rcases h with h | h
        · have := hF2 _ h; omega
        · rcases hGx _ h with h | h <;> omega)
      (some ⟨w3.heap.size + 2, 0, none⟩) m m (by
        have := reads_blk (n := m) (size := 1) (B := W4.heap.size) Bp (by omega) (by rw [← Array.length_toList, toList_madeCells_one]; simp)
        rwa [toList_madeCells_one] at this) (fun ad e _ h => by
        cases e
        have := b23.size
        rcases h with h | h
        · have := hF2 _ h; simp only at this; omega
        · rcases hGx _ h with h | h <;> simp only at h <;> omega) hm255
    replace hRun := Lib.hid hRun
    refine ⟨trivial, rfl, (callsIn_wide.2 hRun.out).mono ?_⟩
    rintro e w5 ⟨v, rfl, xs, S5, s5, F5, G5, hruns5, hst5, hle5, hin5⟩
    have hAt : ∀ (j : Nat) ad, A = some ad → 0 < len → W4.heap[ad.block]? = ob := fun _ ad e _ => by rw [← hob, e]; rfl
    have hRt5 := hin5.rt
    have hsl : s5.l = l := runs_l xs hruns5
    have hAd5 : ∀ ad, A = some ad → 0 < len → G5 ad.block ∧ w5.heap[ad.block]? = ob := fun ad e h0 => by
      obtain ⟨_, _, gv, hrow⟩ := hRt5
      obtain ⟨ad', e', h1, _, h3, _⟩ := hrow.args (by rw [hsl, hlen]; exact h0)
      rw [e] at e'
      cases e'
      exact ⟨h1, h3⟩
    have hF3 := o3.out.heap.own
    have hF3n := o3.out.new
    have hFGx : ∀ k, (F2 k ∨ rowG A l.length w3.heap.size k) → ¬ F3 k := fun k h1 h2 => by
      have := hF3 k h2
      have := hF3n k h2
      have := b12.size
      rcases h1 with h1 | h1
      · have := hF2 k h1; omega
      · rcases hGx k h1 with h | h <;> omega
    have hH5 : HeapIn w5 hb ⟨[], 0, false, 0⟩ F3 := (o3.out.heap.below b4).off hin5.chg hFGx
    have hs45 := hin5.chg.size
    have hRy5 : (rowRout A cap ob).R w5 (rowG A l.length (w3.heap.size + 1)) (w3.heap.size + 1) ⟨l, 0, []⟩ := (rowRout A cap ob).keep hRy hs45 fun k hk => by
      rcases hk with rfl | ⟨ad, e, h0, rfl⟩
      · refine hin5.chg.block _ (by omega) (fun h => ?_)
        have := b23.size
        rcases h with h | h
        · have := hF2 _ h; omega
        · rcases hGx _ h with h | h <;> omega
      · rw [(hAd5 ad e (by omega)).2, hAt 0 ad e (by omega)]
    obtain ⟨A5, c5, rfl⟩ := slice_own19 hin5.own
    gi_wp2
    refine ⟨trivial, rfl, (callsIn_wide.2 (steps_mk _ _ _ _ ⟨_, rfl⟩ ⟨_, _, rfl⟩)).mono ?_⟩
    rintro e w6 ⟨rfl, rfl⟩
    have heqf := eqf19
    gi_wp2
    have b6 : Below w5.heap.size w5 (((((w5.alloc (.cells #[(.slice A5 xs.length c5)] 52)).alloc (.cells #[.int .i64 0] 3)).alloc (.cells #[.pointer (some ⟨hb, 0, none⟩)] 25)).alloc (.cells #[.iface 47 (.pointer (some ⟨w3.heap.size + 1, 0, none⟩))] 102)).alloc (.cells #[.int .i64 m] 3)) := Below.more_ (Below.more_ (Below.more_ (Below.more_ (Below.more_ (Below.refl _ _) _) _) _) _) _
    have Bg : Blk (((((w5.alloc (.cells #[(.slice A5 xs.length c5)] 52)).alloc (.cells #[.int .i64 0] 3)).alloc (.cells #[.pointer (some ⟨hb, 0, none⟩)] 25)).alloc (.cells #[.iface 47 (.pointer (some ⟨w3.heap.size + 1, 0, none⟩))] 102)).alloc (.cells #[.int .i64 m] 3)) w5.heap.size 52 #[(.slice A5 xs.length c5)] := ((((Blk.new w5 _ _).alloc _).alloc _).alloc _).alloc _
    have Bi : Blk (((((w5.alloc (.cells #[(.slice A5 xs.length c5)] 52)).alloc (.cells #[.int .i64 0] 3)).alloc (.cells #[.pointer (some ⟨hb, 0, none⟩)] 25)).alloc (.cells #[.iface 47 (.pointer (some ⟨w3.heap.size + 1, 0, none⟩))] 102)).alloc (.cells #[.int .i64 m] 3)) (w5.heap.size + 1) 3 #[.int .i64 0] := by
      have := (((Blk.new (w5.alloc (.cells #[(.slice A5 xs.length c5)] 52)) 3 #[.int .i64 0]).alloc (.cells #[.pointer (some ⟨hb, 0, none⟩)] 25)).alloc (.cells #[.iface 47 (.pointer (some ⟨w3.heap.size + 1, 0, none⟩))] 102)).alloc (.cells #[.int .i64 m] 3)
      rwa [World.size_alloc] at this
    have Bh : Blk (((((w5.alloc (.cells #[(.slice A5 xs.length c5)] 52)).alloc (.cells #[.int .i64 0] 3)).alloc (.cells #[.pointer (some ⟨hb, 0, none⟩)] 25)).alloc (.cells #[.iface 47 (.pointer (some ⟨w3.heap.size + 1, 0, none⟩))] 102)).alloc (.cells #[.int .i64 m] 3)) (w5.heap.size + 2) 25 #[.pointer (some ⟨hb, 0, none⟩)] := by
      have := ((Blk.new ((w5.alloc (.cells #[(.slice A5 xs.length c5)] 52)).alloc (.cells #[.int .i64 0] 3)) 25 #[.pointer (some ⟨hb, 0, none⟩)]).alloc (.cells #[.iface 47 (.pointer (some ⟨w3.heap.size + 1, 0, none⟩))] 102)).alloc (.cells #[.int .i64 m] 3)
      rwa [World.size_alloc, World.size_alloc] at this
    have Bq : Blk (((((w5.alloc (.cells #[(.slice A5 xs.length c5)] 52)).alloc (.cells #[.int .i64 0] 3)).alloc (.cells #[.pointer (some ⟨hb, 0, none⟩)] 25)).alloc (.cells #[.iface 47 (.pointer (some ⟨w3.heap.size + 1, 0, none⟩))] 102)).alloc (.cells #[.int .i64 m] 3)) (w5.heap.size + 3) 102 #[.iface 47 (.pointer (some ⟨w3.heap.size + 1, 0, none⟩))] := by
      have := (Blk.new (((w5.alloc (.cells #[(.slice A5 xs.length c5)] 52)).alloc (.cells #[.int .i64 0] 3)).alloc (.cells #[.pointer (some ⟨hb, 0, none⟩)] 25)) 102 #[.iface 47 (.pointer (some ⟨w3.heap.size + 1, 0, none⟩))]).alloc (.cells #[.int .i64 m] 3)
      rwa [World.size_alloc, World.size_alloc, World.size_alloc] at this
    have Bm : Blk (((((w5.alloc (.cells #[(.slice A5 xs.length c5)] 52)).alloc (.cells #[.int .i64 0] 3)).alloc (.cells #[.pointer (some ⟨hb, 0, none⟩)] 25)).alloc (.cells #[.iface 47 (.pointer (some ⟨w3.heap.size + 1, 0, none⟩))] 102)).alloc (.cells #[.int .i64 m] 3)) (w5.heap.size + 4) 3 #[.int .i64 m] := by
      have := Blk.new ((((w5.alloc (.cells #[(.slice A5 xs.length c5)] 52)).alloc (.cells #[.int .i64 0] 3)).alloc (.cells #[.pointer (some ⟨hb, 0, none⟩)] 25)).alloc (.cells #[.iface 47 (.pointer (some ⟨w3.heap.size + 1, 0, none⟩))] 102)) 3 #[.int .i64 m]
      rwa [World.size_alloc, World.size_alloc, World.size_alloc, World.size_alloc] at this
    have hs6 : ((((((w5.alloc (.cells #[(.slice A5 xs.length c5)] 52)).alloc (.cells #[.int .i64 0] 3)).alloc (.cells #[.pointer (some ⟨hb, 0, none⟩)] 25)).alloc (.cells #[.iface 47 (.pointer (some ⟨w3.heap.size + 1, 0, none⟩))] 102)).alloc (.cells #[.int .i64 m] 3))).heap.size = w5.heap.size + 5 := by simp
    generalize (((((w5.alloc (.cells #[(.slice A5 xs.length c5)] 52)).alloc (.cells #[.int .i64 0] 3)).alloc (.cells #[.pointer (some ⟨hb, 0, none⟩)] 25)).alloc (.cells #[.iface 47 (.pointer (some ⟨w3.heap.size + 1, 0, none⟩))] 102)).alloc (.cells #[.int .i64 m] 3)) = W0 at *
    have hF5 : ∀ k, F5 k → ¬ (F3 k ∨ rowG A l.length (w3.heap.size + 1) k ∨ W0.heap.size + 2 ≤ k) := fun k h1 h2 => by
      have hlt := hin5.heap.own k h1
      have := b23.size
      have := b12.size
      have hs := hin5.sub k (.inl h1)
      rcases h2 with h2 | ⟨rfl | ⟨ad, e, h0, rfl⟩⟩ | h2
      · have := hF3 k h2
        have := hF3n k h2
        rcases hs with (hs | hs) | hs
        · have := hF2 k hs; omega
        · rcases hGx k hs with h | h <;> omega
        · omega
      · rcases hs with (hs | hs) | hs
        · have := hF2 _ hs; omega
        · rcases hGx _ hs with h | h <;> omega
        · omega
      · exact hin5.off _ h1 (hAd5 ad e (by omega)).1
      · omega
    have hv5 : ∀ g, Value.ownBlock (.slice A5 xs.length c5) = some g → W4.heap.size ≤ g ∧ g < w5.heap.size := fun g hg => own_lt hin5.own hg
    have hZn : ∀ j, w3.heap.size + 2 ≤ j → j < W0.heap.size + 2 → ¬ (F3 j ∨ rowG A l.length (w3.heap.size + 1) j ∨ W0.heap.size + 2 ≤ j) := fun j h1 h2 h => by
      rcases h with h | ⟨rfl | ⟨ad, e, h0, rfl⟩⟩ | h
      · have := hF3 j h; omega
      · omega
      · have := hadl ad e (by omega); omega
      · omega
    have hZw : ¬ (F3 w.heap.size ∨ rowG A l.length (w3.heap.size + 1) w.heap.size ∨ W0.heap.size + 2 ≤ w.heap.size) := fun h => by
      rcases h with h | ⟨h | ⟨ad, e, h0, h⟩⟩ | h
      · have := hF3n _ h; have := b12.size; omega
      · omega
      · have := hadl ad e (by omega); omega
      · omega
    have hZ0 : ∀ k, (F3 k ∨ rowG A l.length (w3.heap.size + 1) k ∨ W0.heap.size + 2 ≤ k) → (∃ ad, A = some ad ∧ 0 < len ∧ k = ad.block) ∨ w.heap.size ≤ k := fun k h => by
      rcases h with h | ⟨rfl | ⟨ad, e, h0, rfl⟩⟩ | h
      · have := hF3n _ h; have := b12.size; exact .inr (by omega)
      · exact .inr (by omega)
      · exact .inl ⟨ad, e, by omega, rfl⟩
      · exact .inr (by omega)
    have hCl : ∀ pre W W', SameCl (fun k => ∃ ad, A = some ad ∧ 0 < len ∧ k = ad.block) w w.heap.size w5.heap.size (w5.heap.size + 1) ha W4.heap.size (.slice A5 xs.length c5) xs S5 F5 pre W → Chg (fun k => F3 k ∨ rowG A l.length (w3.heap.size + 1) k ∨ W0.heap.size + 2 ≤ k) W W' → SameCl (fun k => ∃ ad, A = some ad ∧ 0 < len ∧ k = ad.block) w w.heap.size w5.heap.size (w5.heap.size + 1) ha W4.heap.size (.slice A5 xs.length c5) xs S5 F5 pre W' := fun pre W W' h hc =>
      h.keep hc hZw (hZn _ (by omega) (by omega)) (hZn _ (by omega) (by omega)) (fun g hg => hZn _ (by have := hv5 g hg; omega) (by have := hv5 g hg; omega)) hF5 hZ0
    have hCp : ∀ pre W o, SameCl (fun k => ∃ ad, A = some ad ∧ 0 < len ∧ k = ad.block) w w.heap.size w5.heap.size (w5.heap.size + 1) ha W4.heap.size (.slice A5 xs.length c5) xs S5 F5 pre W → SameCl (fun k => ∃ ad, A = some ad ∧ 0 < len ∧ k = ad.block) w w.heap.size w5.heap.size (w5.heap.size + 1) ha W4.heap.size (.slice A5 xs.length c5) xs S5 F5 pre (W.putObj (W0.heap.size + 1) o) := fun pre W o h =>
      h.keep (Z := fun k => k = W0.heap.size + 1) ⟨rfl, rfl, rfl, by simp [World.putObj], fun k _ hn => World.putObj_heap_other (by omega)⟩ (by omega) (by omega) (by omega) (fun g hg => by have := hv5 g hg; omega) (fun k hk => by have := hin5.heap.own k hk; omega) (fun k hk => .inr (by omega))
    have bw5 : Chg (fun k => ∃ ad, A = some ad ∧ 0 < len ∧ k = ad.block) w w5 := (Chg.of_below bw3 _).trans hin5.chg (fun k hk => by
      rcases hk with h | ⟨rfl | ⟨ad, e, h0, rfl⟩⟩
      · have := hF2n k h; exact .inr (by omega)
      · exact .inr (by omega)
      · exact .inl ⟨ad, e, by omega, rfl⟩)
    have Bres : Blk w5 w.heap.size 4 #[.bool false] := by
      have h1 := (((B0.out.below b12 B0.out.lt).below b23 (by have := b12.size; omega)).below b4 (by omega))
      refine h1.keep (hin5.chg.block _ (by omega) (fun h => ?_))
      rcases h with h | ⟨h | ⟨ad, e, h0, h⟩⟩
      · have := hF2n _ h; omega
      · omega
      · have := hadl ad e (by omega); omega
    have start : ∀ o, Mid (rowRout A cap ob) (fun k => F3 k ∨ rowG A l.length (w3.heap.size + 1) k ∨ W0.heap.size + 2 ≤ k) hb (w3.heap.size + 1) (w5.heap.size + 4) (w5.heap.size + 2) (w5.heap.size + 3) (m : Int) ⟨[], 0, false, 0⟩ ⟨l, 0, []⟩ [] ((W0.alloc (.deferred (some []))).alloc o) ∧ SameCl (fun k => ∃ ad, A = some ad ∧ 0 < len ∧ k = ad.block) w w.heap.size w5.heap.size (w5.heap.size + 1) ha W4.heap.size (.slice A5 xs.length c5) xs S5 F5 [] ((W0.alloc (.deferred (some []))).alloc o) := by
      intro o
      have b7 : Below W0.heap.size W0 ((W0.alloc (.deferred (some []))).alloc o) := ((Below.refl _ _).alloc (Nat.le_refl _) _).alloc (by simp) _
      have b8 : Below w5.heap.size w5 ((W0.alloc (.deferred (some []))).alloc o) := Below.next_ b6 b7
      refine ⟨⟨⟨_, _, F3, rowG A l.length (w3.heap.size + 1), ⟨rfl, rfl⟩, hH5.below b8, Rout.below _ hRy5 b8, fun k h1 h2 => ?_, fun k hk => hk.elim .inl (fun h => .inr (.inl h))⟩, Bm.below b7 Bm.lt, Bh.below b7 Bh.lt, Bq.below b7 Bq.lt, .inr rfl⟩, ⟨Bres.below b8 (by omega), Bg.below b7 Bg.lt, Bi.below b7 Bi.lt, ownsRow_keep hin5.own fun g hg => b8.block g (hv5 g hg).2, hin5.heap.below b8, bw5.next_ b8⟩⟩
      have := hF3 k h1
      have := hF3n k h1
      have := b12.size
      rcases h2 with h | ⟨ad, e, h0, h⟩
      · omega
      · have := hadl ad e (by omega); omega
    refine rangeFunc_eff2 (gf := 49) (lb := #[.pointer (some ⟨w5.heap.size + 1 + 1 + 2, 0, none⟩), .pointer (some ⟨w5.heap.size + 1 + 1, 0, none⟩), .pointer (some ⟨w5.heap.size + 1 + 1 + 1, 0, none⟩)]) rfl (enters_of Try.func49 (by kernel_rfl) rfl) (encs := encS) (fun _ => rfl)
      (fun pre W => Mid (rowRout A cap ob) (fun k => F3 k ∨ rowG A l.length (w3.heap.size + 1) k ∨ W0.heap.size + 2 ≤ k) hb (w3.heap.size + 1) (w5.heap.size + 4) (w5.heap.size + 2) (w5.heap.size + 3) (m : Int) ⟨[], 0, false, 0⟩ ⟨l, 0, []⟩ pre W ∧ SameCl (fun k => ∃ ad, A = some ad ∧ 0 < len ∧ k = ad.block) w w.heap.size w5.heap.size (w5.heap.size + 1) ha W4.heap.size (.slice A5 xs.length c5) xs S5 F5 pre W)
      (fun pre x W => Mid (rowRout A cap ob) (fun k => F3 k ∨ rowG A l.length (w3.heap.size + 1) k ∨ W0.heap.size + 2 ≤ k) hb (w3.heap.size + 1) (w5.heap.size + 4) (w5.heap.size + 2) (w5.heap.size + 3) (m : Int) ⟨[], 0, false, 0⟩ ⟨l, 0, []⟩ (pre ++ [x]) W ∧ SameCl (fun k => ∃ ad, A = some ad ∧ 0 < len ∧ k = ad.block) w w.heap.size w5.heap.size (w5.heap.size + 1) ha W4.heap.size (.slice A5 xs.length c5) xs S5 F5 pre W)
      (fun ys W => Fin (rowRout A cap ob) (fun k => F3 k ∨ rowG A l.length (w3.heap.size + 1) k ∨ W0.heap.size + 2 ≤ k) hb (w3.heap.size + 1) (m : Int) ⟨[], 0, false, 0⟩ ⟨l, 0, []⟩ ys W ∧ SameCl (fun k => ∃ ad, A = some ad ∧ 0 < len ∧ k = ad.block) w w.heap.size w5.heap.size (w5.heap.size + 1) ha W4.heap.size (.slice A5 xs.length c5) xs S5 F5 ys W)
      (start _) (fun _ o' _ => start o') ?hI ?hE ?hiter ?a1 (fun x W => W.alloc (.cells #[.int .i64 0, .int .i64 x.1.kind, .int .u64 x.1.block, .int .i64 x.1.cell, .int .u64 x.1.old, .int .u64 x.1.new, .string x.1.text, .int .u64 x.2.word, .string x.2.text] 63)) (fun x W => Below.more_ (Below.refl _ _) _) ?hassign ?hbody ?hdone
    case hI =>
      rintro pre W o ⟨h1, h2⟩
      exact ⟨Mid.off _ h1 (by simp [World.putObj]) (put_same W _ o) (hZn _ (by omega) (by omega)) (by omega) (by omega) (by omega), hCp _ _ _ h2⟩
    case hE =>
      rintro pre W o ⟨h1, h2⟩
      exact ⟨Fin.off _ h1 (by simp [World.putObj]) (put_same W _ o) (hZn _ (by omega) (by omega)), hCp _ _ _ h2⟩
    case hiter =>
      intro rec W hI hB hY
      exact steps_iter (rowRout A cap ob) (fun k => F3 k ∨ rowG A l.length (w3.heap.size + 1) k ∨ W0.heap.size + 2 ≤ k) (W0.heap.size + 2) (fun k hk => .inr (.inr hk)) hb (w3.heap.size + 1) (w5.heap.size + 4) (w5.heap.size + 2) (w5.heap.size + 3) m (by omega) ⟨[], 0, false, 0⟩ (by decide) (by decide) ⟨l, 0, []⟩ (SameCl (fun k => ∃ ad, A = some ad ∧ 0 < len ∧ k = ad.block) w w.heap.size w5.heap.size (w5.heap.size + 1) ha W4.heap.size (.slice A5 xs.length c5) xs S5 F5) hCl _ _ (hZn _ (by omega) (by omega)) (hZn _ (by omega) (by omega)) (hZn _ (by omega) (by omega)) (hZn _ (by omega) (by omega)) (hZn _ (by omega) (by omega)) rec (fun pre x W1 h1 h2 h3 => hY pre x W1 ⟨h1, h2⟩ h3) W hI.1 hI.2 hB (by omega)
    case hassign =>
      intro lo x W K hK
      rw [show (#[44] : Array Tmp).zip (encS x) = #[(44, stepV 0 x.1 x.2)] from by apply Array.ext'; simp [encS]]
      rw [show stepV 0 x.1 x.2 = .agg #[.int .i64 0, .int .i64 x.1.kind, .int .u64 x.1.block, .int .i64 x.1.cell, .int .u64 x.1.old, .int .u64 x.1.new, .string x.1.text, .int .u64 x.2.word, .string x.2.text] from rfl]
      gi_wp2
      exact hK
    case hbody =>
      rintro pre ⟨⟨xk, xb, xc, xo, xn, xt⟩, ⟨gw, gt⟩⟩ W o rec ⟨hM, hC⟩ hlW hB
      have hx : xs[pre.length]? = some (⟨xk, xb, xc, xo, xn, xt⟩, ⟨gw, gt⟩) := by
        obtain ⟨⟨S', s', F', G', hr', _⟩, _, _, _, hlen'⟩ := hM
        refine runs_step (n := m) (rowRout A cap ob) rfl hruns5 hr' ?_ hst5
        rcases hlen' with h | h
        · simp at h; omega
        · simp at h
      have hk := (List.getElem?_eq_some_iff.1 hx).1
      have hCa := hCl _ _ _ hC (Chg.of_below (Below.more_ (Below.refl W.heap.size W) (.cells #[.int .i64 0, .int .i64 xk, .int .u64 xb, .int .i64 xc, .int .u64 xo, .int .u64 xn, .string xt, .int .u64 gw, .string gt] 63)) _)
      have hC1 := hCp _ _ o hCa
      have B13 : Blk ((W.alloc (.cells #[.int .i64 0, .int .i64 xk, .int .u64 xb, .int .i64 xc, .int .u64 xo, .int .u64 xn, .string xt, .int .u64 gw, .string gt] 63)).putObj (W0.heap.size + 1) o) W.heap.size 63 #[.int .i64 0, .int .i64 xk, .int .u64 xb, .int .i64 xc, .int .u64 xo, .int .u64 xn, .string xt, .int .u64 gw, .string gt] := (Blk.new W _ _).keep (World.putObj_heap_other (by omega))
      have hM1 := Mid.off _ (Mid.stay _ hM (Below.more_ (Below.refl W.heap.size W) (.cells #[.int .i64 0, .int .i64 xk, .int .u64 xb, .int .i64 xc, .int .u64 xo, .int .u64 xn, .string xt, .int .u64 gw, .string gt] 63))) (W' := (W.alloc (.cells #[.int .i64 0, .int .i64 xk, .int .u64 xb, .int .i64 xc, .int .u64 xo, .int .u64 xn, .string xt, .int .u64 gw, .string gt] 63)).putObj (W0.heap.size + 1) o) (l := W0.heap.size + 1) (by simp [World.putObj]) (put_same _ _ o) (hZn _ (by omega) (by omega)) (by omega) (by omega) (by omega)
      generalize (W.alloc (.cells #[.int .i64 0, .int .i64 xk, .int .u64 xb, .int .i64 xc, .int .u64 xo, .int .u64 xn, .string xt, .int .u64 gw, .string gt] 63)).putObj (W0.heap.size + 1) o = W1 at *
      obtain ⟨ad, rfl, hcl⟩ : ∃ ad, A5 = some ad ∧ ∀ j u, (xs.flatMap stepC)[pre.length * 9 + j]? = some u → W1.cell? (ad.add (pre.length * 9 + j)) = some u := by
        rcases hC1.own.2 with ⟨h, _⟩ | ⟨g, cp, _, h, _⟩
        · injection h with _ h2 _; omega
        · injection h with h1 _ _
          subst h1
          exact ⟨_, rfl, fun j u hu => hC1.own.cells rfl _ u hu⟩
      have hat := stepC_at xs pre.length _ hx
      have fld : ∀ j, (⟨(ad.add (pre.length * 9)).block, (ad.add (pre.length * 9)).off + (j + 1), none⟩ : Addr) = ad.add (pre.length * 9 + (j + 1)) := fun j => by
        rw [← add_of_add]
        rfl
      have k1 : W1.cell? ⟨(ad.add (pre.length * 9)).block, (ad.add (pre.length * 9)).off + 1, none⟩ = some (.int .i64 xk) := (congrArg W1.cell? (fld 0)).trans (hcl 1 _ ((hat 1 (by omega)).trans rfl))
      have k2 : W1.cell? ⟨(ad.add (pre.length * 9)).block, (ad.add (pre.length * 9)).off + 2, none⟩ = some (.int .u64 xb) := (congrArg W1.cell? (fld 1)).trans (hcl 2 _ ((hat 2 (by omega)).trans rfl))
      have k3 : W1.cell? ⟨(ad.add (pre.length * 9)).block, (ad.add (pre.length * 9)).off + 3, none⟩ = some (.int .i64 xc) := (congrArg W1.cell? (fld 2)).trans (hcl 3 _ ((hat 3 (by omega)).trans rfl))
      have k4 : W1.cell? ⟨(ad.add (pre.length * 9)).block, (ad.add (pre.length * 9)).off + 4, none⟩ = some (.int .u64 xo) := (congrArg W1.cell? (fld 3)).trans (hcl 4 _ ((hat 4 (by omega)).trans rfl))
      have k5 : W1.cell? ⟨(ad.add (pre.length * 9)).block, (ad.add (pre.length * 9)).off + 5, none⟩ = some (.int .u64 xn) := (congrArg W1.cell? (fld 4)).trans (hcl 5 _ ((hat 5 (by omega)).trans rfl))
      have k6 : W1.cell? ⟨(ad.add (pre.length * 9)).block, (ad.add (pre.length * 9)).off + 6, none⟩ = some (.string xt) := (congrArg W1.cell? (fld 5)).trans (hcl 6 _ ((hat 6 (by omega)).trans rfl))
      have k7 : W1.cell? ⟨(ad.add (pre.length * 9)).block, (ad.add (pre.length * 9)).off + 7, none⟩ = some (.int .u64 gw) := (congrArg W1.cell? (fld 6)).trans (hcl 7 _ ((hat 7 (by omega)).trans rfl))
      have k8 : W1.cell? ⟨(ad.add (pre.length * 9)).block, (ad.add (pre.length * 9)).off + 8, none⟩ = some (.string gt) := (congrArg W1.cell? (fld 7)).trans (hcl 8 _ ((hat 8 (by omega)).trans rfl))
      have ci := hC1.i.cell 0
      have cg := hC1.got.cell 0
      have s0 := B13.cell 0
      have s1 := B13.cell 1
      have s2 := B13.cell 2
      have s3 := B13.cell 3
      have s4 := B13.cell 4
      have s5 := B13.cell 5
      have s6 := B13.cell 6
      have s7 := B13.cell 7
      have s8 := B13.cell 8
      have d1 : decide ((xs.length : Int) ≤ (pre.length : Int)) = false := by simp; omega
      have d1n : decide (xs.length ≤ pre.length) = false := by simp; omega
      have i1 : (0 : Int) ≤ (pre.length : Int) := by omega
      have i2 : (pre.length : Int) < (xs.length : Int) := by omega
      have hi1 := hC1.i.frozen 0
      have hpost : ∀ W', (W1.setCell ⟨w5.heap.size + 1, 0, none⟩ (.int .i64 ((pre.length : Int) + 1))).drew = W' → (Mid (rowRout A cap ob) (fun k => F3 k ∨ rowG A l.length (w3.heap.size + 1) k ∨ W0.heap.size + 2 ≤ k) hb (w3.heap.size + 1) (w5.heap.size + 4) (w5.heap.size + 2) (w5.heap.size + 3) (m : Int) ⟨[], 0, false, 0⟩ ⟨l, 0, []⟩ (pre ++ [(⟨xk, xb, xc, xo, xn, xt⟩, ⟨gw, gt⟩)]) W' ∧ SameCl (fun k => ∃ ad, A = some ad ∧ 0 < len ∧ k = ad.block) w w.heap.size w5.heap.size (w5.heap.size + 1) ha W4.heap.size (.slice (some ad) xs.length c5) xs S5 F5 (pre ++ [(⟨xk, xb, xc, xo, xn, xt⟩, ⟨gw, gt⟩)]) W') ∧ Book (W0.heap.size + 1) W0.heap.size rec W' := by
        rintro W' rfl
        have hk' : ∀ k, k ≠ w5.heap.size + 1 → k < W1.heap.size → ((W1.setCell ⟨w5.heap.size + 1, 0, none⟩ (.int .i64 ((pre.length : Int) + 1))).drew).heap[k]? = W1.heap[k]? := fun k hk _ => Below.heap_setCell _ _ _ _ (fun e => hk e)
        have hc : Chg (fun k => k = w5.heap.size + 1) W1 ((W1.setCell ⟨w5.heap.size + 1, 0, none⟩ (.int .i64 ((pre.length : Int) + 1))).drew) := ((Chg.refl (fun k => k = w5.heap.size + 1) W1).setCell (p := ⟨w5.heap.size + 1, 0, none⟩) (.inl rfl) _).drew
        refine ⟨⟨Mid.off _ hM1 hc.size hk' (hZn _ (by omega) (by omega)) (by omega) (by omega) (by omega), ⟨hC1.res.keep (hk' _ (by omega) hC1.res.lt), hC1.got.keep (hk' _ (by omega) hC1.got.lt), (Blk.eq_cs (hC1.i.set_ 0 _) (by simp)).drew, ownsRow_keep hC1.own fun g hg => hk' g (by have := hv5 g hg; omega) (own_lt hC1.own hg).2, hC1.hp.keep hc.size fun k hk => hk' k (by have := hin5.heap.own k hk; omega) (hC1.hp.own k hk), hC1.chg.trans hc (fun k hk => .inr (by omega))⟩⟩, (hk' _ (by omega) (Array.getElem?_eq_some_iff.1 hB.1).1).trans hB.1, (hk' _ (by omega) (Array.getElem?_eq_some_iff.1 hB.2).1).trans hB.2⟩
      replace hpost := Lib.hid hpost
      replace hs6 := Lib.hid hs6
      replace hs4 := Lib.hid hs4
      replace hC1 := Lib.hid hC1
      replace hM1 := Lib.hid hM1
      replace hM := Lib.hid hM
      replace hC := Lib.hid hC
      replace hB := Lib.hid hB
      replace B13 := Lib.hid B13
      replace hx := Lib.hid hx
      replace hlen := Lib.hid hlen
      clear hat hcl fld hCa hCl hCp start
      gi_upto_region 13 with fail
      refine wpIn_region_lex [0, 1, 2, 3, 4, 5, 6, 7, 8, 9, 10, 11, 12, 13, 14, 15, 16, 17, 18, 19, 20, 21, 22, 23] (fun _ => trivial) (by kernel_rfl) (by kernel_rfl) (by kernel_rfl) (fun R hR => ?_)
      iterate 24 (refine lexS_take (v := ?_) rfl (by rfl) ?_ ?_; rotate_left 1; (focus (go_simp; (try with_reducible rfl))); (try simp only [Act.put, List.setIfInBounds_toArray, List.set_cons_zero, List.set_cons_succ]))
      refine (show R _ from hR.out _ ?_)
      clear hR R
      have hpl6 : (pre.length : Int) ≤ 255 := by have := hle5; omega
      gi_wp2
      have hpo := hpost.out _ rfl
      exact hpo
    case hdone =>
      rintro ys W ⟨hFi, hC⟩ hD
      obtain ⟨⟨S', s', F', G', k1, k2, k3, k4, k5, k6, k7⟩⟩ := hFi
      have hyl : ys.length ≤ m := by rcases k7 with h | h; omega; rw [h]; simp
      obtain ⟨hxy, hbare⟩ := runs_same (n := m) (rowRout A cap ob) rfl hruns5 k1 hle5 hyl hst5 (k6.imp (fun h => by omega) id)
      subst hxy
      have hff : S5.faults = S'.faults := by
        have := congrArg PHeap.faults hbare
        exact this
      have hsl' : s'.l = l := runs_l xs k1
      have hobW : ∀ ad, A = some ad → 0 < len → W.heap[ad.block]? = ob := fun ad e h0 => by
        obtain ⟨_, _, gv, hrow⟩ := k3
        obtain ⟨ad', e', _, _, h3, _⟩ := hrow.args (by rw [hsl', hlen]; exact h0)
        rw [e] at e'
        cases e'
        exact h3
      have hbW : Below w.heap.size w W := ⟨hC.chg.os, hC.chg.tape, hC.chg.output, hC.chg.size, fun k hk => by
        by_cases hz : ∃ ad, A = some ad ∧ 0 < len ∧ k = ad.block
        · obtain ⟨ad, e, h0, rfl⟩ := hz
          rw [hobW ad e h0, ← hAt 0 ad e h0]
          exact bw3.block _ hk
        · exact hC.chg.block k hk hz⟩
      have hFa := faults_any hC.hp
      have hFb := faults_any k2
      rw [← hff] at hFb
      have ci := hC.i.cell 0
      have cg := hC.got.cell 0
      have hRl := hC.res.lt
      have hDl : W0.heap.size < W.heap.size := (Array.getElem?_eq_some_iff.1 hD).1
      replace hFa := Lib.hid hFa
      replace hFb := Lib.hid hFb
      replace hC := Lib.hid hC
      replace hbW := Lib.hid hbW
      replace hD := Lib.hid hD
      replace hff := Lib.hid hff
      replace hs6 := Lib.hid hs6
      replace hs4 := Lib.hid hs4
      replace hlen := Lib.hid hlen
      clear k1 k3 k4 k5 k6 k7 hobW hbare hCl hCp start
      gi_wp2
      refine ⟨trivial, rfl, (callsIn_wide.2 hFa.out).mono ?_⟩
      rintro e w8 ⟨rfl, rfl⟩
      gi_wp2
      refine ⟨trivial, rfl, (callsIn_wide.2 hFb.out).mono ?_⟩
      rintro e w8 ⟨rfl, rfl⟩
      gi_wp2
      refine ⟨trivial, rfl, (callsIn_wide.2 (awake19 _)).mono ?_⟩
      rintro e w9 ⟨rfl, hb9⟩
      have R9 := hC.out.res.below hb9 hRl
      have y0 := R9.cell 0
      have g0 := R9.frozen 0
      have hD9 := (hb9.block _ hDl).trans hD.out
      have hbw9 := Below.next_ hbW.out hb9
      replace R9 := Lib.hid R9
      replace hb9 := Lib.hid hb9
      replace hbw9 := Lib.hid hbw9
      replace hD9 := Lib.hid hD9
      have hWl : W0.heap.size ≠ w.heap.size := by have := hs4.out; have := hs6.out; omega
      have hD10 : (w9.setCell ⟨w.heap.size, 0, none⟩ (.bool true)).heap[W0.heap.size]? = some (.deferred (some [])) := (Below.heap_setCell _ _ _ _ hWl).trans hD9.out
      have e0 := fun o' => (World.cell?_of_block (w' := (w9.setCell ⟨w.heap.size, 0, none⟩ (.bool true)).putObj W0.heap.size o') (a := ⟨w.heap.size, 0, none⟩) (World.putObj_heap_other (Ne.symm hWl))).trans ((R9.out.set_ 0 (.bool true)).cell 0)
      have hb10 := hbw9.out.setCell (p := ⟨w.heap.size, 0, none⟩) (Nat.le_refl _) (.bool true)
      replace hb10 := Lib.hid hb10
      replace hD10 := Lib.hid hD10
      gi_wp2
      refine ⟨by simp, .inl ⟨_, _, rfl, run_takeDeferred hD10.out, ?_⟩⟩
      refine ⟨.bool true, by simp [results, Try.results5, go_sem, e0], rfl, ?_⟩
      exact ⟨hb10.out.os, hb10.out.tape, hb10.out.output, by simpa [World.putObj] using hb10.out.size, fun k hk => (World.putObj_heap_other (by have := hs4.out; have := hs6.out; omega)).trans (hb10.out.block k hk)⟩
end Go.Proofs.Ytjoaifdjmdihoaa
