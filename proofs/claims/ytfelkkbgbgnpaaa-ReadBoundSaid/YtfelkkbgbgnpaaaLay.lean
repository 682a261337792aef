import Derived.Test.YtfelkkbgbgnpaaaReadP
import Derived.Test.YtfelkkbgbgnpaaaFindL
import Derived.Test.YtfelkkbgbgnpaaaChainU
import Derived.Deep.CutRange
import Derived.Deep.RegionHeld3
import Derived.StillTailTactics
/-
  What lies in a field, when a key is put, when a version is pushed: the plain law. No condition.
-/
namespace Go.Proofs.Ytfelkkbgbgnpaaa
set_option linter.unusedVariables false
open Go.ChangeShapes Go.WideShapes Go.ChangeAt Go.RowKit
open Go.ChangeMaps (setBlock)

theorem field_laid (c : PCfg) (hc : c.Right) (r : Nat) : Laid (fieldS c r) c (fun _ => none) (fun _ => []) (fun _ => 0) 0 := by
  have hs := ctlSize_eq hc
  have h1 := hc.pins
  have h2 := hc.cap
  have h3 := hc.shelves
  refine ⟨field_shelved c hc r, fun j hj => ⟨0, field_ctl c r _ (by have := kcell_eq hc j; omega), rfl, by decide⟩, fun j hj => field_ctl c r _ (by omega), field_ctl c r 0 (by omega), rfl⟩
theorem Laid.put {S : PHeap} {c : PCfg} {tx : Nat → Option ByteArray} {st : Nat → List PVersion} {pn : Nat → Int} {e : Int} (h : Laid S c tx st pn e) (hc : c.Right) (p : Nat) (hp : (p : Int) < c.shelves) (r : Nat) (t : ByteArray) :
    Laid ((S.more r t).set 1 (kcell c p) (S.last + 1)) c (putT tx p t) st pn e := by
  have hold : ∀ k x, 2 ≤ k → S.find k = some x → ((S.more r t).set 1 (kcell c p) (S.last + 1)).find k = some x := fun k x h2 hx => by
    rw [find_other _ _ _ _ _ (by omega)]
    exact more_find_old hx r t
  have hkp := kcell_eq hc p
  have h1 := hc.pins
  have h2 := hc.cap
  refine ⟨h.shelved.put p hp r t, fun j hj => ?_, fun j hj => ?_, ?_, h.faults⟩
  · obtain ⟨x, k1, k2, k3⟩ := h.stack j hj
    have hkj := kcell_eq hc j
    exact ⟨x, (k1.more r t).other _ (by omega), Chained.mono hold k2, k3⟩
  · exact ((h.pins j hj).more r t).other _ (by omega)
  · exact (h.epoch.more r t).other _ (by omega)
def putS (st : Nat → List PVersion) (p : Nat) (v : PVersion) : Nat → List PVersion := fun j => if j = p then v :: st j else st j
theorem Laid.push {S S1 : PHeap} {c : PCfg} {tx : Nat → Option ByteArray} {st : Nat → List PVersion} {pn : Nat → Int} {e x ep : Int} {r : Nat} {v : PChange} (h : Laid S c tx st pn e) (hc : c.Right) (p : Nat) (hp : (p : Int) < c.shelves) (hl : S.last ≤ 1000000) (hx : CtlAt S (kcell c p + 1) x) (hch : Chained S x (st p))
    (hVS : VS S S1 (S.last + 1) r [ep, x, if v.has then 1 else 0] (verText v)) : Laid (S1.set 1 (kcell c p + 1) (S.last + 1)) c tx (putS st p ⟨S.last + 1, ep, v.has, v.value⟩) pn e := by
  have hone := h.shelved.one
  have hold : ∀ k y, 2 ≤ k → S.find k = some y → (S1.set 1 (kcell c p + 1) (S.last + 1)).find k = some y := fun k y h2 hy => by
    rw [find_other _ _ _ _ _ (by omega), hVS.old k (fun e => by
      have hm := find_mem hy
      have := h.shelved.keys y hm.1
      rw [hm.2] at this
      omega)]
    exact hy
  have hkp := kcell_eq hc p
  have h1 := hc.pins
  have h2 := hc.cap
  have hne : S.last + 1 ≠ 1 := by omega
  refine ⟨⟨fun j hj => ?_, ?_, by show 1 ≤ S1.last; rw [hVS.last]; omega⟩, fun j hj => ?_, fun j hj => ?_, ?_, by show S1.faults = 0; rw [hVS.faults]; exact h.faults⟩
  · obtain ⟨y, k1, k2, k3⟩ := h.shelved.at_ j hj
    have hkj := kcell_eq hc j
    refine ⟨y, (hVS.ctl hne k1).other _ (by omega), k2, fun t ht => ?_⟩
    obtain ⟨k4, b, k5, k6⟩ := k3 t ht
    exact ⟨k4, b, hold _ _ k4 k5, k6⟩
  · exact set_keys hVS.keys
  · by_cases hjp : j = p
    · subst hjp
      refine ⟨S.last + 1, (hVS.ctl hne hx).same _, ?_, by omega⟩
      unfold putS
      rw [if_pos rfl]
      exact hVS.chained h.shelved.keys hone hch _
    · obtain ⟨y, k1, k2, k3⟩ := h.stack j hj
      have hkj := kcell_eq hc j
      unfold putS
      rw [if_neg hjp]
      exact ⟨y, (hVS.ctl hne k1).other _ (by omega), Chained.mono hold k2, k3⟩
  · exact (hVS.ctl hne (h.pins j hj)).other _ (by omega)
  · exact (hVS.ctl hne h.epoch).other _ (by omega)
end Go.Proofs.Ytfelkkbgbgnpaaa

/-
  Laying a version (layer 26's law): what it does to a field. No condition.
-/
namespace Go.Proofs.Ytfelkkbgbgnpaaa
set_option linter.unusedVariables false
open Go.ChangeShapes Go.WideShapes Go.ChangeAt Go.RowKit
open Go.ChangeMaps (setBlock)

set_option maxRecDepth 100000 in
set_option maxHeartbeats 4000000 in
theorem layNo_any {w0 w : World} {hb : Nat} {S : PHeap} {F : Nat → Prop} {K : List (Nat × Obj)} {c : PCfg} {tx : Nat → Option ByteArray} {st : Nat → List PVersion} {pn : Nat → Int} {e ep : Int} {key value : ByteArray} {has : Bool} (hc : c.Right) (o : OwnK w0 hb S F K w) (hL : Laid S c tx st pn e) (hl : S.last ≤ 900)
    (hkey : key.size ≤ 9223372036854775807) (hval : value.size ≤ 1000) (hep : 0 ≤ ep ∧ ep ≤ 18446744073709551615) (h3 : (lookP key (plN c key) tx c.shelves.toNat 0).1 = 3) :
    Calls Try.prog 23 #[.pointer (some ⟨hb, 0, none⟩), .agg #[.int .i64 c.cap, .int .i64 c.pins, .int .i64 c.shelves, .int .i64 c.queue, .int .i64 c.watchers, .int .u64 c.seed], .int .u64 ep, .agg #[.string key, .bool has, .string value]] w fun x w' => ∃ F', x = .returned (.bool false) ∧ OwnK w0 hb S F' K w' := by
  have hNw := fun W => findNew_any c key hkey W
  rw [show c.val = .agg #[.int .i64 c.cap, .int .i64 c.pins, .int .i64 c.shelves, .int .i64 c.queue, .int .i64 c.watchers, .int .u64 c.seed] from rfl] at hNw
  have o1 := (o.add (.cells #[.int .i64 c.cap, .int .i64 c.pins, .int .i64 c.shelves, .int .i64 c.queue, .int .i64 c.watchers, .int .u64 c.seed] 24)).add (.cells #[.string key, .bool has, .string value] 58)
  have hb0 := o.own.below.size
  have B0 := o1.blk (List.mem_cons_of_mem _ (List.mem_cons_self ..))
  have B1 := o1.blk (List.mem_cons_self ..)
  simp only [World.size_alloc] at B1
  have c0 := B0.cell 0
  have c1 := B0.cell 1
  have c2 := B0.cell 2
  have c3 := B0.cell 3
  have c4 := B0.cell 4
  have c5 := B0.cell 5
  have v0 := B1.cell 0
  have hsw := o.own.heap.own
  replace hNw := Lib.hid hNw
  replace o := Lib.hid o
  replace o1 := Lib.hid o1
  replace B0 := Lib.hid B0
  replace B1 := Lib.hid B1
  replace hL := Lib.hid hL
  go_enter Try.func23, Try.ntmps23
  go_wp2_with fail
  refine (hNw.out _).mono ?_; rintro x w1 ⟨b, rfl, hN, hbb, hb1⟩
  simp only [World.size_alloc] at hbb
  have o2 := o1.out.below hb1
  have hA := falone hc o2.own hN (fun h => by have := o1.out.own.heap.own _ h; simp only [World.size_alloc] at this; omega) (by omega) hL.out.shelved hL.out.faults (by omega)
  have hKb : ∀ x ∈ ((w.alloc (.cells #[.int .i64 c.cap, .int .i64 c.pins, .int .i64 c.shelves, .int .i64 c.queue, .int .i64 c.watchers, .int .u64 c.seed] 24)).heap.size, Obj.cells #[.string key, .bool has, .string value] 58) :: (w.heap.size, Obj.cells #[.int .i64 c.cap, .int .i64 c.pins, .int .i64 c.shelves, .int .i64 c.queue, .int .i64 c.watchers, .int .u64 c.seed] 24) :: K, x.1 ≠ b := fun x hx => by have := o1.out.lt hx; simp only [World.size_alloc] at this; omega
  clear hb1 c0 c1 c2 c3 c4 c5 v0
  replace o2 := Lib.hid o2
  replace hN := Lib.hid hN
  replace hA := Lib.hid hA
  replace hKb := Lib.hid hKb
  go_wp2_with fail
  refine (hA.out).mono ?_; rintro x w2 ⟨s, F2, rfl, hLk⟩
  have o3 := o2.out.looked hLk hKb.out
  have hRs := findResult_any hLk.lies
  rw [hLk.res, h3] at hRs
  clear hA hLk
  replace o3 := Lib.hid o3
  replace hRs := Lib.hid hRs
  go_wp2_with fail
  refine (hRs.out).mono ?_; rintro x w3 ⟨rfl, hb3⟩
  have o4 := (o3.out.below hb3).add (.cells #[.int .i64 3, .int .i64 (lookP key (plN c key) tx c.shelves.toNat 0).2.1] 142)
  have R4 := o4.blk (List.mem_cons_self ..)
  have V4 := o4.blk (List.mem_cons_of_mem _ (List.mem_cons_self ..))
  have C4 := o4.blk (List.mem_cons_of_mem _ (List.mem_cons_of_mem _ (List.mem_cons_self ..)))
  simp only [World.size_alloc] at V4
  have r0 := R4.cell 0
  have r1 := R4.cell 1
  have x0 := C4.cell 0
  have x1 := C4.cell 1
  have x2 := C4.cell 2
  have x3 := C4.cell 3
  have x4 := C4.cell 4
  have x5 := C4.cell 5
  have y0 := V4.cell 0
  have y1 := V4.cell 1
  have y2 := V4.cell 2
  have hl4 := R4.lt
  have hl5 := V4.lt
  have hl6 := C4.lt
  simp only [World.size_alloc] at hl4 hl5 hl6
  clear hb3 hRs
  replace o4 := Lib.hid o4
  replace R4 := Lib.hid R4
  replace V4 := Lib.hid V4
  replace C4 := Lib.hid C4
  go_wp2_with fail
  go_ret
  exact ⟨_, rfl, o4.out.less.less.less⟩
/-- A version is pushed: what was there stays. -/
theorem push_old {S S1 : PHeap} {r : Nat} {cells : List Int} {t : ByteArray} (hk : ∀ x ∈ S.blocks, x.key ≤ S.last) (hVS : VS S S1 (S.last + 1) r cells t) (i : Nat) (v : Int) : ∀ k y, 2 ≤ k → S.find k = some y → (S1.set 1 i v).find k = some y := fun k y h2 hy => by
  rw [find_other _ _ _ _ _ (by omega), hVS.old k (fun e => by
    have hm := find_mem hy
    have := hk y hm.1
    rw [hm.2] at this
    omega)]
  exact hy
set_option maxRecDepth 100000 in
set_option maxHeartbeats 4000000 in
theorem layHere_any {w0 w : World} {hb : Nat} {S : PHeap} {F : Nat → Prop} {K : List (Nat × Obj)} {c : PCfg} {tx : Nat → Option ByteArray} {st : Nat → List PVersion} {pn : Nat → Int} {e ep : Int} {key value : ByteArray} {has : Bool} (hc : c.Right) (o : OwnK w0 hb S F K w) (hL : Laid S c tx st pn e) (hl : S.last ≤ 900)
    (hkey : key.size ≤ 9223372036854775807) (hval : value.size ≤ 1000) (hep : 0 ≤ ep ∧ ep ≤ 18446744073709551615) (p : Nat) (hp : (p : Int) < c.shelves) (h1 : (lookP key (plN c key) tx c.shelves.toNat 0).1 = 1) (h2 : (lookP key (plN c key) tx c.shelves.toNat 0).2.1 = p) :
    Calls Try.prog 23 #[.pointer (some ⟨hb, 0, none⟩), .agg #[.int .i64 c.cap, .int .i64 c.pins, .int .i64 c.shelves, .int .i64 c.queue, .int .i64 c.watchers, .int .u64 c.seed], .int .u64 ep, .agg #[.string key, .bool has, .string value]] w fun x w' => ∃ S' F' bk, x = .returned (.bool true) ∧ OwnK w0 hb S' F' K w' ∧ Laid S' c tx (putS st p ⟨bk, ep, has, value⟩) pn e ∧ S'.last ≤ S.last + 2 ∧ (∀ k y, 2 ≤ k → S.find k = some y → S'.find k = some y) ∧ w.heap.size ≤ w'.heap.size := by
  have hNw := fun W => findNew_any c key hkey W
  rw [show c.val = .agg #[.int .i64 c.cap, .int .i64 c.pins, .int .i64 c.shelves, .int .i64 c.queue, .int .i64 c.watchers, .int .u64 c.seed] from rfl] at hNw
  have o1 := (o.add (.cells #[.int .i64 c.cap, .int .i64 c.pins, .int .i64 c.shelves, .int .i64 c.queue, .int .i64 c.watchers, .int .u64 c.seed] 24)).add (.cells #[.string key, .bool has, .string value] 58)
  have hb0 := o.own.below.size
  have B0 := o1.blk (List.mem_cons_of_mem _ (List.mem_cons_self ..))
  have B1 := o1.blk (List.mem_cons_self ..)
  simp only [World.size_alloc] at B1
  have c0 := B0.cell 0
  have c1 := B0.cell 1
  have c2 := B0.cell 2
  have c3 := B0.cell 3
  have c4 := B0.cell 4
  have c5 := B0.cell 5
  have v0 := B1.cell 0
  have hsw := o.own.heap.own
  replace hNw := Lib.hid hNw
  replace o := Lib.hid o
  replace o1 := Lib.hid o1
  replace B0 := Lib.hid B0
  replace B1 := Lib.hid B1
  replace hL := Lib.hid hL
  go_enter Try.func23, Try.ntmps23
  go_wp2_with fail
  refine (hNw.out _).mono ?_; rintro x w1 ⟨b, rfl, hN, hbb, hb1⟩
  simp only [World.size_alloc] at hbb
  have o2 := o1.out.below hb1
  have hA := falone hc o2.own hN (fun h => by have := o1.out.own.heap.own _ h; simp only [World.size_alloc] at this; omega) (by omega) hL.out.shelved hL.out.faults (by omega)
  have hKb : ∀ x ∈ ((w.alloc (.cells #[.int .i64 c.cap, .int .i64 c.pins, .int .i64 c.shelves, .int .i64 c.queue, .int .i64 c.watchers, .int .u64 c.seed] 24)).heap.size, Obj.cells #[.string key, .bool has, .string value] 58) :: (w.heap.size, Obj.cells #[.int .i64 c.cap, .int .i64 c.pins, .int .i64 c.shelves, .int .i64 c.queue, .int .i64 c.watchers, .int .u64 c.seed] 24) :: K, x.1 ≠ b := fun x hx => by have := o1.out.lt hx; simp only [World.size_alloc] at this; omega
  clear hb1 c0 c1 c2 c3 c4 c5 v0
  replace o2 := Lib.hid o2
  replace hN := Lib.hid hN
  replace hA := Lib.hid hA
  replace hKb := Lib.hid hKb
  go_wp2_with fail
  refine (hA.out).mono ?_; rintro x w2 ⟨s, F2, rfl, hLk⟩
  have o3 := o2.out.looked hLk hKb.out
  have hRs := findResult_any hLk.lies
  rw [hLk.res, h1, h2] at hRs
  clear hA hLk
  replace o3 := Lib.hid o3
  replace hRs := Lib.hid hRs
  go_wp2_with fail
  refine (hRs.out).mono ?_; rintro x w3 ⟨rfl, hb3⟩
  have o4 := (o3.out.below hb3).add (.cells #[.int .i64 1, .int .i64 (p : Int)] 142)
  have R4 := o4.blk (List.mem_cons_self ..)
  have V4 := o4.blk (List.mem_cons_of_mem _ (List.mem_cons_self ..))
  have C4 := o4.blk (List.mem_cons_of_mem _ (List.mem_cons_of_mem _ (List.mem_cons_self ..)))
  simp only [World.size_alloc] at V4
  have r0 := R4.cell 0
  have r1 := R4.cell 1
  have x0 := C4.cell 0
  have x1 := C4.cell 1
  have x2 := C4.cell 2
  have x3 := C4.cell 3
  have x4 := C4.cell 4
  have x5 := C4.cell 5
  have y0 := V4.cell 0
  have y1 := V4.cell 1
  have y2 := V4.cell 2
  have hl4 := R4.lt
  have hl5 := V4.lt
  have hl6 := C4.lt
  simp only [World.size_alloc] at hl4 hl5 hl6
  clear hb3 hRs
  obtain ⟨xc, hx1, hx2, hx3⟩ := hL.out.stack p hp
  have hPu := push_any c hc o4 p hp (kcell c p + 1) (by have := kcell_eq hc p; omega) xc hx1 hx3 ep hep ⟨key, has, value⟩ hval hL.out.shelved.keys ⟨hL.out.shelved.one, by omega⟩ hL.out.faults
  rw [show PChange.val ⟨key, has, value⟩ = .agg #[.string key, .bool has, .string value] from rfl, show c.val = .agg #[.int .i64 c.cap, .int .i64 c.pins, .int .i64 c.shelves, .int .i64 c.queue, .int .i64 c.watchers, .int .u64 c.seed] from rfl] at hPu
  replace o4 := Lib.hid o4
  replace R4 := Lib.hid R4
  replace V4 := Lib.hid V4
  replace C4 := Lib.hid C4
  replace hPu := Lib.hid hPu
  replace hx1 := Lib.hid hx1
  replace hx2 := Lib.hid hx2
  replace hx3 := Lib.hid hx3
  go_wp2_with fail
  refine (hPu.out).mono ?_; rintro x w5 ⟨S5, F5, r5, rfl, hVS, o5⟩
  replace hVS := Lib.hid hVS
  replace o5 := Lib.hid o5
  go_wp2_with fail
  go_ret
  exact ⟨_, _, _, rfl, o5.out.less.less.less, hL.out.push (v := ⟨key, has, value⟩) hc p hp (by omega) hx1.out hx2.out hVS.out, by show S5.last ≤ _; rw [hVS.out.last]; omega, push_old hL.out.shelved.keys hVS.out _ _, Nat.le_of_lt (o5.out.lt (List.mem_cons_of_mem _ (List.mem_cons_of_mem _ (List.mem_cons_self ..))))⟩
set_option maxRecDepth 100000 in
set_option maxHeartbeats 4000000 in
theorem layFree_any {w0 w : World} {hb : Nat} {S : PHeap} {F : Nat → Prop} {K : List (Nat × Obj)} {c : PCfg} {tx : Nat → Option ByteArray} {st : Nat → List PVersion} {pn : Nat → Int} {e ep : Int} {key value : ByteArray} {has : Bool} (hc : c.Right) (o : OwnK w0 hb S F K w) (hL : Laid S c tx st pn e) (hl : S.last ≤ 900)
    (hkey : key.size ≤ 9223372036854775807) (hval : value.size ≤ 1000) (hep : 0 ≤ ep ∧ ep ≤ 18446744073709551615) (p : Nat) (hp : (p : Int) < c.shelves) (h1 : (lookP key (plN c key) tx c.shelves.toNat 0).1 = 2) (h2 : (lookP key (plN c key) tx c.shelves.toNat 0).2.1 = p) (htp : tx p = none) :
    Calls Try.prog 23 #[.pointer (some ⟨hb, 0, none⟩), .agg #[.int .i64 c.cap, .int .i64 c.pins, .int .i64 c.shelves, .int .i64 c.queue, .int .i64 c.watchers, .int .u64 c.seed], .int .u64 ep, .agg #[.string key, .bool has, .string value]] w fun x w' => ∃ S' F' bk, x = .returned (.bool true) ∧ OwnK w0 hb S' F' K w' ∧ Laid S' c (putT tx p key) (putS st p ⟨bk, ep, has, value⟩) pn e ∧ S'.last ≤ S.last + 2 := by
  have hNw := fun W => findNew_any c key hkey W
  rw [show c.val = .agg #[.int .i64 c.cap, .int .i64 c.pins, .int .i64 c.shelves, .int .i64 c.queue, .int .i64 c.watchers, .int .u64 c.seed] from rfl] at hNw
  have o1 := (o.add (.cells #[.int .i64 c.cap, .int .i64 c.pins, .int .i64 c.shelves, .int .i64 c.queue, .int .i64 c.watchers, .int .u64 c.seed] 24)).add (.cells #[.string key, .bool has, .string value] 58)
  have hb0 := o.own.below.size
  have B0 := o1.blk (List.mem_cons_of_mem _ (List.mem_cons_self ..))
  have B1 := o1.blk (List.mem_cons_self ..)
  simp only [World.size_alloc] at B1
  have c0 := B0.cell 0
  have c1 := B0.cell 1
  have c2 := B0.cell 2
  have c3 := B0.cell 3
  have c4 := B0.cell 4
  have c5 := B0.cell 5
  have v0 := B1.cell 0
  have hsw := o.own.heap.own
  replace hNw := Lib.hid hNw
  replace o := Lib.hid o
  replace o1 := Lib.hid o1
  replace B0 := Lib.hid B0
  replace B1 := Lib.hid B1
  replace hL := Lib.hid hL
  go_enter Try.func23, Try.ntmps23
  go_wp2_with fail
  refine (hNw.out _).mono ?_; rintro x w1 ⟨b, rfl, hN, hbb, hb1⟩
  simp only [World.size_alloc] at hbb
  have o2 := o1.out.below hb1
  have hA := falone hc o2.own hN (fun h => by have := o1.out.own.heap.own _ h; simp only [World.size_alloc] at this; omega) (by omega) hL.out.shelved hL.out.faults (by omega)
  have hKb : ∀ x ∈ ((w.alloc (.cells #[.int .i64 c.cap, .int .i64 c.pins, .int .i64 c.shelves, .int .i64 c.queue, .int .i64 c.watchers, .int .u64 c.seed] 24)).heap.size, Obj.cells #[.string key, .bool has, .string value] 58) :: (w.heap.size, Obj.cells #[.int .i64 c.cap, .int .i64 c.pins, .int .i64 c.shelves, .int .i64 c.queue, .int .i64 c.watchers, .int .u64 c.seed] 24) :: K, x.1 ≠ b := fun x hx => by have := o1.out.lt hx; simp only [World.size_alloc] at this; omega
  clear hb1 c0 c1 c2 c3 c4 c5 v0
  replace o2 := Lib.hid o2
  replace hN := Lib.hid hN
  replace hA := Lib.hid hA
  replace hKb := Lib.hid hKb
  go_wp2_with fail
  refine (hA.out).mono ?_; rintro x w2 ⟨s, F2, rfl, hLk⟩
  have o3 := o2.out.looked hLk hKb.out
  have hRs := findResult_any hLk.lies
  rw [hLk.res, h1, h2] at hRs
  clear hA hLk
  replace o3 := Lib.hid o3
  replace hRs := Lib.hid hRs
  go_wp2_with fail
  refine (hRs.out).mono ?_; rintro x w3 ⟨rfl, hb3⟩
  have o4 := (o3.out.below hb3).add (.cells #[.int .i64 2, .int .i64 (p : Int)] 142)
  have R4 := o4.blk (List.mem_cons_self ..)
  have V4 := o4.blk (List.mem_cons_of_mem _ (List.mem_cons_self ..))
  have C4 := o4.blk (List.mem_cons_of_mem _ (List.mem_cons_of_mem _ (List.mem_cons_self ..)))
  simp only [World.size_alloc] at V4
  have r0 := R4.cell 0
  have r1 := R4.cell 1
  have x0 := C4.cell 0
  have x1 := C4.cell 1
  have x2 := C4.cell 2
  have x3 := C4.cell 3
  have x4 := C4.cell 4
  have x5 := C4.cell 5
  have y0 := V4.cell 0
  have y1 := V4.cell 1
  have y2 := V4.cell 2
  have hl4 := R4.lt
  have hl5 := V4.lt
  have hl6 := C4.lt
  simp only [World.size_alloc] at hl4 hl5 hl6
  clear hb3 hRs
  have hPp := fun W => planKey_any c hc p ⟨by omega, hp⟩ W
  rw [show 3 + c.pins + c.cap + 2 * (p : Int) = ((kcell c p : Nat) : Int) by rw [kcell_eq hc], show c.val = .agg #[.int .i64 c.cap, .int .i64 c.pins, .int .i64 c.shelves, .int .i64 c.queue, .int .i64 c.watchers, .int .u64 c.seed] from rfl] at hPp
  obtain ⟨k0, hk0, hk1, _⟩ := hL.out.shelved.at_ p hp
  rw [hk1 htp] at hk0
  have hput := fun r => hL.out.put hc p hp r key
  have hcl := kcell_eq hc p
  have hone := hL.out.shelved.one
  have hMk : ∀ W F K, OwnK w0 hb S F K W → Calls Try.prog 75 #[.pointer (some ⟨hb, 0, none⟩), .int .i64 0, .string key] W fun e w' => e = .returned (.int .u64 (S.last + 1)) ∧ ∃ r, OwnK w0 hb (S.more r key) (nw F W w') K w' := fun W F K h => (make_more h.own.heap key (by omega)).mono fun e w' ⟨he, r, ht⟩ => ⟨he, r, h.turned ht⟩
  have hSt : ∀ W F K r, OwnK w0 hb (S.more r key) F K W → Calls Try.prog 26 #[.pointer (some ⟨hb, 0, none⟩), .int .u64 1, .int .i64 (kcell c p), .int .u64 (S.last + 1)] W fun e w' => e = .returned (.int .i64 0) ∧ ∃ F', OwnK w0 hb ((S.more r key).set 1 (kcell c p) (S.last + 1)) F' K w' := fun W F K r h => (ctl_store h.own.heap (hk0.more r key) (S.last + 1) (by omega)).mono fun e w' ⟨he, ht⟩ => ⟨he, _, h.turned ht⟩
  have hPu : ∀ W S' F' K', OwnK w0 hb S' F' K' W → Laid S' c (putT tx p key) st pn e → S'.last ≤ 1000 → Calls Try.prog 79 #[.pointer (some ⟨hb, 0, none⟩), .agg #[.int .i64 c.cap, .int .i64 c.pins, .int .i64 c.shelves, .int .i64 c.queue, .int .i64 c.watchers, .int .u64 c.seed], .int .i64 (p : Int), .int .u64 ep, .agg #[.string key, .bool has, .string value]] W fun x w' => ∃ S2 F2, x = .returned (.int .u64 (S'.last + 1)) ∧ OwnK w0 hb S2 F2 K' w' ∧ Laid S2 c (putT tx p key) (putS st p ⟨S'.last + 1, ep, has, value⟩) pn e ∧ S2.last = S'.last + 1 := by
    intro W S' F' K' oo hL' hl'
    obtain ⟨xc, hx1, hx2, hx3⟩ := hL'.stack p hp
    refine (push_any c hc oo p hp (kcell c p + 1) (by omega) xc hx1 hx3 ep hep ⟨key, has, value⟩ hval hL'.shelved.keys ⟨hL'.shelved.one, hl'⟩ hL'.faults).mono ?_
    rintro x w5 ⟨S5, F5, r5, he, hVS, o5⟩
    exact ⟨_, _, he, o5, hL'.push (v := ⟨key, has, value⟩) hc p hp (by omega) hx1 hx2 hVS, hVS.last⟩
  have hK8 : ∀ W S F, OwnK w0 hb S F ((w3.heap.size, Obj.cells #[.int .i64 2, .int .i64 (p : Int)] 142) :: ((w.alloc (.cells #[.int .i64 c.cap, .int .i64 c.pins, .int .i64 c.shelves, .int .i64 c.queue, .int .i64 c.watchers, .int .u64 c.seed] 24)).heap.size, Obj.cells #[.string key, .bool has, .string value] 58) :: (w.heap.size, Obj.cells #[.int .i64 c.cap, .int .i64 c.pins, .int .i64 c.shelves, .int .i64 c.queue, .int .i64 c.watchers, .int .u64 c.seed] 24) :: K) W → W.cell? ⟨w3.heap.size, 0, none⟩ = some (.int .i64 2) ∧ W.cell? ⟨w3.heap.size, 1, none⟩ = some (.int .i64 (p : Int)) ∧ W.cell? ⟨w.heap.size, 0, none⟩ = some (.int .i64 c.cap) ∧ W.cell? ⟨w.heap.size, 1, none⟩ = some (.int .i64 c.pins) ∧ W.cell? ⟨w.heap.size, 2, none⟩ = some (.int .i64 c.shelves) ∧ W.cell? ⟨w.heap.size, 3, none⟩ = some (.int .i64 c.queue) ∧ W.cell? ⟨w.heap.size, 4, none⟩ = some (.int .i64 c.watchers) ∧ W.cell? ⟨w.heap.size, 5, none⟩ = some (.int .u64 c.seed) ∧ W.cell? ⟨w.heap.size + 1, 0, none⟩ = some (.string key) ∧ W.cell? ⟨w.heap.size + 1, 1, none⟩ = some (.bool has) ∧ W.cell? ⟨w.heap.size + 1, 2, none⟩ = some (.string value) := fun W S F h => by
    have a1 := h.blk (List.mem_cons_self ..)
    have a2 := h.blk (List.mem_cons_of_mem _ (List.mem_cons_self ..))
    have a3 := h.blk (List.mem_cons_of_mem _ (List.mem_cons_of_mem _ (List.mem_cons_self ..)))
    simp only [World.size_alloc] at a2
    exact ⟨a1.cell 0, a1.cell 1, a3.cell 0, a3.cell 1, a3.cell 2, a3.cell 3, a3.cell 4, a3.cell 5, a2.cell 0, a2.cell 1, a2.cell 2⟩
  generalize kcell c p = kp at *
  replace o4 := Lib.hid o4
  replace R4 := Lib.hid R4
  replace V4 := Lib.hid V4
  replace C4 := Lib.hid C4
  replace hPu := Lib.hid hPu
  replace hPp := Lib.hid hPp
  replace hMk := Lib.hid hMk
  replace hSt := Lib.hid hSt
  replace hk0 := Lib.hid hk0
  replace hput := Lib.hid hput
  replace hcl := Lib.hid hcl
  replace hK8 := Lib.hid hK8
  replace htp := Lib.hid htp
  replace hc := Lib.hid hc
  replace hk1 := Lib.hid hk1
  go_upto_region 7 with fail
  go_cut [] from 35 to 44 (fun wx => ∃ S' F', OwnK w0 hb S' F' ((w3.heap.size, Obj.cells #[.int .i64 2, .int .i64 (p : Int)] 142) :: ((w.alloc (.cells #[.int .i64 c.cap, .int .i64 c.pins, .int .i64 c.shelves, .int .i64 c.queue, .int .i64 c.watchers, .int .u64 c.seed] 24)).heap.size, Obj.cells #[.string key, .bool has, .string value] 58) :: (w.heap.size, Obj.cells #[.int .i64 c.cap, .int .i64 c.pins, .int .i64 c.shelves, .int .i64 c.queue, .int .i64 c.watchers, .int .u64 c.seed] 24) :: K) wx ∧ Laid S' c (putT tx p key) st pn e ∧ S'.last = S.last + 1)
  case first =>
    go_region_held3 (fun W => W.cell? ⟨w3.heap.size, 0, none⟩ = some (.int .i64 2) ∧ W.cell? ⟨w3.heap.size, 1, none⟩ = some (.int .i64 (p : Int)) ∧ W.cell? ⟨w.heap.size, 0, none⟩ = some (.int .i64 c.cap) ∧ W.cell? ⟨w.heap.size, 1, none⟩ = some (.int .i64 c.pins) ∧ W.cell? ⟨w.heap.size, 2, none⟩ = some (.int .i64 c.shelves) ∧ W.cell? ⟨w.heap.size, 3, none⟩ = some (.int .i64 c.queue) ∧ W.cell? ⟨w.heap.size, 4, none⟩ = some (.int .i64 c.watchers) ∧ W.cell? ⟨w.heap.size, 5, none⟩ = some (.int .u64 c.seed) ∧ W.cell? ⟨w.heap.size + 1, 0, none⟩ = some (.string key) ∧ W.cell? ⟨w.heap.size + 1, 1, none⟩ = some (.bool has) ∧ W.cell? ⟨w.heap.size + 1, 2, none⟩ = some (.string value))
      (first | assumption | go_keep)
      (first | (go_at_call 78; refine (hPp.out _).mono ?_; rintro e w9 ⟨rfl, hb9⟩; have oC := (by first | exact o4.out.below hb9 | exact o4.out.drew.below hb9 | exact (o4.out.drewN _).below hb9 : OwnK w0 hb S F2 _ w9); have sC := hK8.out _ _ _ oC; replace oC := Lib.hid oC; clear hb9) | (go_at_call 75; refine (hMk.out _ _ _ (by first | exact oC.out | exact oC.out.drew | exact oC.out.drewN _)).mono ?_; rintro e w10 ⟨rfl, r10, oD⟩; have sD := hK8.out _ _ _ oD; replace oD := Lib.hid oD) | (go_at_call 26; refine (hSt.out _ _ _ _ oD.out).mono ?_; rintro e w11 ⟨rfl, F11, oE⟩; have sE := hK8.out _ _ _ oE; replace oE := Lib.hid oE))
    all_goals
      go_wp2_with fail
      go_meet
      case rel => exact ⟨_, _, oE.out, hput.out r10, rfl⟩
  case rest =>
    obtain ⟨S9, F9, o9, hL9, hl9⟩ := hcut
    have hP9 := hPu.out _ _ _ _ o9 hL9 (by omega)
    obtain ⟨z0, z1, z2, z3, z4, z5, z6, z7, z8, z9, z10⟩ := hK8.out _ _ _ o9
    clear r0 r1 x0 x1 x2 x3 x4 x5 y0 y1 y2
    replace o9 := Lib.hid o9
    replace hL9 := Lib.hid hL9
    replace hP9 := Lib.hid hP9
    go_wp2_with fail
    refine (hP9.out).mono ?_; rintro x w5 ⟨S5, F5, rfl, o5, hL5, hl5'⟩
    replace o5 := Lib.hid o5
    replace hL5 := Lib.hid hL5
    go_wp2_with fail
    go_ret
    exact ⟨_, _, _, rfl, o5.out.less.less.less, hL5.out, by omega⟩
end Go.Proofs.Ytfelkkbgbgnpaaa
