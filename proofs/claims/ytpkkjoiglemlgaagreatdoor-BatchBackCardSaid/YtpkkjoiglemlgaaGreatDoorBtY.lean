import Derived.Test.YtpkkjoiglemlgaaGreatDoorBtW
import Derived.Test.YtpkkjoiglemlgaaGreatDoorIdN
import Derived.Test.YtpkkjoiglemlgaaGreatDoorLexH
import Derived.Deep.Cut
import Derived.Test.YtpkkjoiglemlgaaGreatDoorOpZ
/-
  Which rows may be batches: batch.Right, the document's (layer 13).
-/
namespace Go.Proofs.YtpkkjoiglemlgaaGreatDoor
set_option linter.unusedVariables false
open Go.ChangeShapes Go.WideShapes Go.ChangeAt Go.RowKit Go.Extern.Stop Go.Stop Go.Extern

def entOk (x : Ent) : Bool := idRight x.id && oRight x.op
def eRight (l : List Ent) : Bool := decide (l.length ≤ 16) && l.all entOk && decide ((l.map (·.id)).Nodup)
theorem addIds_nodup : ∀ (l s : List (Int × Int)), (l.foldl addIds s).length ≤ s.length + l.length ∧ ((l.foldl addIds s).length = s.length + l.length ↔ (∀ x ∈ l, x ∉ s) ∧ l.Nodup)
  | [], s => by simp
  | p :: l, s => by
    rw [List.foldl_cons]
    by_cases h : p ∈ s
    · have e : addIds s p = s := by unfold addIds; rw [if_pos h]
      rw [e]
      have ih := addIds_nodup l s
      refine ⟨by simp; omega, ⟨fun h2 => ?_, fun h2 => absurd h (h2.1 p (by simp))⟩⟩
      simp at h2
      omega
    · have e : addIds s p = s ++ [p] := by unfold addIds; rw [if_neg h]
      rw [e]
      obtain ⟨h1, h2⟩ := addIds_nodup l (s ++ [p])
      simp only [List.length_append, List.length_singleton] at h1 h2
      refine ⟨by simp; omega, ?_⟩
      rw [List.length_cons, show s.length + (l.length + 1) = s.length + 1 + l.length by omega, h2, List.nodup_cons]
      constructor
      · rintro ⟨h3, h4⟩
        refine ⟨fun x hx => ?_, fun hp => h3 p hp (by simp), h4⟩
        rcases List.mem_cons.1 hx with rfl | hx
        · exact h
        · exact fun hs => h3 x hx (by simp [hs])
      · rintro ⟨h3, h4, h5⟩
        refine ⟨fun x hx hs => ?_, h5⟩
        rcases List.mem_append.1 hs with hs | hs
        · exact h3 x (by simp [hx]) hs
        · obtain rfl := List.mem_singleton.1 hs
          exact h4 hx
theorem ent_cells {w : World} {n : Nat} {A : Option Addr} {its : List EItem} (h : Reads w w.heap.size 4 A n (its.flatMap mk4)) (hl : its.length = n) {k : Nat} (hk : k < n) :
    ∃ ad it, A = some ad ∧ ad.block < w.heap.size ∧ its[k]? = some it ∧ ∀ W, Below w.heap.size w W → (W.cell? (ad.add (k * 4)) = some (.int .i64 it.1.id.1) ∧ W.cell? ⟨(ad.add (k * 4)).block, (ad.add (k * 4)).off + 1, none⟩ = some (.int .i64 it.1.id.2) ∧ W.cell? ⟨(ad.add (k * 4)).block, (ad.add (k * 4)).off + 2, none⟩ = some it.2.1 ∧ W.cell? ⟨(ad.add (k * 4)).block, (ad.add (k * 4)).off + 3, none⟩ = some it.2.2) := by
  obtain ⟨ad, it, rfl, hab, hx, _⟩ := ent_at h hl hk
  refine ⟨ad, it, rfl, hab, hx, fun W hW => ?_⟩
  obtain ⟨ad', it', e, _, hx', hc⟩ := ent_at (h.below hW) hl hk
  injection e with e
  subst e
  rw [hx] at hx'
  injection hx' with hx'
  subst hx'
  exact hc
theorem mk4_len (its : List EItem) : (its.flatMap mk4).length = its.length * 4 := by
  induction its with
  | nil => rfl
  | cons a l ih => rw [List.flatMap_cons, List.length_append, ih, List.length_cons]; show 4 + l.length * 4 = _; omega
theorem reads_take {w : World} {B n : Nat} {A : Option Addr} {its : List EItem} (h : Reads w B 4 A n (its.flatMap mk4)) (hl : its.length = n) {k : Nat} (hk : k ≤ n) : Reads w B 4 A k ((its.take k).flatMap mk4) := by
  refine ⟨by rw [mk4_len, List.length_take]; congr 1; omega, fun h0 => ?_⟩
  obtain ⟨ad, h1, h2, h3⟩ := h.2 (by omega)
  refine ⟨ad, h1, h2, fun j u hu => h3 j u ?_⟩
  rw [← List.take_append_drop k its, List.flatMap_append, List.getElem?_append_left]
  · exact hu
  · exact (List.getElem?_eq_some_iff.1 hu).1
theorem all_take {l : List Ent} {k : Nat} {x : Ent} (h : (l.take k).all entOk = true) (hx : l[k]? = some x) (ho : entOk x = true) : (l.take (k + 1)).all entOk = true := by
  rw [List.take_add_one, hx, List.all_append, h]
  simp [ho]
theorem not_all {l : List Ent} {k : Nat} {x : Ent} (hx : l[k]? = some x) (ho : entOk x = false) : eRight l = false := by
  have : l.all entOk = false := by
    rw [List.all_eq_false]
    exact ⟨x, List.mem_of_getElem? hx, by rw [ho]; decide⟩
  unfold eRight
  rw [this]
  simp
set_option maxHeartbeats 2000000 in
set_option maxRecDepth 100000 in
theorem btRight_any {w : World} {v : Value} {l : List Ent} (h : ERow w v l) (hn : l.length ≤ 1000000) :
    Calls Tryz.prog 28 #[v] w fun e w' => e = .returned (.bool (eRight l)) ∧ Below w.heap.size w w' := by
  obtain ⟨A, cap, its, rfl, e1, r1, o1⟩ := h
  have g1 : its.length = l.length := by rw [← e1]; simp
  have gids : idsOf its = l.map (·.id) := by rw [← e1]; unfold idsOf; simp
  obtain ⟨n, hl1⟩ : ∃ n, l.length = n := ⟨_, rfl⟩
  rw [hl1] at r1 g1 hn ⊢
  by_cases h16 : 16 < n
  · have hf : eRight l = false := by unfold eRight; rw [decide_eq_false (by omega)]; rfl
    have d1 : decide ((16 : Int) < (n : Int)) = true := decide_eq_true (by omega)
    rw [hf]
    clear r1 o1
    go_enter Tryz.func28, Tryz.ntmps28
    go_wp2_with fail
    go_ret
    exact ⟨rfl, Below.refl _ _⟩
  have d1 : decide ((16 : Int) < (n : Int)) = false := decide_eq_false (by omega)
  have hI := fun W (hW : Below w.heap.size w W) => btIds_any (w := W) (cap := cap) g1 hn ((r1.below hW).more hW.size) (fun it hi => (o1 it hi).1.below hW)
  rw [gids] at hI
  obtain ⟨ids, hids⟩ : ∃ ids, l.map (·.id) = ids := ⟨_, rfl⟩
  have hil : ids.length = n := by rw [← hids, List.length_map, hl1]
  rw [hids] at hI
  replace r1 := Lib.hid r1
  replace o1 := Lib.hid o1
  replace e1 := Lib.hid e1
  replace g1 := Lib.hid g1
  replace gids := Lib.hid gids
  replace hl1 := Lib.hid hl1
  replace hids := Lib.hid hids
  replace hil := Lib.hid hil
  replace hI := Lib.hid hI
  go_enter Tryz.func28, Tryz.ntmps28
  go_wp2_with fail
  go_loopw [10] (fun i wr => ∃ k : Nat, i = .int .i64 k ∧ k ≤ n ∧ Hid ((l.take k).all entOk = true) ∧ Below w.heap.size w wr) (fun i _ => n + 1 - (intOf i).toNat)
  case atStart => exact ⟨0, rfl, Nat.zero_le _, by simp [Hid], Below.refl _ _⟩
  case round =>
    obtain ⟨k, rfl, hk, hpre, hb⟩ := hrel
    by_cases hlt : k < n
    · obtain ⟨ad, it, rfl, hab, hx, hA⟩ := ent_cells r1.out g1.out hlt
      have p1 := o1.out it (List.mem_of_getElem? hx)
      have y1 := its_at e1.out hx
      obtain ⟨Ag, ng, cg, At, nt, ct, hf⟩ := p1.1.form
      obtain ⟨⟨⟨i1, i2⟩, op⟩, gv, tv⟩ := it
      simp only at hA p1 y1 hf
      obtain ⟨rfl, rfl⟩ := op_parts hf
      clear hf
      obtain ⟨c0, c1, c2, c3⟩ := hA _ hb
      have hbX : Below wr.heap.size wr (wr.alloc (.cells #[.int .i64 i1, .int .i64 i2, .slice Ag ng cg, .slice At nt ct] 64)) := (Below.refl _ _).alloc (Nat.le_refl _) _
      have BX := Blk.new wr 64 #[.int .i64 i1, .int .i64 i2, .slice Ag ng cg, .slice At nt ct]
      have hb1 := Below.next_ hb hbX
      have hS := fun W (h : Below w.heap.size w W) => right_any _ op W (p1.1.below h) p1.2.1 p1.2.2
      replace hx := Lib.hid hx
      replace y1 := Lib.hid y1
      replace hS := Lib.hid hS
      replace BX := Lib.hid BX
      replace hb1 := Lib.hid hb1
      clear p1 hA hbX
      cases hid : idRight (i1, i2)
      · have hfin := Lib.hid (not_all y1.out (show entOk _ = false by unfold entOk; rw [hid]; rfl))
        have hJ := fun W => idRight_any W i1 i2
        rw [hid] at hJ
        replace hJ := Lib.hid hJ
        replace hid := Lib.hid hid
        go_wp2_with fail
        refine (hJ.out _).mono ?_; rintro e w4 ⟨rfl, hb4⟩
        have hb5 := Below.next_ hb1.out hb4
        go_wp2_with fail
        go_ret
        exact ⟨by rw [hfin.out]; rfl, hb5⟩
      · have hJ := fun W => idRight_any W i1 i2
        rw [hid] at hJ
        replace hJ := Lib.hid hJ
        cases hop : oRight op
        · have hfin := Lib.hid (not_all y1.out (show entOk _ = false by unfold entOk; rw [hop, Bool.and_false]))
          rw [hop] at hS
          replace hid := Lib.hid hid
          replace hop := Lib.hid hop
          go_wp2_with fail
          refine (hJ.out _).mono ?_; rintro e w4 ⟨rfl, hb4⟩
          have hb5 := Below.next_ hb1.out hb4
          have BX4 := BX.out.below hb4 BX.out.lt
          have x2 := BX4.cell 2
          have x3 := BX4.cell 3
          have hS5 := hS.out _ hb5
          replace hS5 := Lib.hid hS5
          replace hb5 := Lib.hid hb5
          clear BX4 hb4
          go_wp2_with fail
          refine (hS5.out).mono ?_; rintro e w6 ⟨rfl, hb6⟩
          have hb7 := Below.next_ hb5.out hb6
          go_wp2_with fail
          go_ret
          exact ⟨by rw [hfin.out]; rfl, hb7⟩
        · have hpre2 := Lib.hid (all_take hpre.out y1.out (show entOk _ = true by unfold entOk; rw [hid, hop]; rfl))
          rw [hop] at hS
          replace hid := Lib.hid hid
          replace hop := Lib.hid hop
          go_wp2_with fail
          refine (hJ.out _).mono ?_; rintro e w4 ⟨rfl, hb4⟩
          have hb5 := Below.next_ hb1.out hb4
          have BX4 := BX.out.below hb4 BX.out.lt
          have x2 := BX4.cell 2
          have x3 := BX4.cell 3
          have hS5 := hS.out _ hb5
          replace hS5 := Lib.hid hS5
          replace hb5 := Lib.hid hb5
          clear BX4 hb4
          go_wp2_with fail
          refine (hS5.out).mono ?_; rintro e w6 ⟨rfl, hb6⟩
          have hb7 := Below.next_ hb5.out hb6
          go_wp2_with fail
          go_roundw
          case rel => exact ⟨k + 1, by go_num, by omega, hpre2, hb7⟩
          case measure => simp [intOf] <;> omega
    · obtain rfl : k = n := by omega
      have hall : l.all entOk = true := by
        have h := hpre.out
        rwa [List.take_of_length_le (by rw [hl1.out]; exact Nat.le_refl _)] at h
      have hok : ∀ p ∈ ids, idOk p := fun p hp => by
        rw [← hids.out] at hp
        obtain ⟨x, hx, rfl⟩ := List.mem_map.1 hp
        have h := List.all_eq_true.1 hall x hx
        simp only [entOk, idRight, Bool.and_eq_true, decide_eq_true_eq] at h
        exact ⟨by omega, by omega⟩
      have hfin : eRight l = ((((ids.foldl addIds []).length : Nat) : Int) == (k : Int)) := by
        have h1 := (addIds_nodup ids []).2
        simp only [List.length_nil, Nat.zero_add, List.not_mem_nil, not_false_eq_true, implies_true, true_and] at h1
        unfold eRight
        rw [hall, hids.out, decide_eq_true (show l.length ≤ 16 by rw [hl1.out]; omega)]
        by_cases hnd : ids.Nodup
        · rw [decide_eq_true hnd, h1.2 hnd, hil.out]; simp
        · rw [decide_eq_false hnd]
          have : ¬ (ids.foldl addIds []).length = ids.length := fun e => hnd (h1.1 e)
          rw [hil.out] at this
          symm
          rw [Bool.and_false, beq_eq_false_iff_ne]
          omega
      have hle := (addIds_nodup ids []).1
      have hI1 := hI.out _ hb
      have hlen0 : (ids.foldl addIds []).length ≤ 100000 := by have := hle; have := hil.out; simp only [List.length_nil] at *; omega
      have hll : ids.length ≤ 1000000 := by have := hil.out; omega
      replace hfin := Lib.hid hfin
      replace hI1 := Lib.hid hI1
      replace hb := Lib.hid hb
      replace hok := Lib.hid hok
      replace hle := Lib.hid hle
      go_wp2_with fail
      refine (hI1.out).mono ?_; rintro e w1 ⟨B, c, rfl, hown, hb1⟩
      have hOf := setOf_any (w := w1) (A := B) (n := ids.length) (cap := c) (l := ids) rfl hll (Reads.of_own hown) hok.out
      have hb2 := Below.next_ hb.out hb1
      replace hOf := Lib.hid hOf
      replace hb2 := Lib.hid hb2
      clear hown hb1
      go_wp2_with fail
      refine (hOf.out).mono ?_; rintro e w2 ⟨b, rfl, ⟨F, hS, _⟩, hb3⟩
      have hAll := setAll_any hS hlen0
      have hb4 := Below.next_ hb2.out hb3
      replace hAll := Lib.hid hAll
      replace hb4 := Lib.hid hb4
      clear hS hb3
      go_wp2_with fail
      refine (hAll.out).mono ?_; rintro e w3 ⟨A, cp, rfl, hown, hb5⟩
      have hb6 := Below.next_ hb4.out hb5
      clear hown hb5
      go_wp2_with fail
      go_ret
      exact ⟨by rw [hfin.out]; rfl, hb6⟩
theorem notRight_dup {l : List Ent} {k : Nat} {x : Ent} (hx : l[k]? = some x) (hm : x.id ∈ (l.take k).map (·.id)) : eRight l = false := by
  have : ¬ (l.map (·.id)).Nodup := fun h => by
    have hk := (List.getElem?_eq_some_iff.1 hx).1
    have e : l = l.take k ++ x :: l.drop (k + 1) := by
      have h2 : l.drop k = x :: l.drop (k + 1) := by
        rw [List.drop_eq_getElem_cons hk]
        congr 1
        exact (List.getElem?_eq_some_iff.1 hx).2
      rw [← h2, List.take_append_drop]
    rw [e, List.map_append, List.map_cons, List.nodup_append] at h
    exact h.2.2 _ hm _ (by simp) rfl
  unfold eRight
  rw [decide_eq_false this, Bool.and_false]
theorem nodup_take {l : List Ent} {k : Nat} {x : Ent} (h : ((l.take k).map (·.id)).Nodup) (hx : l[k]? = some x) (hm : x.id ∉ (l.take k).map (·.id)) : ((l.take (k + 1)).map (·.id)).Nodup := by
  rw [List.take_add_one, hx, List.map_append, List.nodup_append]
  exact ⟨h, by simp, fun a ha b hb e => by
    have : b = x.id := by simpa using hb
    subst this
    subst e
    exact hm ha⟩
set_option maxHeartbeats 4000000 in
set_option maxRecDepth 100000 in
theorem refBtRight_any {w : World} {v : Value} {l : List Ent} (h : ERow w v l) (hn : l.length ≤ 1000000) (hc : ∀ A n c, v = .slice A n c → n ≤ c) :
    Calls Tryz.prog 29 #[v] w fun e w' => e = .returned (.bool (eRight l)) ∧ Below w.heap.size w w' := by
  obtain ⟨A, cap, its, rfl, e1, r1, o1⟩ := h
  have g1 : its.length = l.length := by rw [← e1]; simp
  have hcap := hc _ _ _ rfl
  clear hc
  have gtk : ∀ k, idsOf (its.take k) = (l.take k).map (·.id) := fun k => by rw [← e1]; unfold idsOf; simp [Function.comp_def]
  obtain ⟨n, hl1⟩ : ∃ n, l.length = n := ⟨_, rfl⟩
  rw [hl1] at r1 g1 hn hcap ⊢
  have hI := fun W (hW : Below w.heap.size w W) k (hk : k ≤ n) => refIdsE_any (w := W) (A := A) (n := k) (cap := cap) (its := its.take k) (by rw [List.length_take]; omega) (by omega) ((reads_take (r1.below hW) g1 hk).more hW.size)
  replace r1 := Lib.hid r1
  replace o1 := Lib.hid o1
  replace e1 := Lib.hid e1
  replace g1 := Lib.hid g1
  replace gtk := Lib.hid gtk
  replace hl1 := Lib.hid hl1
  replace hI := Lib.hid hI
  go_enter Tryz.func29, Tryz.ntmps29
  go_wp2_with fail
  go_loopw [3] (fun i wr => ∃ k : Nat, i = .int .i64 k ∧ k ≤ n ∧ Hid ((l.take k).all entOk = true ∧ ((l.take k).map (·.id)).Nodup) ∧ Below w.heap.size w wr) (fun i _ => n + 1 - (intOf i).toNat)
  case atStart => exact ⟨0, rfl, Nat.zero_le _, by simp [Hid], Below.refl _ _⟩
  case round =>
    obtain ⟨k, rfl, hk, hpre, hb⟩ := hrel
    by_cases hlt : k < n
    · obtain ⟨ad, it, rfl, hab, hx, hA⟩ := ent_cells r1.out g1.out hlt
      have p1 := o1.out it (List.mem_of_getElem? hx)
      have y1 := its_at e1.out hx
      obtain ⟨Ag, ng, cg, At, nt, ct, hf⟩ := p1.1.form
      obtain ⟨⟨⟨i1, i2⟩, op⟩, gv, tv⟩ := it
      simp only at hA p1 y1 hf
      obtain ⟨rfl, rfl⟩ := op_parts hf
      clear hf
      have hS := fun W (h : Below w.heap.size w W) => refRight_any _ op W (p1.1.below h) p1.2.1 p1.2.2
      have hJ := fun W => refRightI_any W i1 i2
      have hI2 := fun W hW => hI.out W hW k (by omega)
      rw [gtk.out k] at hI2
      obtain ⟨ids, hids⟩ : ∃ ids, (l.take k).map (·.id) = ids := ⟨_, rfl⟩
      rw [hids] at hI2 hpre
      have hil : ids.length ≤ 1000000 := by rw [← hids, List.length_map, List.length_take]; omega
      have c1 : (0 : Int) ≤ (k : Int) := by omega
      have c2 : (k : Int) ≤ (cap : Int) := by omega
      replace hx := Lib.hid hx
      replace y1 := Lib.hid y1
      replace hS := Lib.hid hS
      replace hI2 := Lib.hid hI2
      replace hA := Lib.hid hA
      replace hids := Lib.hid hids
      clear p1
      cases hid : idRight (i1, i2)
      · have hfin := Lib.hid (not_all y1.out (show entOk _ = false by unfold entOk; rw [hid]; rfl))
        rw [hid] at hJ
        replace hJ := Lib.hid hJ
        replace hid := Lib.hid hid
        go_upto_region 4 with fail
        refine wp_region_lex [(true, 0), (true, 1), (true, 2), (true, 3), (true, 4), (false, 5), (true, 6), (true, 7), (true, 8), (true, 9), (true, 10), (true, 11), (true, 12), (false, 13), (true, 14), (true, 15), (true, 16), (true, 17), (true, 18), (true, 19), (true, 21), (true, 22), (true, 23), (true, 24), (true, 25), (false, 20), (false, 26), (true, 27)] (fun W : World => W.cell? (ad.add (k * 4)) = some (.int .i64 i1) ∧ W.cell? ⟨(ad.add (k * 4)).block, (ad.add (k * 4)).off + 1, none⟩ = some (.int .i64 i2) ∧ W.cell? ⟨(ad.add (k * 4)).block, (ad.add (k * 4)).off + 2, none⟩ = some (.slice Ag ng cg) ∧ W.cell? ⟨(ad.add (k * 4)).block, (ad.add (k * 4)).off + 3, none⟩ = some (.slice At nt ct)) (by kernel_rfl) (by kernel_rfl) (fun R hR => ?_)
        have q0 := Lib.hid hb.drew
        have hHeld : (fun W : World => W.cell? (ad.add (k * 4)) = some (.int .i64 i1) ∧ W.cell? ⟨(ad.add (k * 4)).block, (ad.add (k * 4)).off + 1, none⟩ = some (.int .i64 i2) ∧ W.cell? ⟨(ad.add (k * 4)).block, (ad.add (k * 4)).off + 2, none⟩ = some (.slice Ag ng cg) ∧ W.cell? ⟨(ad.add (k * 4)).block, (ad.add (k * 4)).off + 3, none⟩ = some (.slice At nt ct)) wr.drew := hA.out _ q0.out
        repeat (first | (refine lex_take (v := ?_) rfl (by rfl) (by assumption) ?_ ?_; rotate_left 1; (focus (intro w hSw; (try dsimp only at hSw); go_simp; (try with_reducible rfl))); (try simp only [Act.put, List.setIfInBounds_toArray, List.set_cons_zero, List.set_cons_succ])) | (refine lex_pass rfl (by rfl) (by assumption) ?_; (try simp only [Act.put, List.setIfInBounds_toArray, List.set_cons_zero, List.set_cons_succ])))
        (refine lex_call rfl (by rfl) (fun K hq => ?_); go_simp)
        go_at_call 12
        refine (hJ.out _).mono ?_; rintro e v1 ⟨rfl, hb1⟩
        have q1 := Lib.hid (Below.next_ q0.out hb1)
        clear hHeld hb1
        have hHeld : (fun W : World => W.cell? (ad.add (k * 4)) = some (.int .i64 i1) ∧ W.cell? ⟨(ad.add (k * 4)).block, (ad.add (k * 4)).off + 1, none⟩ = some (.int .i64 i2) ∧ W.cell? ⟨(ad.add (k * 4)).block, (ad.add (k * 4)).off + 2, none⟩ = some (.slice Ag ng cg) ∧ W.cell? ⟨(ad.add (k * 4)).block, (ad.add (k * 4)).off + 3, none⟩ = some (.slice At nt ct)) v1 := hA.out _ q1.out
        go_wp2_with fail
        (refine hq.out _ _ (fun W : World => W.cell? (ad.add (k * 4)) = some (.int .i64 i1) ∧ W.cell? ⟨(ad.add (k * 4)).block, (ad.add (k * 4)).off + 1, none⟩ = some (.int .i64 i2) ∧ W.cell? ⟨(ad.add (k * 4)).block, (ad.add (k * 4)).off + 2, none⟩ = some (.slice Ag ng cg) ∧ W.cell? ⟨(ad.add (k * 4)).block, (ad.add (k * 4)).off + 3, none⟩ = some (.slice At nt ct)) (fun _ h => h) hHeld ?_; clear hq K; (try simp only [Act.put, List.setIfInBounds_toArray, List.set_cons_zero, List.set_cons_succ]))
        repeat (first | (refine lex_take (v := ?_) rfl (by rfl) (by assumption) ?_ ?_; rotate_left 1; (focus (intro w hSw; (try dsimp only at hSw); go_simp; (try with_reducible rfl))); (try simp only [Act.put, List.setIfInBounds_toArray, List.set_cons_zero, List.set_cons_succ])) | (refine lex_pass rfl (by rfl) (by assumption) ?_; (try simp only [Act.put, List.setIfInBounds_toArray, List.set_cons_zero, List.set_cons_succ])))
        refine lex_end ?_
        refine hR.out _ _ ?_
        clear hR R hHeld
        go_wp2_with fail
        go_ret
        exact ⟨by rw [hfin.out]; rfl, q1.out⟩
      · rw [hid] at hJ
        replace hJ := Lib.hid hJ
        cases hop : oRight op
        · have hfin := Lib.hid (not_all y1.out (show entOk _ = false by unfold entOk; rw [hop, Bool.and_false]))
          rw [hop] at hS
          replace hid := Lib.hid hid
          replace hop := Lib.hid hop
          go_upto_region 4 with fail
          refine wp_region_lex [(true, 0), (true, 1), (true, 2), (true, 3), (true, 4), (false, 5), (true, 6), (true, 7), (true, 8), (true, 9), (true, 10), (true, 11), (true, 12), (false, 13), (true, 14), (true, 15), (true, 16), (true, 17), (true, 18), (true, 19), (true, 21), (true, 22), (true, 23), (true, 24), (true, 25), (false, 20), (false, 26), (true, 27)] (fun W : World => W.cell? (ad.add (k * 4)) = some (.int .i64 i1) ∧ W.cell? ⟨(ad.add (k * 4)).block, (ad.add (k * 4)).off + 1, none⟩ = some (.int .i64 i2) ∧ W.cell? ⟨(ad.add (k * 4)).block, (ad.add (k * 4)).off + 2, none⟩ = some (.slice Ag ng cg) ∧ W.cell? ⟨(ad.add (k * 4)).block, (ad.add (k * 4)).off + 3, none⟩ = some (.slice At nt ct)) (by kernel_rfl) (by kernel_rfl) (fun R hR => ?_)
          have q0 := Lib.hid hb.drew
          have hHeld : (fun W : World => W.cell? (ad.add (k * 4)) = some (.int .i64 i1) ∧ W.cell? ⟨(ad.add (k * 4)).block, (ad.add (k * 4)).off + 1, none⟩ = some (.int .i64 i2) ∧ W.cell? ⟨(ad.add (k * 4)).block, (ad.add (k * 4)).off + 2, none⟩ = some (.slice Ag ng cg) ∧ W.cell? ⟨(ad.add (k * 4)).block, (ad.add (k * 4)).off + 3, none⟩ = some (.slice At nt ct)) wr.drew := hA.out _ q0.out
          repeat (first | (refine lex_take (v := ?_) rfl (by rfl) (by assumption) ?_ ?_; rotate_left 1; (focus (intro w hSw; (try dsimp only at hSw); go_simp; (try with_reducible rfl))); (try simp only [Act.put, List.setIfInBounds_toArray, List.set_cons_zero, List.set_cons_succ])) | (refine lex_pass rfl (by rfl) (by assumption) ?_; (try simp only [Act.put, List.setIfInBounds_toArray, List.set_cons_zero, List.set_cons_succ])))
          (refine lex_call rfl (by rfl) (fun K hq => ?_); go_simp)
          go_at_call 12
          refine (hJ.out _).mono ?_; rintro e v1 ⟨rfl, hb1⟩
          have q1 := Lib.hid (Below.next_ q0.out hb1)
          clear hHeld hb1
          have hHeld : (fun W : World => W.cell? (ad.add (k * 4)) = some (.int .i64 i1) ∧ W.cell? ⟨(ad.add (k * 4)).block, (ad.add (k * 4)).off + 1, none⟩ = some (.int .i64 i2) ∧ W.cell? ⟨(ad.add (k * 4)).block, (ad.add (k * 4)).off + 2, none⟩ = some (.slice Ag ng cg) ∧ W.cell? ⟨(ad.add (k * 4)).block, (ad.add (k * 4)).off + 3, none⟩ = some (.slice At nt ct)) v1 := hA.out _ q1.out
          go_wp2_with fail
          (refine hq.out _ _ (fun W : World => W.cell? (ad.add (k * 4)) = some (.int .i64 i1) ∧ W.cell? ⟨(ad.add (k * 4)).block, (ad.add (k * 4)).off + 1, none⟩ = some (.int .i64 i2) ∧ W.cell? ⟨(ad.add (k * 4)).block, (ad.add (k * 4)).off + 2, none⟩ = some (.slice Ag ng cg) ∧ W.cell? ⟨(ad.add (k * 4)).block, (ad.add (k * 4)).off + 3, none⟩ = some (.slice At nt ct)) (fun _ h => h) hHeld ?_; clear hq K; (try simp only [Act.put, List.setIfInBounds_toArray, List.set_cons_zero, List.set_cons_succ]))
          repeat (first | (refine lex_take (v := ?_) rfl (by rfl) (by assumption) ?_ ?_; rotate_left 1; (focus (intro w hSw; (try dsimp only at hSw); go_simp; (try with_reducible rfl))); (try simp only [Act.put, List.setIfInBounds_toArray, List.set_cons_zero, List.set_cons_succ])) | (refine lex_pass rfl (by rfl) (by assumption) ?_; (try simp only [Act.put, List.setIfInBounds_toArray, List.set_cons_zero, List.set_cons_succ])))
          (refine lex_call rfl (by rfl) (fun K hq => ?_); go_simp)
          go_at_call 60
          refine (hS.out _ q1.out).mono ?_; rintro e v2 ⟨rfl, hb2⟩
          have q2 := Lib.hid (Below.next_ q1.out hb2)
          clear hHeld hb2
          have hHeld : (fun W : World => W.cell? (ad.add (k * 4)) = some (.int .i64 i1) ∧ W.cell? ⟨(ad.add (k * 4)).block, (ad.add (k * 4)).off + 1, none⟩ = some (.int .i64 i2) ∧ W.cell? ⟨(ad.add (k * 4)).block, (ad.add (k * 4)).off + 2, none⟩ = some (.slice Ag ng cg) ∧ W.cell? ⟨(ad.add (k * 4)).block, (ad.add (k * 4)).off + 3, none⟩ = some (.slice At nt ct)) v2 := hA.out _ q2.out
          go_wp2_with fail
          (refine hq.out _ _ (fun W : World => W.cell? (ad.add (k * 4)) = some (.int .i64 i1) ∧ W.cell? ⟨(ad.add (k * 4)).block, (ad.add (k * 4)).off + 1, none⟩ = some (.int .i64 i2) ∧ W.cell? ⟨(ad.add (k * 4)).block, (ad.add (k * 4)).off + 2, none⟩ = some (.slice Ag ng cg) ∧ W.cell? ⟨(ad.add (k * 4)).block, (ad.add (k * 4)).off + 3, none⟩ = some (.slice At nt ct)) (fun _ h => h) hHeld ?_; clear hq K; (try simp only [Act.put, List.setIfInBounds_toArray, List.set_cons_zero, List.set_cons_succ]))
          repeat (first | (refine lex_take (v := ?_) rfl (by rfl) (by assumption) ?_ ?_; rotate_left 1; (focus (intro w hSw; (try dsimp only at hSw); go_simp; (try with_reducible rfl))); (try simp only [Act.put, List.setIfInBounds_toArray, List.set_cons_zero, List.set_cons_succ])) | (refine lex_pass rfl (by rfl) (by assumption) ?_; (try simp only [Act.put, List.setIfInBounds_toArray, List.set_cons_zero, List.set_cons_succ])))
          refine lex_end ?_
          refine hR.out _ _ ?_
          clear hR R hHeld
          go_wp2_with fail
          go_ret
          exact ⟨by rw [hfin.out]; rfl, q2.out⟩
        · rw [hop] at hS
          by_cases hm : (i1, i2) ∈ ids
          · have hd : decide ((i1, i2) ∈ ids) = true := decide_eq_true hm
            have hfin := Lib.hid (notRight_dup y1.out (by rw [hids.out]; exact hm))
            replace hid := Lib.hid hid
            replace hop := Lib.hid hop
            go_upto_region 4 with fail
            refine wp_region_lex [(true, 0), (true, 1), (true, 2), (true, 3), (true, 4), (false, 5), (true, 6), (true, 7), (true, 8), (true, 9), (true, 10), (true, 11), (true, 12), (false, 13), (true, 14), (true, 15), (true, 16), (true, 17), (true, 18), (true, 19), (true, 21), (true, 22), (true, 23), (true, 24), (true, 25), (false, 20), (false, 26), (true, 27)] (fun W : World => W.cell? (ad.add (k * 4)) = some (.int .i64 i1) ∧ W.cell? ⟨(ad.add (k * 4)).block, (ad.add (k * 4)).off + 1, none⟩ = some (.int .i64 i2) ∧ W.cell? ⟨(ad.add (k * 4)).block, (ad.add (k * 4)).off + 2, none⟩ = some (.slice Ag ng cg) ∧ W.cell? ⟨(ad.add (k * 4)).block, (ad.add (k * 4)).off + 3, none⟩ = some (.slice At nt ct)) (by kernel_rfl) (by kernel_rfl) (fun R hR => ?_)
            have q0 := Lib.hid hb.drew
            have hHeld : (fun W : World => W.cell? (ad.add (k * 4)) = some (.int .i64 i1) ∧ W.cell? ⟨(ad.add (k * 4)).block, (ad.add (k * 4)).off + 1, none⟩ = some (.int .i64 i2) ∧ W.cell? ⟨(ad.add (k * 4)).block, (ad.add (k * 4)).off + 2, none⟩ = some (.slice Ag ng cg) ∧ W.cell? ⟨(ad.add (k * 4)).block, (ad.add (k * 4)).off + 3, none⟩ = some (.slice At nt ct)) wr.drew := hA.out _ q0.out
            repeat (first | (refine lex_take (v := ?_) rfl (by rfl) (by assumption) ?_ ?_; rotate_left 1; (focus (intro w hSw; (try dsimp only at hSw); go_simp; (try with_reducible rfl))); (try simp only [Act.put, List.setIfInBounds_toArray, List.set_cons_zero, List.set_cons_succ])) | (refine lex_pass rfl (by rfl) (by assumption) ?_; (try simp only [Act.put, List.setIfInBounds_toArray, List.set_cons_zero, List.set_cons_succ])))
            (refine lex_call rfl (by rfl) (fun K hq => ?_); go_simp)
            go_at_call 12
            refine (hJ.out _).mono ?_; rintro e v1 ⟨rfl, hb1⟩
            have q1 := Lib.hid (Below.next_ q0.out hb1)
            clear hHeld hb1
            have hHeld : (fun W : World => W.cell? (ad.add (k * 4)) = some (.int .i64 i1) ∧ W.cell? ⟨(ad.add (k * 4)).block, (ad.add (k * 4)).off + 1, none⟩ = some (.int .i64 i2) ∧ W.cell? ⟨(ad.add (k * 4)).block, (ad.add (k * 4)).off + 2, none⟩ = some (.slice Ag ng cg) ∧ W.cell? ⟨(ad.add (k * 4)).block, (ad.add (k * 4)).off + 3, none⟩ = some (.slice At nt ct)) v1 := hA.out _ q1.out
            go_wp2_with fail
            (refine hq.out _ _ (fun W : World => W.cell? (ad.add (k * 4)) = some (.int .i64 i1) ∧ W.cell? ⟨(ad.add (k * 4)).block, (ad.add (k * 4)).off + 1, none⟩ = some (.int .i64 i2) ∧ W.cell? ⟨(ad.add (k * 4)).block, (ad.add (k * 4)).off + 2, none⟩ = some (.slice Ag ng cg) ∧ W.cell? ⟨(ad.add (k * 4)).block, (ad.add (k * 4)).off + 3, none⟩ = some (.slice At nt ct)) (fun _ h => h) hHeld ?_; clear hq K; (try simp only [Act.put, List.setIfInBounds_toArray, List.set_cons_zero, List.set_cons_succ]))
            repeat (first | (refine lex_take (v := ?_) rfl (by rfl) (by assumption) ?_ ?_; rotate_left 1; (focus (intro w hSw; (try dsimp only at hSw); go_simp; (try with_reducible rfl))); (try simp only [Act.put, List.setIfInBounds_toArray, List.set_cons_zero, List.set_cons_succ])) | (refine lex_pass rfl (by rfl) (by assumption) ?_; (try simp only [Act.put, List.setIfInBounds_toArray, List.set_cons_zero, List.set_cons_succ])))
            (refine lex_call rfl (by rfl) (fun K hq => ?_); go_simp)
            go_at_call 60
            refine (hS.out _ q1.out).mono ?_; rintro e v2 ⟨rfl, hb2⟩
            have q2 := Lib.hid (Below.next_ q1.out hb2)
            clear hHeld hb2
            have hHeld : (fun W : World => W.cell? (ad.add (k * 4)) = some (.int .i64 i1) ∧ W.cell? ⟨(ad.add (k * 4)).block, (ad.add (k * 4)).off + 1, none⟩ = some (.int .i64 i2) ∧ W.cell? ⟨(ad.add (k * 4)).block, (ad.add (k * 4)).off + 2, none⟩ = some (.slice Ag ng cg) ∧ W.cell? ⟨(ad.add (k * 4)).block, (ad.add (k * 4)).off + 3, none⟩ = some (.slice At nt ct)) v2 := hA.out _ q2.out
            go_wp2_with fail
            (refine hq.out _ _ (fun W : World => W.cell? (ad.add (k * 4)) = some (.int .i64 i1) ∧ W.cell? ⟨(ad.add (k * 4)).block, (ad.add (k * 4)).off + 1, none⟩ = some (.int .i64 i2) ∧ W.cell? ⟨(ad.add (k * 4)).block, (ad.add (k * 4)).off + 2, none⟩ = some (.slice Ag ng cg) ∧ W.cell? ⟨(ad.add (k * 4)).block, (ad.add (k * 4)).off + 3, none⟩ = some (.slice At nt ct)) (fun _ h => h) hHeld ?_; clear hq K; (try simp only [Act.put, List.setIfInBounds_toArray, List.set_cons_zero, List.set_cons_succ]))
            repeat (first | (refine lex_take (v := ?_) rfl (by rfl) (by assumption) ?_ ?_; rotate_left 1; (focus (intro w hSw; (try dsimp only at hSw); go_simp; (try with_reducible rfl))); (try simp only [Act.put, List.setIfInBounds_toArray, List.set_cons_zero, List.set_cons_succ])) | (refine lex_pass rfl (by rfl) (by assumption) ?_; (try simp only [Act.put, List.setIfInBounds_toArray, List.set_cons_zero, List.set_cons_succ])))
            (refine lex_call rfl (by rfl) (fun K hq => ?_); go_simp)
            go_at_call 33
            refine (hI2.out _ q2.out).mono ?_; rintro e v3 ⟨IB, ic, rfl, hown, hb3⟩
            have q3 := Lib.hid (Below.next_ q2.out hb3)
            have hHas := Lib.hid (refHas_any (cap := ic) rfl hil (Reads.of_own hown) i1 i2); clear hown
            clear hHeld hb3
            have hHeld : (fun W : World => W.cell? (ad.add (k * 4)) = some (.int .i64 i1) ∧ W.cell? ⟨(ad.add (k * 4)).block, (ad.add (k * 4)).off + 1, none⟩ = some (.int .i64 i2) ∧ W.cell? ⟨(ad.add (k * 4)).block, (ad.add (k * 4)).off + 2, none⟩ = some (.slice Ag ng cg) ∧ W.cell? ⟨(ad.add (k * 4)).block, (ad.add (k * 4)).off + 3, none⟩ = some (.slice At nt ct)) v3 := hA.out _ q3.out
            go_wp2_with fail
            (refine hq.out _ _ (fun W : World => W.cell? (ad.add (k * 4)) = some (.int .i64 i1) ∧ W.cell? ⟨(ad.add (k * 4)).block, (ad.add (k * 4)).off + 1, none⟩ = some (.int .i64 i2) ∧ W.cell? ⟨(ad.add (k * 4)).block, (ad.add (k * 4)).off + 2, none⟩ = some (.slice Ag ng cg) ∧ W.cell? ⟨(ad.add (k * 4)).block, (ad.add (k * 4)).off + 3, none⟩ = some (.slice At nt ct)) (fun _ h => h) hHeld ?_; clear hq K; (try simp only [Act.put, List.setIfInBounds_toArray, List.set_cons_zero, List.set_cons_succ]))
            repeat (first | (refine lex_take (v := ?_) rfl (by rfl) (by assumption) ?_ ?_; rotate_left 1; (focus (intro w hSw; (try dsimp only at hSw); go_simp; (try with_reducible rfl))); (try simp only [Act.put, List.setIfInBounds_toArray, List.set_cons_zero, List.set_cons_succ])) | (refine lex_pass rfl (by rfl) (by assumption) ?_; (try simp only [Act.put, List.setIfInBounds_toArray, List.set_cons_zero, List.set_cons_succ])))
            (refine lex_call rfl (by rfl) (fun K hq => ?_); go_simp)
            go_at_call 49
            refine (hHas.out).mono ?_; rintro e v4 ⟨rfl, hb4⟩
            have q4 := Lib.hid (Below.next_ q3.out hb4)
            clear hHeld hb4
            have hHeld : (fun W : World => W.cell? (ad.add (k * 4)) = some (.int .i64 i1) ∧ W.cell? ⟨(ad.add (k * 4)).block, (ad.add (k * 4)).off + 1, none⟩ = some (.int .i64 i2) ∧ W.cell? ⟨(ad.add (k * 4)).block, (ad.add (k * 4)).off + 2, none⟩ = some (.slice Ag ng cg) ∧ W.cell? ⟨(ad.add (k * 4)).block, (ad.add (k * 4)).off + 3, none⟩ = some (.slice At nt ct)) v4 := hA.out _ q4.out
            go_wp2_with fail
            (refine hq.out _ _ (fun W : World => W.cell? (ad.add (k * 4)) = some (.int .i64 i1) ∧ W.cell? ⟨(ad.add (k * 4)).block, (ad.add (k * 4)).off + 1, none⟩ = some (.int .i64 i2) ∧ W.cell? ⟨(ad.add (k * 4)).block, (ad.add (k * 4)).off + 2, none⟩ = some (.slice Ag ng cg) ∧ W.cell? ⟨(ad.add (k * 4)).block, (ad.add (k * 4)).off + 3, none⟩ = some (.slice At nt ct)) (fun _ h => h) hHeld ?_; clear hq K; (try simp only [Act.put, List.setIfInBounds_toArray, List.set_cons_zero, List.set_cons_succ]))
            repeat (first | (refine lex_take (v := ?_) rfl (by rfl) (by assumption) ?_ ?_; rotate_left 1; (focus (intro w hSw; (try dsimp only at hSw); go_simp; (try with_reducible rfl))); (try simp only [Act.put, List.setIfInBounds_toArray, List.set_cons_zero, List.set_cons_succ])) | (refine lex_pass rfl (by rfl) (by assumption) ?_; (try simp only [Act.put, List.setIfInBounds_toArray, List.set_cons_zero, List.set_cons_succ])))
            refine lex_end ?_
            refine hR.out _ _ ?_
            clear hR R hHeld
            go_wp2_with fail
            go_ret
            exact ⟨by rw [hfin.out]; rfl, q4.out⟩
          · have hd : decide ((i1, i2) ∈ ids) = false := decide_eq_false hm
            have hpre2 := Lib.hid (And.intro (all_take hpre.out.1 y1.out (show entOk _ = true by unfold entOk; rw [hid, hop]; rfl)) (nodup_take (by rw [hids.out]; exact hpre.out.2) y1.out (by rw [hids.out]; exact hm)))
            replace hid := Lib.hid hid
            replace hop := Lib.hid hop
            go_upto_region 4 with fail
            refine wp_region_lex [(true, 0), (true, 1), (true, 2), (true, 3), (true, 4), (false, 5), (true, 6), (true, 7), (true, 8), (true, 9), (true, 10), (true, 11), (true, 12), (false, 13), (true, 14), (true, 15), (true, 16), (true, 17), (true, 18), (true, 19), (true, 21), (true, 22), (true, 23), (true, 24), (true, 25), (false, 20), (false, 26), (true, 27)] (fun W : World => W.cell? (ad.add (k * 4)) = some (.int .i64 i1) ∧ W.cell? ⟨(ad.add (k * 4)).block, (ad.add (k * 4)).off + 1, none⟩ = some (.int .i64 i2) ∧ W.cell? ⟨(ad.add (k * 4)).block, (ad.add (k * 4)).off + 2, none⟩ = some (.slice Ag ng cg) ∧ W.cell? ⟨(ad.add (k * 4)).block, (ad.add (k * 4)).off + 3, none⟩ = some (.slice At nt ct)) (by kernel_rfl) (by kernel_rfl) (fun R hR => ?_)
            have q0 := Lib.hid hb.drew
            have hHeld : (fun W : World => W.cell? (ad.add (k * 4)) = some (.int .i64 i1) ∧ W.cell? ⟨(ad.add (k * 4)).block, (ad.add (k * 4)).off + 1, none⟩ = some (.int .i64 i2) ∧ W.cell? ⟨(ad.add (k * 4)).block, (ad.add (k * 4)).off + 2, none⟩ = some (.slice Ag ng cg) ∧ W.cell? ⟨(ad.add (k * 4)).block, (ad.add (k * 4)).off + 3, none⟩ = some (.slice At nt ct)) wr.drew := hA.out _ q0.out
            repeat (first | (refine lex_take (v := ?_) rfl (by rfl) (by assumption) ?_ ?_; rotate_left 1; (focus (intro w hSw; (try dsimp only at hSw); go_simp; (try with_reducible rfl))); (try simp only [Act.put, List.setIfInBounds_toArray, List.set_cons_zero, List.set_cons_succ])) | (refine lex_pass rfl (by rfl) (by assumption) ?_; (try simp only [Act.put, List.setIfInBounds_toArray, List.set_cons_zero, List.set_cons_succ])))
            (refine lex_call rfl (by rfl) (fun K hq => ?_); go_simp)
            go_at_call 12
            refine (hJ.out _).mono ?_; rintro e v1 ⟨rfl, hb1⟩
            have q1 := Lib.hid (Below.next_ q0.out hb1)
            clear hHeld hb1
            have hHeld : (fun W : World => W.cell? (ad.add (k * 4)) = some (.int .i64 i1) ∧ W.cell? ⟨(ad.add (k * 4)).block, (ad.add (k * 4)).off + 1, none⟩ = some (.int .i64 i2) ∧ W.cell? ⟨(ad.add (k * 4)).block, (ad.add (k * 4)).off + 2, none⟩ = some (.slice Ag ng cg) ∧ W.cell? ⟨(ad.add (k * 4)).block, (ad.add (k * 4)).off + 3, none⟩ = some (.slice At nt ct)) v1 := hA.out _ q1.out
            go_wp2_with fail
            (refine hq.out _ _ (fun W : World => W.cell? (ad.add (k * 4)) = some (.int .i64 i1) ∧ W.cell? ⟨(ad.add (k * 4)).block, (ad.add (k * 4)).off + 1, none⟩ = some (.int .i64 i2) ∧ W.cell? ⟨(ad.add (k * 4)).block, (ad.add (k * 4)).off + 2, none⟩ = some (.slice Ag ng cg) ∧ W.cell? ⟨(ad.add (k * 4)).block, (ad.add (k * 4)).off + 3, none⟩ = some (.slice At nt ct)) (fun _ h => h) hHeld ?_; clear hq K; (try simp only [Act.put, List.setIfInBounds_toArray, List.set_cons_zero, List.set_cons_succ]))
            repeat (first | (refine lex_take (v := ?_) rfl (by rfl) (by assumption) ?_ ?_; rotate_left 1; (focus (intro w hSw; (try dsimp only at hSw); go_simp; (try with_reducible rfl))); (try simp only [Act.put, List.setIfInBounds_toArray, List.set_cons_zero, List.set_cons_succ])) | (refine lex_pass rfl (by rfl) (by assumption) ?_; (try simp only [Act.put, List.setIfInBounds_toArray, List.set_cons_zero, List.set_cons_succ])))
            (refine lex_call rfl (by rfl) (fun K hq => ?_); go_simp)
            go_at_call 60
            refine (hS.out _ q1.out).mono ?_; rintro e v2 ⟨rfl, hb2⟩
            have q2 := Lib.hid (Below.next_ q1.out hb2)
            clear hHeld hb2
            have hHeld : (fun W : World => W.cell? (ad.add (k * 4)) = some (.int .i64 i1) ∧ W.cell? ⟨(ad.add (k * 4)).block, (ad.add (k * 4)).off + 1, none⟩ = some (.int .i64 i2) ∧ W.cell? ⟨(ad.add (k * 4)).block, (ad.add (k * 4)).off + 2, none⟩ = some (.slice Ag ng cg) ∧ W.cell? ⟨(ad.add (k * 4)).block, (ad.add (k * 4)).off + 3, none⟩ = some (.slice At nt ct)) v2 := hA.out _ q2.out
            go_wp2_with fail
            (refine hq.out _ _ (fun W : World => W.cell? (ad.add (k * 4)) = some (.int .i64 i1) ∧ W.cell? ⟨(ad.add (k * 4)).block, (ad.add (k * 4)).off + 1, none⟩ = some (.int .i64 i2) ∧ W.cell? ⟨(ad.add (k * 4)).block, (ad.add (k * 4)).off + 2, none⟩ = some (.slice Ag ng cg) ∧ W.cell? ⟨(ad.add (k * 4)).block, (ad.add (k * 4)).off + 3, none⟩ = some (.slice At nt ct)) (fun _ h => h) hHeld ?_; clear hq K; (try simp only [Act.put, List.setIfInBounds_toArray, List.set_cons_zero, List.set_cons_succ]))
            repeat (first | (refine lex_take (v := ?_) rfl (by rfl) (by assumption) ?_ ?_; rotate_left 1; (focus (intro w hSw; (try dsimp only at hSw); go_simp; (try with_reducible rfl))); (try simp only [Act.put, List.setIfInBounds_toArray, List.set_cons_zero, List.set_cons_succ])) | (refine lex_pass rfl (by rfl) (by assumption) ?_; (try simp only [Act.put, List.setIfInBounds_toArray, List.set_cons_zero, List.set_cons_succ])))
            (refine lex_call rfl (by rfl) (fun K hq => ?_); go_simp)
            go_at_call 33
            refine (hI2.out _ q2.out).mono ?_; rintro e v3 ⟨IB, ic, rfl, hown, hb3⟩
            have q3 := Lib.hid (Below.next_ q2.out hb3)
            have hHas := Lib.hid (refHas_any (cap := ic) rfl hil (Reads.of_own hown) i1 i2); clear hown
            clear hHeld hb3
            have hHeld : (fun W : World => W.cell? (ad.add (k * 4)) = some (.int .i64 i1) ∧ W.cell? ⟨(ad.add (k * 4)).block, (ad.add (k * 4)).off + 1, none⟩ = some (.int .i64 i2) ∧ W.cell? ⟨(ad.add (k * 4)).block, (ad.add (k * 4)).off + 2, none⟩ = some (.slice Ag ng cg) ∧ W.cell? ⟨(ad.add (k * 4)).block, (ad.add (k * 4)).off + 3, none⟩ = some (.slice At nt ct)) v3 := hA.out _ q3.out
            go_wp2_with fail
            (refine hq.out _ _ (fun W : World => W.cell? (ad.add (k * 4)) = some (.int .i64 i1) ∧ W.cell? ⟨(ad.add (k * 4)).block, (ad.add (k * 4)).off + 1, none⟩ = some (.int .i64 i2) ∧ W.cell? ⟨(ad.add (k * 4)).block, (ad.add (k * 4)).off + 2, none⟩ = some (.slice Ag ng cg) ∧ W.cell? ⟨(ad.add (k * 4)).block, (ad.add (k * 4)).off + 3, none⟩ = some (.slice At nt ct)) (fun _ h => h) hHeld ?_; clear hq K; (try simp only [Act.put, List.setIfInBounds_toArray, List.set_cons_zero, List.set_cons_succ]))
            repeat (first | (refine lex_take (v := ?_) rfl (by rfl) (by assumption) ?_ ?_; rotate_left 1; (focus (intro w hSw; (try dsimp only at hSw); go_simp; (try with_reducible rfl))); (try simp only [Act.put, List.setIfInBounds_toArray, List.set_cons_zero, List.set_cons_succ])) | (refine lex_pass rfl (by rfl) (by assumption) ?_; (try simp only [Act.put, List.setIfInBounds_toArray, List.set_cons_zero, List.set_cons_succ])))
            (refine lex_call rfl (by rfl) (fun K hq => ?_); go_simp)
            go_at_call 49
            refine (hHas.out).mono ?_; rintro e v4 ⟨rfl, hb4⟩
            have q4 := Lib.hid (Below.next_ q3.out hb4)
            clear hHeld hb4
            have hHeld : (fun W : World => W.cell? (ad.add (k * 4)) = some (.int .i64 i1) ∧ W.cell? ⟨(ad.add (k * 4)).block, (ad.add (k * 4)).off + 1, none⟩ = some (.int .i64 i2) ∧ W.cell? ⟨(ad.add (k * 4)).block, (ad.add (k * 4)).off + 2, none⟩ = some (.slice Ag ng cg) ∧ W.cell? ⟨(ad.add (k * 4)).block, (ad.add (k * 4)).off + 3, none⟩ = some (.slice At nt ct)) v4 := hA.out _ q4.out
            go_wp2_with fail
            (refine hq.out _ _ (fun W : World => W.cell? (ad.add (k * 4)) = some (.int .i64 i1) ∧ W.cell? ⟨(ad.add (k * 4)).block, (ad.add (k * 4)).off + 1, none⟩ = some (.int .i64 i2) ∧ W.cell? ⟨(ad.add (k * 4)).block, (ad.add (k * 4)).off + 2, none⟩ = some (.slice Ag ng cg) ∧ W.cell? ⟨(ad.add (k * 4)).block, (ad.add (k * 4)).off + 3, none⟩ = some (.slice At nt ct)) (fun _ h => h) hHeld ?_; clear hq K; (try simp only [Act.put, List.setIfInBounds_toArray, List.set_cons_zero, List.set_cons_succ]))
            repeat (first | (refine lex_take (v := ?_) rfl (by rfl) (by assumption) ?_ ?_; rotate_left 1; (focus (intro w hSw; (try dsimp only at hSw); go_simp; (try with_reducible rfl))); (try simp only [Act.put, List.setIfInBounds_toArray, List.set_cons_zero, List.set_cons_succ])) | (refine lex_pass rfl (by rfl) (by assumption) ?_; (try simp only [Act.put, List.setIfInBounds_toArray, List.set_cons_zero, List.set_cons_succ])))
            refine lex_end ?_
            refine hR.out _ _ ?_
            clear hR R hHeld
            go_wp2_with fail
            go_roundw
            case rel => exact ⟨k + 1, by go_num, by omega, hpre2, q4.out⟩
            case measure => simp [intOf] <;> omega
    · obtain rfl : k = n := by omega
      have hfin : eRight l = decide ((k : Int) ≤ 16) := by
        have h := hpre.out
        rw [List.take_of_length_le (by rw [hl1.out]; exact Nat.le_refl _)] at h
        unfold eRight
        rw [h.1, decide_eq_true h.2, hl1.out, Bool.and_true, Bool.and_true]
        by_cases h16 : k ≤ 16
        · rw [decide_eq_true h16, decide_eq_true (by omega)]
        · rw [decide_eq_false h16, decide_eq_false (by omega)]
      replace hfin := Lib.hid hfin
      go_wp2_with fail
      go_ret
      exact ⟨by rw [hfin.out]; rfl, hb⟩
end Go.Proofs.YtpkkjoiglemlgaaGreatDoor

/-
  batch.Print, the document's (layer 13). Where the sentinels lie.
-/
namespace Go.Proofs.YtpkkjoiglemlgaaGreatDoor
set_option linter.unusedVariables false
open Go.ChangeShapes Go.WideShapes Go.ChangeAt Go.RowKit Go.Extern.Stop Go.Stop Go.Extern

def entBytes (x : Ent) : List UInt8 := (sput x.id.1.toNat ++ sput x.id.2.toNat) ++ oBytes x.op
def eBytes (l : List Ent) : List UInt8 := sput l.length ++ l.flatMap entBytes
/-- What is written up to an entry. -/
def ePre (n : Nat) (l : List Ent) (k : Nat) : List UInt8 := sput n ++ (l.take k).flatMap entBytes
theorem ePre_succ {n : Nat} {l : List Ent} {k : Nat} {x : Ent} (hx : l[k]? = some x) : ePre n l (k + 1) = ePre n l k ++ entBytes x := by
  unfold ePre
  rw [List.take_add_one, hx, List.flatMap_append]
  simp
theorem entBytes_len {x : Ent} (hi : idRight x.id = true) (ho : oRight x.op = true) (hf : ∀ z ∈ x.op.steps, sFit z) : (entBytes x).length ≤ 2020 := by
  simp only [idRight, Bool.and_eq_true, decide_eq_true_eq] at hi
  have h1 := sput_ten (n := x.id.1.toNat) (by omega)
  have h2 := sput_ten (n := x.id.2.toNat) (by omega)
  have h3 := oBytes_len ho hf
  unfold entBytes
  simp only [List.length_append]
  omega
theorem eRight_parts {l : List Ent} (h : eRight l = true) : l.length ≤ 16 ∧ (∀ x ∈ l, idRight x.id = true ∧ oRight x.op = true) ∧ (l.map (·.id)).Nodup := by
  simp only [eRight, Bool.and_eq_true, decide_eq_true_eq, List.all_eq_true, entOk] at h
  exact ⟨h.1.1, h.1.2, h.2⟩
theorem ePre_len {l : List Ent} (h : eRight l = true) (hf : ∀ x ∈ l, ∀ z ∈ x.op.steps, sFit z) (k : Nat) : (ePre l.length l k).length ≤ 100000 := by
  obtain ⟨h1, h2, _⟩ := eRight_parts h
  have h3 := sput_ten (n := l.length) (by omega)
  have h4 := oflat_le entBytes 2020 (l.take k) (fun x hx => by
    have hx := List.mem_of_mem_take hx
    exact entBytes_len (h2 x hx).1 (h2 x hx).2 (hf x hx))
  have h5 : (l.take k).length ≤ 16 := by rw [List.length_take]; omega
  unfold ePre
  rw [List.length_append]
  have : (l.take k).length * 2020 ≤ 16 * 2020 := Nat.mul_le_mul_right _ h5
  omega
theorem btPrint_wrong {w : World} {sv : Nat → Addr} (S : Sent w sv) {v : Value} {l : List Ent} (h : ERow w v l) (hn : l.length ≤ 1000000) (hr : eRight l = false) :
    Calls Tryz.prog 24 #[v] w fun e w' => e = .returned (.tuple #[.string ⟨#[]⟩, .iface 242 (.pointer (some (sv 8)))]) ∧ Below w.heap.size w w' := by
  have hR := btRight_any h hn
  rw [hr] at hR
  have hG := fun W (h : Below w.heap.size w W) => (S.below h).var 8 (by decide)
  replace hR := Lib.hid hR
  replace hG := Lib.hid hG
  clear S h
  go_enter Tryz.func24, Tryz.ntmps24
  go_wp2_with fail
  refine (hR.out).mono ?_; rintro e w1 ⟨rfl, hb⟩
  have g8 : w1.cell? ⟨0, 0, none⟩ = some (.iface 242 (.pointer (some (sv 8)))) := hG.out _ hb
  go_upto_region 2 with fail
  go_region
  go_wp2_with fail
  exact bodyPost_ret (results_tmp2 Tryz.results24 _ _ _) rfl ⟨rfl, hb.drew⟩
theorem refBtPrint_wrong {w : World} {v : Value} {l : List Ent} (h : ERow w v l) (hn : l.length ≤ 1000000) (hc : ∀ A n c, v = .slice A n c → n ≤ c) (hr : eRight l = false) :
    Calls Tryz.prog 25 #[v] w fun e w' => e = .returned (.tuple #[.string ⟨#[]⟩, .int .i64 9]) ∧ Below w.heap.size w w' := by
  have hR := refBtRight_any h hn hc
  rw [hr] at hR
  replace hR := Lib.hid hR
  clear h
  go_enter Tryz.func25, Tryz.ntmps25
  go_wp2_with fail
  refine (hR.out).mono ?_; rintro e w1 ⟨rfl, hb⟩
  go_wp2_with fail
  exact bodyPost_ret (results_tmp2 Tryz.results25 _ _ _) rfl ⟨rfl, hb⟩
set_option maxHeartbeats 4000000 in
set_option maxRecDepth 100000 in
theorem btPrint_right {w : World} {v : Value} {l : List Ent} (h : ERow w v l) (hf : ∀ x ∈ l, ∀ z ∈ x.op.steps, sFit z) (hr : eRight l = true) :
    Calls Tryz.prog 24 #[v] w fun e w' => e = .returned (.tuple #[strL (eBytes l), .nilIface]) ∧ Below w.heap.size w w' := by
  obtain ⟨h16, hall, _⟩ := eRight_parts hr
  have hR := btRight_any h (by omega)
  rw [hr] at hR
  have hpl := fun k => ePre_len hr hf k
  obtain ⟨A, cap, its, rfl, e1, r1, o1⟩ := h
  have g1 : its.length = l.length := by rw [← e1]; simp
  have hfin : eBytes l = ePre l.length l l.length := by unfold eBytes ePre; rw [List.take_length]
  have hst : ePre l.length l 0 = sput l.length := by unfold ePre; simp
  rw [hfin]
  obtain ⟨n, hl1⟩ : ∃ n, l.length = n := ⟨_, rfl⟩
  rw [hl1] at r1 g1 hpl hR h16 hst ⊢
  have hP0 := fun W => put_any n (by omega) W
  have hwn : IntKind.u64.wrap (n : Int) = (n : Int) := by rw [IntKind.wrap_u64]; omega
  rw [← hst] at hP0
  replace hst := Lib.hid hst
  replace hfin := Lib.hid hfin
  replace r1 := Lib.hid r1
  replace o1 := Lib.hid o1
  replace e1 := Lib.hid e1
  replace g1 := Lib.hid g1
  replace hl1 := Lib.hid hl1
  replace hR := Lib.hid hR
  replace hP0 := Lib.hid hP0
  replace hall := Lib.hid hall
  replace hf := Lib.hid hf
  replace hpl := Lib.hid hpl
  clear hr
  go_enter Tryz.func24, Tryz.ntmps24
  go_wp2_with fail
  refine (hR.out).mono ?_; rintro e w1 ⟨rfl, hb1⟩
  replace hb1 := Lib.hid hb1
  go_wp2_with fail
  refine (hP0.out _).mono ?_; rintro e w2 ⟨rfl, hb2⟩
  have hb3 := Lib.hid (Below.next_ hb1.out hb2)
  clear hb2
  go_wp2_with fail
  go_loopw [4, 19] (fun t i wr => ∃ k : Nat, t = .string (bs (ePre n l k)) ∧ i = .int .i64 k ∧ k ≤ n ∧ Below w.heap.size w wr) (fun _ i _ => n + 1 - (intOf i).toNat)
  case atStart => exact ⟨0, rfl, rfl, Nat.zero_le _, hb3.out⟩
  case round =>
    obtain ⟨k, rfl, rfl, hk, hb⟩ := hrel
    by_cases hlt : k < n
    · obtain ⟨ad, it, rfl, hab, hx, hA⟩ := ent_cells r1.out g1.out hlt
      have p1 := o1.out it (List.mem_of_getElem? hx)
      have y1 := its_at e1.out hx
      obtain ⟨Ag, ng, cg, At, nt, ct, hfm⟩ := p1.1.form
      obtain ⟨⟨⟨i1, i2⟩, op⟩, gv, tv⟩ := it
      simp only at hA p1 y1 hfm
      obtain ⟨rfl, rfl⟩ := op_parts hfm
      clear hfm
      have hm := List.mem_of_getElem? y1
      obtain ⟨hid, hop⟩ := hall.out _ hm
      have hfs := hf.out _ hm
      simp only at hid hop hfs
      have hol := oBytes_len hop hfs
      have hS := fun W (h : Below w.heap.size w W) => printO_right _ op W (p1.1.below h) hfs hop
      have hsucc := ePre_succ (n := n) y1
      have hlen1 := hpl.out k
      simp only [idRight, Bool.and_eq_true, decide_eq_true_eq] at hid
      obtain ⟨m1, rfl⟩ : ∃ m : Nat, i1 = (m : Int) := ⟨i1.toNat, by omega⟩
      obtain ⟨m2, rfl⟩ : ∃ m : Nat, i2 = (m : Int) := ⟨i2.toNat, by omega⟩
      have hw1 : IntKind.u64.wrap (m1 : Int) = (m1 : Int) := by rw [IntKind.wrap_u64]; omega
      have hw2 : IntKind.u64.wrap (m2 : Int) = (m2 : Int) := by rw [IntKind.wrap_u64]; omega
      have hQ1 := fun W => put_any m1 (by omega) W
      have hQ2 := fun W => put_any m2 (by omega) W
      have hs1 := sput_ten (n := m1) (by omega)
      have hs2 := sput_ten (n := m2) (by omega)
      unfold entBytes at hsucc
      simp only [Int.toNat_natCast] at hsucc
      clear hid
      have ha1 := fun W => add_str W (sput m1) (sput m2) (by omega)
      have ha2 := fun W => add_str W (sput m1 ++ sput m2) (oBytes op) (by simp only [List.length_append]; omega)
      have ha3 := fun W => add_str W (ePre n l k) (sput m1 ++ sput m2 ++ oBytes op) (by simp only [List.length_append]; omega)
      rw [← hsucc] at ha3
      generalize sput m1 ++ sput m2 ++ oBytes op = T2 at *
      generalize sput m1 ++ sput m2 = T1 at *
      generalize ePre n l k = T0 at *
      rw [show strL (sput m1) = .string (bs (sput m1)) from rfl] at hQ1
      rw [show strL (sput m2) = .string (bs (sput m2)) from rfl] at hQ2
      rw [show strL (oBytes op) = .string (bs (oBytes op)) from rfl] at hS
      generalize sput m1 = s1 at *
      generalize sput m2 = s2 at *
      generalize oBytes op = s3 at *
      replace hx := Lib.hid hx
      replace y1 := Lib.hid y1
      replace hm := Lib.hid hm
      replace hop := Lib.hid hop
      replace hfs := Lib.hid hfs
      replace hsucc := Lib.hid hsucc
      replace hA := Lib.hid hA
      replace hS := Lib.hid hS
      replace hQ1 := Lib.hid hQ1
      replace hQ2 := Lib.hid hQ2
      clear p1 hol hlen1 hs1 hs2
      obtain ⟨c0, c1, c2, c3⟩ := hA.out _ hb
      have hbX : Below wr.heap.size wr (wr.alloc (.cells #[.int .i64 m1, .int .i64 m2, .slice Ag ng cg, .slice At nt ct] 64)) := (Below.refl _ _).alloc (Nat.le_refl _) _
      have BX := Blk.new wr 64 #[.int .i64 m1, .int .i64 m2, .slice Ag ng cg, .slice At nt ct]
      have hb1' := Lib.hid (Below.next_ hb hbX)
      replace BX := Lib.hid BX
      clear hbX
      go_wp2_with fail
      refine (hS.out _ hb1'.out).mono ?_; rintro e w4 ⟨rfl, hb4⟩
      have q0 := Lib.hid (Below.next_ hb1'.out hb4).drew
      have D0 := Lib.hid (BX.out.below hb4 BX.out.lt).drew
      clear hb4 hb1' BX
      go_upto_region 8 with fail
      refine wp_region_lex [(true, 0), (true, 1), (true, 2), (true, 3), (true, 4), (true, 6), (true, 7), (true, 8), (true, 9), (true, 12), (false, 5), (false, 10), (true, 11), (true, 13), (true, 14), (true, 15)] (fun W : World => W.cell? ⟨wr.heap.size, 0, none⟩ = some (.int .i64 m1) ∧ W.cell? ⟨wr.heap.size, 1, none⟩ = some (.int .i64 m2)) (by kernel_rfl) (by kernel_rfl) (fun R hR => ?_)
      have hHeld : (fun W : World => W.cell? ⟨wr.heap.size, 0, none⟩ = some (.int .i64 m1) ∧ W.cell? ⟨wr.heap.size, 1, none⟩ = some (.int .i64 m2)) w4.drew := ⟨D0.out.cell 0, D0.out.cell 1⟩
      repeat (first | (refine lex_take (v := ?_) rfl (by rfl) (by assumption) ?_ ?_; rotate_left 1; (focus (intro w hSw; (try dsimp only at hSw); go_simp; (try with_reducible rfl))); (try simp only [Act.put, List.setIfInBounds_toArray, List.set_cons_zero, List.set_cons_succ])) | (refine lex_pass rfl (by rfl) (by assumption) ?_; (try simp only [Act.put, List.setIfInBounds_toArray, List.set_cons_zero, List.set_cons_succ])))
      (refine lex_call rfl (by rfl) (fun K hq => ?_); go_simp)
      go_at_call 53
      refine (hQ1.out _).mono ?_; rintro e v1 ⟨rfl, hb5⟩
      have q1 := Lib.hid (Below.next_ q0.out hb5)
      have D1 := Lib.hid (D0.out.below hb5 D0.out.lt)
      clear hHeld hb5
      have hHeld : (fun W : World => W.cell? ⟨wr.heap.size, 0, none⟩ = some (.int .i64 m1) ∧ W.cell? ⟨wr.heap.size, 1, none⟩ = some (.int .i64 m2)) v1 := ⟨D1.out.cell 0, D1.out.cell 1⟩
      go_wp2_with fail
      (refine hq.out _ _ (fun W : World => W.cell? ⟨wr.heap.size, 0, none⟩ = some (.int .i64 m1) ∧ W.cell? ⟨wr.heap.size, 1, none⟩ = some (.int .i64 m2)) (fun _ h => h) hHeld ?_; clear hq K; (try simp only [Act.put, List.setIfInBounds_toArray, List.set_cons_zero, List.set_cons_succ]))
      repeat (first | (refine lex_take (v := ?_) rfl (by rfl) (by assumption) ?_ ?_; rotate_left 1; (focus (intro w hSw; (try dsimp only at hSw); go_simp; (try with_reducible rfl))); (try simp only [Act.put, List.setIfInBounds_toArray, List.set_cons_zero, List.set_cons_succ])) | (refine lex_pass rfl (by rfl) (by assumption) ?_; (try simp only [Act.put, List.setIfInBounds_toArray, List.set_cons_zero, List.set_cons_succ])))
      (refine lex_call rfl (by rfl) (fun K hq => ?_); go_simp)
      go_at_call 53
      refine (hQ2.out _).mono ?_; rintro e v2 ⟨rfl, hb6⟩
      have q2 := Lib.hid (Below.next_ q1.out hb6)
      have D2 := Lib.hid (D1.out.below hb6 D1.out.lt)
      clear hHeld hb6
      have hHeld : (fun W : World => W.cell? ⟨wr.heap.size, 0, none⟩ = some (.int .i64 m1) ∧ W.cell? ⟨wr.heap.size, 1, none⟩ = some (.int .i64 m2)) v2 := ⟨D2.out.cell 0, D2.out.cell 1⟩
      go_wp2_with fail
      (refine hq.out _ _ (fun W : World => W.cell? ⟨wr.heap.size, 0, none⟩ = some (.int .i64 m1) ∧ W.cell? ⟨wr.heap.size, 1, none⟩ = some (.int .i64 m2)) (fun _ h => h) hHeld ?_; clear hq K; (try simp only [Act.put, List.setIfInBounds_toArray, List.set_cons_zero, List.set_cons_succ]))
      repeat (first | (refine lex_take (v := ?_) rfl (by rfl) (by assumption) ?_ ?_; rotate_left 1; (focus (intro w hSw; (try dsimp only at hSw); go_simp; (try with_reducible rfl))); (try simp only [Act.put, List.setIfInBounds_toArray, List.set_cons_zero, List.set_cons_succ])) | (refine lex_pass rfl (by rfl) (by assumption) ?_; (try simp only [Act.put, List.setIfInBounds_toArray, List.set_cons_zero, List.set_cons_succ])))
      refine lex_end ?_
      refine hR.out _ _ ?_
      clear hR R hHeld
      go_wp2_with fail
      go_roundw
      case rel => exact ⟨k + 1, rfl, by go_num, by omega, q2.out⟩
      case measure => simp [intOf] <;> omega
    · obtain rfl : k = n := by omega
      go_wp2_with fail
      exact bodyPost_ret (results_tmp2 Tryz.results24 _ _ _) rfl ⟨rfl, hb⟩
set_option maxHeartbeats 4000000 in
set_option maxRecDepth 100000 in
theorem refBtPrint_right {w : World} {v : Value} {l : List Ent} (h : ERow w v l) (hc : ∀ A n c, v = .slice A n c → n ≤ c) (hf : ∀ x ∈ l, ∀ z ∈ x.op.steps, sFit z) (hr : eRight l = true) :
    Calls Tryz.prog 25 #[v] w fun e w' => e = .returned (.tuple #[strL (eBytes l), .int .i64 0]) ∧ Below w.heap.size w w' := by
  obtain ⟨h16, hall, _⟩ := eRight_parts hr
  have hR := refBtRight_any h (by omega) hc
  rw [hr] at hR
  have hpl := fun k => ePre_len hr hf k
  obtain ⟨A, cap, its, rfl, e1, r1, o1⟩ := h
  have g1 : its.length = l.length := by rw [← e1]; simp
  have hfin : eBytes l = ePre l.length l l.length := by unfold eBytes ePre; rw [List.take_length]
  have hst : ePre l.length l 0 = sput l.length := by unfold ePre; simp
  rw [hfin]
  obtain ⟨n, hl1⟩ : ∃ n, l.length = n := ⟨_, rfl⟩
  rw [hl1] at r1 g1 hpl hR h16 hst ⊢
  have hP0 := fun W => refPut_any n (by omega) W
  have hwn : IntKind.u64.wrap (n : Int) = (n : Int) := by rw [IntKind.wrap_u64]; omega
  rw [← hst] at hP0
  replace hst := Lib.hid hst
  replace hfin := Lib.hid hfin
  replace r1 := Lib.hid r1
  replace o1 := Lib.hid o1
  replace e1 := Lib.hid e1
  replace g1 := Lib.hid g1
  replace hl1 := Lib.hid hl1
  replace hR := Lib.hid hR
  replace hP0 := Lib.hid hP0
  replace hall := Lib.hid hall
  replace hf := Lib.hid hf
  replace hpl := Lib.hid hpl
  clear hr hc
  go_enter Tryz.func25, Tryz.ntmps25
  go_wp2_with fail
  refine (hR.out).mono ?_; rintro e w1 ⟨rfl, hb1⟩
  replace hb1 := Lib.hid hb1
  go_wp2_with fail
  refine (hP0.out _).mono ?_; rintro e w2 ⟨rfl, hb2⟩
  have hb3 := Lib.hid (Below.next_ hb1.out hb2)
  clear hb2
  go_wp2_with fail
  go_loopw [4, 5] (fun t i wr => ∃ k : Nat, t = .string (bs (ePre n l k)) ∧ i = .int .i64 k ∧ k ≤ n ∧ Below w.heap.size w wr) (fun _ i _ => n + 1 - (intOf i).toNat)
  case atStart => exact ⟨0, rfl, rfl, Nat.zero_le _, hb3.out⟩
  case round =>
    obtain ⟨k, rfl, rfl, hk, hb⟩ := hrel
    by_cases hlt : k < n
    · obtain ⟨ad, it, rfl, hab, hx, hA⟩ := ent_cells r1.out g1.out hlt
      have p1 := o1.out it (List.mem_of_getElem? hx)
      have y1 := its_at e1.out hx
      obtain ⟨Ag, ng, cg, At, nt, ct, hfm⟩ := p1.1.form
      obtain ⟨⟨⟨i1, i2⟩, op⟩, gv, tv⟩ := it
      simp only at hA p1 y1 hfm
      obtain ⟨rfl, rfl⟩ := op_parts hfm
      clear hfm
      have hm := List.mem_of_getElem? y1
      obtain ⟨hid, hop⟩ := hall.out _ hm
      have hfs := hf.out _ hm
      simp only at hid hop hfs
      have hol := oBytes_len hop hfs
      have hS := fun W (h : Below w.heap.size w W) => refPrintO_right _ op W (p1.1.below h) hfs hop
      have hsucc := ePre_succ (n := n) y1
      have hlen1 := hpl.out k
      simp only [idRight, Bool.and_eq_true, decide_eq_true_eq] at hid
      obtain ⟨m1, rfl⟩ : ∃ m : Nat, i1 = (m : Int) := ⟨i1.toNat, by omega⟩
      obtain ⟨m2, rfl⟩ : ∃ m : Nat, i2 = (m : Int) := ⟨i2.toNat, by omega⟩
      have hw1 : IntKind.u64.wrap (m1 : Int) = (m1 : Int) := by rw [IntKind.wrap_u64]; omega
      have hw2 : IntKind.u64.wrap (m2 : Int) = (m2 : Int) := by rw [IntKind.wrap_u64]; omega
      have hQ1 := fun W => refPut_any m1 (by omega) W
      have hQ2 := fun W => refPut_any m2 (by omega) W
      have hs1 := sput_ten (n := m1) (by omega)
      have hs2 := sput_ten (n := m2) (by omega)
      unfold entBytes at hsucc
      simp only [Int.toNat_natCast] at hsucc
      clear hid
      have ha1 := fun W => add_str W (ePre n l k) (sput m1) (by omega)
      have ha2 := fun W => add_str W (ePre n l k ++ sput m1) (sput m2) (by simp only [List.length_append]; omega)
      have ha3 := fun W => add_str W (ePre n l k ++ sput m1 ++ sput m2) (oBytes op) (by simp only [List.length_append]; omega)
      have hcat : ePre n l k ++ sput m1 ++ sput m2 ++ oBytes op = ePre n l (k + 1) := by rw [hsucc]; simp only [List.append_assoc]
      rw [hcat] at ha3
      generalize ePre n l k ++ sput m1 ++ sput m2 = T2 at *
      generalize ePre n l k ++ sput m1 = T1 at *
      generalize ePre n l k = T0 at *
      rw [show strL (sput m1) = .string (bs (sput m1)) from rfl] at hQ1
      rw [show strL (sput m2) = .string (bs (sput m2)) from rfl] at hQ2
      rw [show strL (oBytes op) = .string (bs (oBytes op)) from rfl] at hS
      generalize sput m1 = s1 at *
      generalize sput m2 = s2 at *
      generalize oBytes op = s3 at *
      replace hx := Lib.hid hx
      replace y1 := Lib.hid y1
      replace hm := Lib.hid hm
      replace hop := Lib.hid hop
      replace hfs := Lib.hid hfs
      replace hsucc := Lib.hid hsucc
      replace hA := Lib.hid hA
      replace hS := Lib.hid hS
      replace hQ1 := Lib.hid hQ1
      replace hQ2 := Lib.hid hQ2
      clear p1 hol hlen1 hs1 hs2
      try clear hcat
      obtain ⟨c0, c1, c2, c3⟩ := hA.out _ hb
      go_wp2_with fail
      refine (hS.out _ hb).mono ?_; rintro e w4 ⟨rfl, hb4⟩
      have q0 := Lib.hid (Below.next_ hb hb4).drew
      clear hb4
      go_upto_region 8 with fail
      refine wp_region_lex [(true, 0), (true, 1), (true, 2), (true, 3), (true, 4), (true, 5), (true, 6), (true, 7), (true, 10), (true, 11), (true, 12), (true, 13), (true, 14), (true, 15), (true, 16), (true, 19), (false, 8), (true, 9), (false, 17), (true, 18), (true, 20), (true, 21)] (fun W : World => W.cell? (ad.add (k * 4)) = some (.int .i64 m1) ∧ W.cell? ⟨(ad.add (k * 4)).block, (ad.add (k * 4)).off + 1, none⟩ = some (.int .i64 m2)) (by kernel_rfl) (by kernel_rfl) (fun R hR => ?_)
      have hHeld : (fun W : World => W.cell? (ad.add (k * 4)) = some (.int .i64 m1) ∧ W.cell? ⟨(ad.add (k * 4)).block, (ad.add (k * 4)).off + 1, none⟩ = some (.int .i64 m2)) w4.drew := ⟨(hA.out _ q0.out).1, (hA.out _ q0.out).2.1⟩
      repeat (first | (refine lex_take (v := ?_) rfl (by rfl) (by assumption) ?_ ?_; rotate_left 1; (focus (intro w hSw; (try dsimp only at hSw); go_simp; (try with_reducible rfl))); (try simp only [Act.put, List.setIfInBounds_toArray, List.set_cons_zero, List.set_cons_succ])) | (refine lex_pass rfl (by rfl) (by assumption) ?_; (try simp only [Act.put, List.setIfInBounds_toArray, List.set_cons_zero, List.set_cons_succ])))
      (refine lex_call rfl (by rfl) (fun K hq => ?_); go_simp)
      go_at_call 55
      refine (hQ1.out _).mono ?_; rintro e v1 ⟨rfl, hb5⟩
      have q1 := Lib.hid (Below.next_ q0.out hb5)
      clear hHeld hb5
      have hHeld : (fun W : World => W.cell? (ad.add (k * 4)) = some (.int .i64 m1) ∧ W.cell? ⟨(ad.add (k * 4)).block, (ad.add (k * 4)).off + 1, none⟩ = some (.int .i64 m2)) v1 := ⟨(hA.out _ q1.out).1, (hA.out _ q1.out).2.1⟩
      go_wp2_with fail
      (refine hq.out _ _ (fun W : World => W.cell? (ad.add (k * 4)) = some (.int .i64 m1) ∧ W.cell? ⟨(ad.add (k * 4)).block, (ad.add (k * 4)).off + 1, none⟩ = some (.int .i64 m2)) (fun _ h => h) hHeld ?_; clear hq K; (try simp only [Act.put, List.setIfInBounds_toArray, List.set_cons_zero, List.set_cons_succ]))
      repeat (first | (refine lex_take (v := ?_) rfl (by rfl) (by assumption) ?_ ?_; rotate_left 1; (focus (intro w hSw; (try dsimp only at hSw); go_simp; (try with_reducible rfl))); (try simp only [Act.put, List.setIfInBounds_toArray, List.set_cons_zero, List.set_cons_succ])) | (refine lex_pass rfl (by rfl) (by assumption) ?_; (try simp only [Act.put, List.setIfInBounds_toArray, List.set_cons_zero, List.set_cons_succ])))
      (refine lex_call rfl (by rfl) (fun K hq => ?_); go_simp)
      go_at_call 55
      refine (hQ2.out _).mono ?_; rintro e v2 ⟨rfl, hb6⟩
      have q2 := Lib.hid (Below.next_ q1.out hb6)
      clear hHeld hb6
      have hHeld : (fun W : World => W.cell? (ad.add (k * 4)) = some (.int .i64 m1) ∧ W.cell? ⟨(ad.add (k * 4)).block, (ad.add (k * 4)).off + 1, none⟩ = some (.int .i64 m2)) v2 := ⟨(hA.out _ q2.out).1, (hA.out _ q2.out).2.1⟩
      go_wp2_with fail
      (refine hq.out _ _ (fun W : World => W.cell? (ad.add (k * 4)) = some (.int .i64 m1) ∧ W.cell? ⟨(ad.add (k * 4)).block, (ad.add (k * 4)).off + 1, none⟩ = some (.int .i64 m2)) (fun _ h => h) hHeld ?_; clear hq K; (try simp only [Act.put, List.setIfInBounds_toArray, List.set_cons_zero, List.set_cons_succ]))
      repeat (first | (refine lex_take (v := ?_) rfl (by rfl) (by assumption) ?_ ?_; rotate_left 1; (focus (intro w hSw; (try dsimp only at hSw); go_simp; (try with_reducible rfl))); (try simp only [Act.put, List.setIfInBounds_toArray, List.set_cons_zero, List.set_cons_succ])) | (refine lex_pass rfl (by rfl) (by assumption) ?_; (try simp only [Act.put, List.setIfInBounds_toArray, List.set_cons_zero, List.set_cons_succ])))
      refine lex_end ?_
      refine hR.out _ _ ?_
      clear hR R hHeld
      go_wp2_with fail
      go_roundw
      case rel => exact ⟨k + 1, rfl, by go_num, by omega, q2.out⟩
      case measure => simp [intOf] <;> omega
    · obtain rfl : k = n := by omega
      go_wp2_with fail
      exact bodyPost_ret (results_tmp2 Tryz.results25 _ _ _) rfl ⟨rfl, hb⟩
end Go.Proofs.YtpkkjoiglemlgaaGreatDoor

/-
  A batch comes back of its bytes; bytes that are one's are those that are written (layer 13). No program in sight. No condition.
-/
namespace Go.Proofs.YtpkkjoiglemlgaaGreatDoor
set_option linter.unusedVariables false

theorem nmb_seg {s : ByteArray} {a n lo hi : Nat} (hn : n < 18446744073709551616) (h1 : lo ≤ n) (h2 : n ≤ hi) (h : Seg s a (sput n)) : nmb s a lo hi = .ok (n, ((a + (sput n).length : Nat) : Int)) := by
  unfold nmb
  rw [tk_seg hn h]
  simp only [ne_eq, not_true_eq_false, ↓reduceIte]
  rw [if_neg (by omega)]
theorem seg_nmb {s : ByteArray} {p : Int} {lo hi : Nat} {x : Nat × Int} (h : nmb s p lo hi = .ok x) : ∃ a : Nat, p = a ∧ Seg s a (sput x.1) ∧ x.2 = ((a + (sput x.1).length : Nat) : Int) ∧ lo ≤ x.1 ∧ x.1 ≤ hi := by
  have hin := nmb_in h
  unfold nmb at h
  split at h
  · cases h
  · rename_i h1
    have h1' : (tk s p).2.2 = 0 := Classical.byContradiction fun hc => h1 hc
    obtain ⟨a, rfl, s1, s2, s3⟩ := seg_tk h1'
    split at h
    · cases h
    · injection h with h
      subst h
      exact ⟨a, rfl, s1, s2, hin⟩
theorem bEnt_seg {s : ByteArray} {a : Nat} {x : Ent} {ids : List (Int × Int)} (hi : idRight x.id = true) (ho : oRight x.op = true) (hf : ∀ z ∈ x.op.steps, sFit z) (hn : x.id ∉ ids) (h : Seg s a (entBytes x)) : bEnt s a ids = .ok (x, ((a + (entBytes x).length : Nat) : Int)) := by
  obtain ⟨⟨i1, i2⟩, op⟩ := x
  simp only [idRight, Bool.and_eq_true, decide_eq_true_eq] at hi
  obtain ⟨n1, rfl⟩ : ∃ n : Nat, i1 = n := ⟨i1.toNat, by omega⟩
  obtain ⟨n2, rfl⟩ : ∃ n : Nat, i2 = n := ⟨i2.toNat, by omega⟩
  unfold entBytes at h ⊢
  simp only [Int.toNat_natCast] at h ⊢
  obtain ⟨h12, h3⟩ := h.split
  obtain ⟨h1, h2⟩ := h12.split
  have e1 := nmb_seg (lo := 0) (hi := 255) (by omega) (Nat.zero_le _) (by omega) h1
  have e2 := nmb_seg (lo := 1) (hi := 4294967296) (by omega) (by omega) (by omega) h2
  rw [List.length_append] at h3
  have e3 := pTake_seg ho hf h3
  unfold bEnt bName
  rw [e1]
  simp only
  rw [e2]
  simp only
  rw [if_neg hn, show (((a + (sput n1).length + (sput n2).length : Nat)) : Int) = ((a + ((sput n1).length + (sput n2).length) : Nat) : Int) by push_cast; omega, e3]
  simp only
  rw [List.length_append, List.length_append]
  congr 3
  omega
theorem bRow_seg {s : ByteArray} : ∀ (xs : List Ent) (i a : Nat) (out : List Ent), (∀ x ∈ xs, (idRight x.id = true ∧ oRight x.op = true) ∧ ∀ z ∈ x.op.steps, sFit z) → ((out ++ xs).map (·.id)).Nodup → Seg s a (xs.flatMap entBytes) → bRow s xs.length i a out = .ok (out ++ xs, ((a + (xs.flatMap entBytes).length : Nat) : Int))
  | [], i, a, out, _, _, _ => by simp [bRow]
  | x :: xs, i, a, out, hx, hn, h => by
    rw [List.flatMap_cons] at h ⊢
    obtain ⟨h1, h2⟩ := h.split
    have hx0 := hx x (by simp)
    have hni : x.id ∉ out.map (·.id) := fun hm => by
      rw [List.map_append, List.map_cons, List.nodup_append] at hn
      exact hn.2.2 _ hm _ (by simp) rfl
    have e1 := bEnt_seg hx0.1.1 hx0.1.2 hx0.2 hni h1
    rw [List.length_cons, bRow, e1]
    simp only
    have e2 := bRow_seg xs (i + 1) (a + (entBytes x).length) (out ++ [x]) (fun y hy => hx y (by simp [hy])) (by simpa using hn) h2
    rw [e2]
    simp only [List.append_assoc, List.singleton_append, List.length_append]
    congr 3
    omega
theorem bParse_back {l : List Ent} (hr : eRight l = true) (hf : ∀ x ∈ l, ∀ z ∈ x.op.steps, sFit z) : bParse (bs (eBytes l)) = .ok l := by
  obtain ⟨h16, hall, hnd⟩ := eRight_parts hr
  obtain ⟨s, hs⟩ : ∃ s, s = bs (eBytes l) := ⟨_, rfl⟩
  have hsz : s.size = (eBytes l).length := by rw [hs, size_bs]
  rw [← hs]
  have h0 : Seg s 0 (eBytes l) := Seg.all hs
  clear hs
  unfold eBytes at h0 hsz
  rw [List.length_append] at hsz
  obtain ⟨h1, h2⟩ := h0.split
  have e1 := tk_seg (by omega) h1
  have e2 := bRow_seg l 0 (0 + (sput l.length).length) [] (fun x hx => ⟨hall x hx, hf x hx⟩) (by simpa using hnd) h2
  unfold bParse
  have e3 : tk s 0 = (l.length, ((0 + (sput l.length).length : Nat) : Int), 0) := e1
  rw [e3]
  simp only [ne_eq, not_true_eq_false, ↓reduceIte]
  rw [if_neg (by omega), e2]
  simp only [List.nil_append]
  exact if_neg (by omega)
theorem seg_bEnt {s : ByteArray} {p : Int} {ids : List (Int × Int)} {x : Ent × Int} (h : bEnt s p ids = .ok x) : ∃ a : Nat, p = a ∧ Seg s a (entBytes x.1) ∧ x.2 = ((a + (entBytes x.1).length : Nat) : Int) ∧ idRight x.1.id = true ∧ oRight x.1.op = true ∧ (∀ z ∈ x.1.op.steps, sFit z) ∧ x.1.id ∉ ids := by
  unfold bEnt at h
  split at h
  · cases h
  · rename_i y hy
    split at h
    · cases h
    · rename_i hn
      split at h
      · cases h
      · rename_i o hp
        injection h with h
        subst h
        unfold bName at hy
        split at hy
        · cases hy
        · rename_i a1 ha
          split at hy
          · cases hy
          · rename_i b1 hb
            injection hy with hy
            subst hy
            obtain ⟨n1, q1⟩ := a1
            obtain ⟨n2, q2⟩ := b1
            obtain ⟨op, q3⟩ := o
            obtain ⟨a, rfl, s1, s2, s3, s4⟩ := seg_nmb ha
            simp only at hb hp s1 s2 s3 s4 hn ⊢
            obtain ⟨a', f1, t1, t2, t3, t4⟩ := seg_nmb hb
            simp only at t1 t2 t3 t4
            obtain ⟨a2, g1, u1, u2, u3, u4⟩ := seg_pTake hp
            obtain rfl : a' = a + (sput n1).length := by omega
            obtain rfl : a2 = a + (sput n1).length + (sput n2).length := by omega
            refine ⟨a, rfl, ?_, ?_, ?_, u3, u4, hn⟩
            · unfold entBytes
              simp only [Int.toNat_natCast]
              refine (s1.append t1).append ?_
              rw [List.length_append, ← Nat.add_assoc]
              exact u1
            · rw [u2]
              unfold entBytes
              simp only [Int.toNat_natCast, List.length_append]
              omega
            · simp only [idRight, Bool.and_eq_true, decide_eq_true_eq]
              omega
theorem seg_bRow {s : ByteArray} : ∀ (k i a : Nat) (out ys : List Ent) (nx : Int), a ≤ s.size → (out.map (·.id)).Nodup → bRow s k i a out = .ok (ys, nx) → ∃ xs, ys = out ++ xs ∧ xs.length = k ∧ Seg s a (xs.flatMap entBytes) ∧ nx = ((a + (xs.flatMap entBytes).length : Nat) : Int) ∧ (∀ x ∈ xs, (idRight x.id = true ∧ oRight x.op = true) ∧ ∀ z ∈ x.op.steps, sFit z) ∧ (ys.map (·.id)).Nodup
  | 0, i, a, out, ys, nx, ha, hn, h => by
    rw [bRow] at h
    injection h with h
    obtain ⟨rfl, rfl⟩ := Prod.mk.inj h
    exact ⟨[], by simp, rfl, Seg.nil ha, by simp, by simp, hn⟩
  | k + 1, i, a, out, ys, nx, ha, hn, h => by
    rw [bRow] at h
    split at h
    · cases h
    · rename_i x hx
      obtain ⟨a', e1, e2, e3, e4, e5, e6, e7⟩ := seg_bEnt hx
      obtain rfl : a = a' := by omega
      rw [e3] at h
      have hn2 : ((out ++ [x.1]).map (·.id)).Nodup := by
        rw [List.map_append, List.nodup_append]
        exact ⟨hn, by simp, fun u hu v hv e => by
          have : v = x.1.id := by simpa using hv
          subst this
          subst e
          exact e7 hu⟩
      obtain ⟨xs, f1, f2, f3, f4, f5, f6⟩ := seg_bRow k (i + 1) _ _ _ _ e2.le hn2 h
      refine ⟨x.1 :: xs, by rw [f1]; simp, by simp [f2], by rw [List.flatMap_cons]; exact e2.append f3, ?_, ?_, f6⟩
      · rw [f4, List.flatMap_cons, List.length_append, Nat.add_assoc]
      · intro y hy
        rcases List.mem_cons.1 hy with rfl | hy
        · exact ⟨⟨e4, e5⟩, e6⟩
        · exact f5 y hy
theorem back_bParse {s : ByteArray} {l : List Ent} (h : bParse s = .ok l) : eRight l = true ∧ bs (eBytes l) = s ∧ ∀ x ∈ l, ∀ z ∈ x.op.steps, sFit z := by
  unfold bParse at h
  split at h
  · cases h
  · rename_i h1
    have h1' : (tk s 0).2.2 = 0 := Classical.byContradiction fun hc => h1 hc
    obtain ⟨a, e0, s1, s2, s3⟩ := seg_tk h1'
    obtain rfl : 0 = a := by omega
    split at h
    · cases h
    · rename_i h16
      split at h
      · cases h
      · rename_i x hx
        obtain ⟨ys, nx⟩ := x
        rw [s2] at hx
        obtain ⟨xs, f1, f2, f3, f4, f5, f6⟩ := seg_bRow _ 0 _ [] _ _ s1.le (by simp) hx
        simp only [List.nil_append] at f1
        subst f1
        split at h
        · cases h
        · rename_i hlt
          injection h with h
          subst h
          simp only at hlt
          have hseg := s1.append f3
          have hle := hseg.le
          rw [← f2] at hseg hle f4 h16
          rw [List.length_append] at hle
          refine ⟨?_, ?_, fun x hx => (f5 x hx).2⟩
          · simp only [eRight, Bool.and_eq_true, decide_eq_true_eq, List.all_eq_true, entOk]
            exact ⟨⟨by omega, fun x hx => (f5 x hx).1⟩, f6⟩
          · unfold eBytes
            exact (hseg.whole (by rw [List.length_append]; omega)).symm
end Go.Proofs.YtpkkjoiglemlgaaGreatDoor
