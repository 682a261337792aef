import Derived.Test.YtmlnhjfdhjachaaGreatProg
import Derived.Deep.RegionHeld3
import Derived.Test.YtmlnhjfdhjachaaGreatQva11
/-
  Pairs (the document's table): what is got, put and taken out. No condition.
-/
namespace Go.Proofs.YtmlnhjfdhjachaaGreat
set_option linter.unusedVariables false
open Go.ChangeShapes Go.WideShapes Go.ChangeAt Go.RowKit
open Go.ChangeMaps (setBlock)

def pairC (p : ByteArray × ByteArray) : List Value := [.string p.1, .string p.2]
def pairL (m : List (ByteArray × ByteArray)) : List Value := m.flatMap pairC
theorem pairL_len (m : List (ByteArray × ByteArray)) : (pairL m).length = m.length * 2 := by
  induction m with
  | nil => rfl
  | cons p m ih => simp only [pairL, List.flatMap_cons, List.length_append, List.length_cons, pairC, List.length_nil] at ih ⊢; omega
theorem pairL_snoc (m : List (ByteArray × ByteArray)) (p : ByteArray × ByteArray) : pairL m ++ [.string p.1, .string p.2] = pairL (m ++ [p]) := by simp [pairL, pairC]
/-- A row of pairs that the call made, and its block. -/
structure PRow (v : Value) (g : Nat) (o : Obj) (m : List (ByteArray × ByteArray)) : Prop where
  ex : ∃ cap cur, v = .slice (some ⟨g, 0, none⟩) m.length cap ∧ o = .cells cur 90 ∧ m.length ≤ cap ∧ cap ≤ maxLen ∧ cur.size = cap * 2 ∧ cur.toList.take (m.length * 2) = pairL m
theorem PRow.nil (g : Nat) : PRow (.slice (some ⟨g, 0, none⟩) 0 0) g (.cells #[] 90) [] := ⟨0, #[], rfl, rfl, Nat.le_refl _, Nat.zero_le _, rfl, rfl⟩
theorem PRow.own {v : Value} {g : Nat} {o : Obj} {m : List (ByteArray × ByteArray)} (h : PRow v g o m) {W : World} {base : Nat} (hW : W.heap[g]? = some o) (hb : base ≤ g) : W.ownsRow base 90 2 v m.length (pairL m) := by
  obtain ⟨cap, cur, e1, e2, e3, e4, e5, e6⟩ := h.ex
  exact ⟨pairL_len m, .inr ⟨g, cap, cur, e1, hb, by rw [hW, e2], e3, e4, e5, e6⟩⟩
theorem PRow.slice {v : Value} {g : Nat} {o : Obj} {m : List (ByteArray × ByteArray)} (h : PRow v g o m) : ∃ cap, v = .slice (some ⟨g, 0, none⟩) m.length cap := by
  obtain ⟨cap, cur, e1, _⟩ := h.ex
  exact ⟨cap, e1⟩
theorem PRow.of_own {W : World} {base n g cap : Nat} {m : List (ByteArray × ByteArray)} (h : W.ownsRow base 90 2 (.slice (some ⟨g, 0, none⟩) n cap) n (pairL m)) (hl : m.length = n) : ∃ o, W.heap[g]? = some o ∧ PRow (.slice (some ⟨g, 0, none⟩) n cap) g o m ∧ base ≤ g := by
  subst hl
  rcases h.2 with ⟨h1, _⟩ | ⟨g', cap', cur, e1, e2, e3, e4, e5, e6, e7⟩
  · cases h1
  · injection e1 with e1 _ e1'
    injection e1 with e1
    injection e1 with e1
    subst e1 e1'
    exact ⟨_, e3, ⟨cap, cur, rfl, rfl, e4, e5, e6, e7⟩, e2⟩
theorem PRow.reads {g n cap : Nat} {o : Obj} {m : List (ByteArray × ByteArray)} (h : PRow (.slice (some ⟨g, 0, none⟩) n cap) g o m) {W : World} (hW : W.heap[g]? = some o) : m.length = n ∧ Reads W W.heap.size 2 (some ⟨g, 0, none⟩) n (pairL m) := by
  have h1 := h.own (base := 0) hW (Nat.zero_le _)
  obtain ⟨cap', _, e1, _⟩ := h.ex
  injection e1 with _ e1 _
  subst e1
  exact ⟨rfl, Reads.of_own h1⟩
theorem pair_at {w wr : World} {B n : Nat} {A : Option Addr} {m : List (ByteArray × ByteArray)} (h : Reads w B 2 A n (pairL m)) (hb : Below B w wr) {k : Nat} (hk : k < n) (hn : m.length = n) :
    ∃ ad p, A = some ad ∧ m[k]? = some p ∧ wr.cell? (ad.add (k * 2)) = some (.string p.1) ∧ wr.cell? (ad.add (k * 2 + 1)) = some (.string p.2) := by
  obtain ⟨ad, p, e1, e2, e3, e4⟩ := Reads.fld (mk := pairC) (fun _ => rfl) h hk hn
  exact ⟨ad, p, e1, e3, keepc hb e2 (by have := e4 0 (.string p.1) rfl; rwa [Nat.add_zero] at this), keepc hb e2 (e4 1 (.string p.2) rfl)⟩
theorem delP_snoc {m : List (ByteArray × ByteArray)} {k : Nat} {p : ByteArray × ByteArray} (h : m[k]? = some p) (key : ByteArray) : delP (m.take (k + 1)) key = if p.1 = key then delP (m.take k) key else delP (m.take k) key ++ [p] := by
  rw [List.take_add_one, h]
  unfold delP
  rw [List.filter_append]
  by_cases hk : p.1 = key
  · simp [hk]
  · simp [hk]
/-- Between two rounds of Delete. -/
structure DelRel (w : World) (n : Nat) (m : List (ByteArray × ByteArray)) (key : ByteArray) (v iv : Value) (wr : World) : Prop where
  ex : ∃ (k : Nat) (g cap : Nat), k ≤ n ∧ iv = .int .i64 k ∧ v = .slice (some ⟨g, 0, none⟩) (delP (m.take k) key).length cap ∧ wr.ownsRow w.heap.size 90 2 v (delP (m.take k) key).length (pairL (delP (m.take k) key))
  below : Below w.heap.size w wr
theorem slice_some {w w' : World} {base n g' n' cp' : Nat} {v' : Value} {e : TypeId} {size : Nat} {xs : List Value} (hloc : v'.ownBlock = (Value.slice (some ⟨g', 0, none⟩) n' cp').ownBlock ∨ v'.ownBlock = some w.heap.size) (h : w'.ownsRow base e size v' n xs) : ∃ g cap, v' = .slice (some ⟨g, 0, none⟩) n cap := by
  rcases h.2 with ⟨rfl, _⟩ | ⟨g, cap, _, rfl, _⟩
  · rcases hloc with h | h <;> simp [Value.ownBlock] at h
  · exact ⟨g, cap, rfl⟩
set_option maxRecDepth 100000 in
set_option maxHeartbeats 4000000 in
theorem del_any {w : World} {A : Option Addr} {n cap : Nat} {m : List (ByteArray × ByteArray)} (key : ByteArray) (hlen : m.length = n) (hn : n ≤ 1000) (hr : Reads w w.heap.size 2 A n (pairL m)) :
    Calls Tryz.prog 24 #[.slice A n cap, .string key] w fun e w' => ∃ v g o, e = .returned v ∧ PRow v g o (delP m key) ∧ w'.heap[g]? = some o ∧ w.heap.size ≤ g ∧ Below w.heap.size w w' := by
  obtain ⟨i0, hi, hz0, hz1, hz2⟩ : ∃ i, Tryz.prog.info? 90 = some i ∧ i.zero = some (.agg #[.string ⟨#[]⟩, .string ⟨#[]⟩]) ∧ i.size = 2 ∧ i.bytes = 32 := ⟨_, rfl, rfl, rfl, rfl⟩
  replace hr := Lib.hid hr
  replace hlen := Lib.hid hlen
  go_enter Tryz.func24, Tryz.ntmps24
  go_wp2_with fail
  go_loopw [5, 6] (fun v iv wr => DelRel w n m key v iv wr) (fun _ i _ => n + 1 - (intOf i).toNat)
  case atStart =>
    refine ⟨⟨0, w.heap.size, 0, Nat.zero_le _, rfl, rfl, ?_⟩, ?_⟩
    · exact (PRow.nil w.heap.size).own (heap_alloc_new w _) (Nat.le_refl _)
    · exact (Below.refl _ _).alloc (Nat.le_refl _) _
  case round =>
    obtain ⟨⟨k, g, cp, hk, rfl, rfl, hown⟩, hbl⟩ := hrel
    by_cases hlt : k < n
    · have d2 : decide ((k : Int) < (n : Int)) = true := by simpa using hlt
      obtain ⟨ad, p, rfl, hp, r0, r1⟩ := pair_at hr.out hbl hlt hlen.out
      have hds := delP_snoc hp key
      have i1 : (0 : Int) ≤ (k : Int) := by omega
      have i2 : (k : Int) < (n : Int) := by omega
      have hl63 : (k : Int) + 1 ≤ 9223372036854775807 := by omega
      have hdl : (delP (m.take k) key).length ≤ 1000 := by
        have : (delP (m.take k) key).length ≤ (m.take k).length := List.length_filter_le _ _
        have h2 : (m.take k).length ≤ n := by rw [List.length_take, hlen.out]; omega
        omega
      have r1' : wr.cell? ⟨(ad.add (k * 2)).block, (ad.add (k * 2)).off + 1, none⟩ = some (.string p.2) := by
        have e : (⟨(ad.add (k * 2)).block, (ad.add (k * 2)).off + 1, none⟩ : Addr) = (ad.add (k * 2)).add 1 := rfl
        rw [e, add_of_add]
        exact r1
      obtain ⟨pk, pv⟩ := p
      simp only at hds r0 r1 r1'
      clear r1
      replace hp := Lib.hid hp
      by_cases hpk : pk = key
      · rw [if_pos hpk] at hds
        subst hpk
        replace hds := Lib.hid hds
        replace hown := Lib.hid hown
        replace hbl := Lib.hid hbl
        go_wp2_with fail
        go_roundw
        case rel => exact ⟨⟨k + 1, g, cp, by omega, by go_num, by rw [hds.out], by rw [hds.out]; exact hown.out⟩, hbl.out⟩
        case measure => simp [intOf]; omega
      · rw [if_neg hpk] at hds
        have hsn := pairL_snoc (delP (m.take k) key) (pk, pv)
        generalize delP (m.take k) key = l at *
        have d3 := txt_ne hpk
        have d3b : (pk.toList == key.toList) = false := by rw [beq_eq_false_iff_ne]; exact d3
        replace hpk := Lib.hid hpk
        replace hds := Lib.hid hds
        replace hsn := Lib.hid hsn
        replace hown := Lib.hid hown
        replace hbl := Lib.hid hbl
        go_wp2_with (at_builtin; go_loud (refine wpList_append_any _ rfl _ _ 37 rfl w.heap.size 90 i0 (.agg #[.string ⟨#[]⟩, .string ⟨#[]⟩]) 2 32 Tryz.underlying37 hi hz0 hz1 hz2 rfl (by decide) _ _ _ rfl (hown.out.alloc _) (wr.heap.size + 1) (some ⟨wr.heap.size, 0, none⟩) 1 1 [.string pk, .string pv] rfl (reads_blk2 (Blk.new wr 90 _) 2 1 rfl (by decide)) (by simp [Value.oneCell']) (by unfold maxLen; omega) (by omega) (by have := hbl.out.size; simp; omega) ?_; intro v' w5 hown5 hgrow hloc; rw [hsn.out] at hown5; have hb5 := owns_below (Nat.le_refl _) (Below.more_ hbl.out _) (hown.out.alloc _) hgrow; have hsl := slice_some (w := wr.alloc (.cells #[.string pk, .string pv] 90)) hloc hown5; replace hown5 := Lib.hid hown5; replace hgrow := Lib.hid hgrow; replace hloc := Lib.hid hloc; replace hb5 := Lib.hid hb5; obtain ⟨g', cp', rfl⟩ := hsl))
        go_roundw
        case rel =>
          have e : (l ++ [(pk, pv)]).length = l.length + 1 := by simp
          exact ⟨⟨k + 1, g', cp', by omega, by go_num, by rw [hds.out, e], by rw [hds.out, e]; exact hown5.out⟩, hb5.out⟩
        case measure => simp [intOf]; omega
    · have d2 : decide ((k : Int) < (n : Int)) = false := by simpa using hlt
      have e : m.take k = m := List.take_of_length_le (by rw [hlen.out]; omega)
      rw [e] at hown ⊢
      obtain ⟨o, h1, h2, h3⟩ := PRow.of_own hown rfl
      clear hown e
      replace h1 := Lib.hid h1
      go_wp2_with fail
      go_ret
      exact ⟨_, _, _, rfl, h2, h1.out, h3, hbl⟩
theorem pairL_snoc' (m : List (ByteArray × ByteArray)) (a b : ByteArray) : pairL m ++ [.string a, .string b] = pairL (m ++ [(a, b)]) := pairL_snoc m (a, b)
theorem putP_drop {m : List (ByteArray × ByteArray)} {k : Nat} {p : ByteArray × ByteArray} (h : m[k]? = some p) (ge : ByteArray → Bool) (key v : ByteArray) (d : Bool) : putP ge key v (m.drop k) d = (if d then [] else if ge p.1 then [(key, v)] else []) ++ (if p.1 = key then [] else [p]) ++ putP ge key v (m.drop (k + 1)) (d || ge p.1) := by
  have h1 : m.drop k = p :: m.drop (k + 1) := by
    obtain ⟨h2, h3⟩ := List.getElem?_eq_some_iff.1 h
    rw [← h3]; exact List.drop_eq_getElem_cons h2
  rw [h1]
  rfl
def geP (key : ByteArray) : ByteArray → Bool := fun t => !(Op.bytesLess t.toList key.toList)
/-- Between two rounds of Put. -/
structure PutRel (w : World) (n : Nat) (m : List (ByteArray × ByteArray)) (key value : ByteArray) (v dv iv : Value) (wr : World) : Prop where
  ex : ∃ (k : Nat) (d : Bool) (acc : List (ByteArray × ByteArray)) (g cap : Nat), k ≤ n ∧ iv = .int .i64 k ∧ dv = .bool d ∧ v = .slice (some ⟨g, 0, none⟩) acc.length cap ∧ wr.ownsRow w.heap.size 90 2 v acc.length (pairL acc) ∧ acc ++ putP (geP key) key value (m.drop k) d = putP (geP key) key value m false ∧ acc.length ≤ k + (if d then 1 else 0)
  below : Below w.heap.size w wr
theorem slen {a : List (ByteArray × ByteArray)} (p : ByteArray × ByteArray) : (a ++ [p]).length = a.length + 1 := by simp
set_option maxRecDepth 100000 in
set_option maxHeartbeats 8000000 in
theorem put_any {w : World} {A : Option Addr} {n cap : Nat} {m : List (ByteArray × ByteArray)} (key value : ByteArray) (hlen : m.length = n) (hn : n ≤ 1000) (hr : Reads w w.heap.size 2 A n (pairL m)) :
    Calls Tryz.prog 23 #[.slice A n cap, .string key, .string value] w fun e w' => ∃ v g o, e = .returned v ∧ PRow v g o (putP (geP key) key value m false) ∧ w'.heap[g]? = some o ∧ w.heap.size ≤ g ∧ Below w.heap.size w w' := by
  obtain ⟨i0, hi, hz0, hz1, hz2⟩ : ∃ i, Tryz.prog.info? 90 = some i ∧ i.zero = some (.agg #[.string ⟨#[]⟩, .string ⟨#[]⟩]) ∧ i.size = 2 ∧ i.bytes = 32 := ⟨_, rfl, rfl, rfl, rfl⟩
  replace hr := Lib.hid hr
  replace hlen := Lib.hid hlen
  go_enter Tryz.func23, Tryz.ntmps23
  go_wp2_with fail
  go_loopw [7, 8, 9] (fun v dv iv wr => PutRel w n m key value v dv iv wr) (fun _ _ i _ => n + 1 - (intOf i).toNat)
  case atStart =>
    refine ⟨⟨0, false, [], w.heap.size, 0, Nat.zero_le _, rfl, rfl, rfl, ?_, rfl, Nat.zero_le _⟩, ?_⟩
    · exact (PRow.nil w.heap.size).own (heap_alloc_new w _) (Nat.le_refl _)
    · exact (Below.refl _ _).alloc (Nat.le_refl _) _
  case round =>
    obtain ⟨⟨k, d, acc, g, cp, hk, rfl, rfl, rfl, hown, hput, hal⟩, hbl⟩ := hrel
    by_cases hlt : k < n
    · have d2 : decide ((k : Int) < (n : Int)) = true := by simpa using hlt
      obtain ⟨ad, p, rfl, hp, r0, r1⟩ := pair_at hr.out hbl hlt hlen.out
      rw [putP_drop hp] at hput
      have i1 : (0 : Int) ≤ (k : Int) := by omega
      have i2 : (k : Int) < (n : Int) := by omega
      have hl63 : (k : Int) + 1 ≤ 9223372036854775807 := by omega
      have r1' : wr.cell? ⟨(ad.add (k * 2)).block, (ad.add (k * 2)).off + 1, none⟩ = some (.string p.2) := by
        have e : (⟨(ad.add (k * 2)).block, (ad.add (k * 2)).off + 1, none⟩ : Addr) = (ad.add (k * 2)).add 1 := rfl
        rw [e, add_of_add]
        exact r1
      obtain ⟨pk, pv⟩ := p
      simp only at hput r0 r1'
      clear r1
      replace hp := Lib.hid hp
      have hlat : ∀ W, Below w.heap.size w W → W.cell? (ad.add (k * 2)) = some (.string pk) ∧ W.cell? ⟨(ad.add (k * 2)).block, (ad.add (k * 2)).off + 1, none⟩ = some (.string pv) := fun W hW => by
        obtain ⟨ad', p', e1, e2, e3, e4⟩ := pair_at hr.out hW hlt hlen.out
        injection e1 with e1
        subst e1
        have e5 := hp.out
        rw [e2] at e5
        injection e5 with e5
        subst e5
        have e : (⟨(ad.add (k * 2)).block, (ad.add (k * 2)).off + 1, none⟩ : Addr) = (ad.add (k * 2)).add 1 := rfl
        rw [e, add_of_add]
        exact ⟨e3, e4⟩
      replace hlat := Lib.hid hlat
      have hq : (!(Op.bytesLess pk.toList key.toList)) = geP key pk := rfl
      have hcs : (d = true) ∨ (d = false ∧ geP key pk = true) ∨ (d = false ∧ geP key pk = false) := by cases d <;> cases geP key pk <;> simp
      replace hown := Lib.hid hown
      replace hbl := Lib.hid hbl
      rcases hcs with rfl | ⟨rfl, hge⟩ | ⟨rfl, hge⟩ <;> simp only [if_true, Bool.false_eq_true, if_false, Nat.add_zero] at hal
      · simp only [if_true, List.nil_append, Bool.true_or] at hput
        clear hq
        by_cases hpk : pk = key
        · rw [if_pos hpk, List.nil_append] at hput
          subst hpk
          replace hput := Lib.hid hput
          go_wp2_with fail
          go_roundw
          case rel => exact ⟨⟨k + 1, true, acc, g, cp, by omega, by go_num, rfl, by first | rfl | (simp only [slen]), by first | exact hown.out | (simp only [slen]; exact hown.out), hput.out, by simp; omega⟩, hbl.out⟩
          case measure => simp [intOf]; omega
        · rw [if_neg hpk, ← List.append_assoc] at hput
          have d3 := txt_ne hpk
          have d3b : (pk.toList == key.toList) = false := by rw [beq_eq_false_iff_ne]; exact d3
          replace hpk := Lib.hid hpk
          replace hput := Lib.hid hput
          go_wp2_with (at_builtin; go_loud (refine wpList_append_any _ rfl _ _ 37 rfl w.heap.size 90 i0 (.agg #[.string ⟨#[]⟩, .string ⟨#[]⟩]) 2 32 Tryz.underlying37 hi hz0 hz1 hz2 rfl (by decide) _ _ _ rfl (hown.out.alloc _) (wr.heap.size + 1) (some ⟨wr.heap.size, 0, none⟩) 1 1 [.string pk, .string pv] rfl (reads_blk2 (Blk.new wr 90 _) 2 1 rfl (by decide)) (by simp [Value.oneCell']) (by unfold maxLen; omega) (by omega) (by have := hbl.out.size; simp; omega) ?_; intro v' w6 hown6 hgrow hloc; rw [pairL_snoc' acc (pk, pv).1 (pk, pv).2] at hown6; have hb6 := owns_below (Nat.le_refl _) (Below.more_ hbl.out _) (hown.out.alloc _) hgrow; have hsl := slice_some (w := wr.alloc (.cells #[.string pk, .string pv] 90)) hloc hown6; replace hown6 := Lib.hid hown6; clear hgrow hloc; replace hb6 := Lib.hid hb6; obtain ⟨g6, cp6, rfl⟩ := hsl))
          go_roundw
          case rel => exact ⟨⟨k + 1, true, (acc ++ [(pk, pv)]), g6, cp6, by omega, by go_num, rfl, by first | rfl | (simp only [slen]), by first | exact hown6.out | (simp only [slen]; exact hown6.out), hput.out, by simp; omega⟩, hb6.out⟩
          case measure => simp [intOf]; omega
      · rw [hge] at hq hput
        simp only [if_true, Bool.false_eq_true, if_false, Bool.or_true] at hput
        rw [List.append_assoc, ← List.append_assoc] at hput
        by_cases hpk : pk = key
        · rw [if_pos hpk, List.nil_append] at hput
          subst hpk
          replace hput := Lib.hid hput
          go_wp2_with (at_builtin; go_loud (refine wpList_append_any _ rfl _ _ 37 rfl w.heap.size 90 i0 (.agg #[.string ⟨#[]⟩, .string ⟨#[]⟩]) 2 32 Tryz.underlying37 hi hz0 hz1 hz2 rfl (by decide) _ _ _ rfl (hown.out.alloc _) (wr.heap.size + 1) (some ⟨wr.heap.size, 0, none⟩) 1 1 [.string pk, .string value] rfl (reads_blk2 (Blk.new wr 90 _) 2 1 rfl (by decide)) (by simp [Value.oneCell']) (by unfold maxLen; omega) (by omega) (by have := hbl.out.size; simp; omega) ?_; intro v' w5 hown5 hgrow hloc; rw [pairL_snoc' acc (pk, value).1 (pk, value).2] at hown5; have hb5 := owns_below (Nat.le_refl _) (Below.more_ hbl.out _) (hown.out.alloc _) hgrow; have hsl := slice_some (w := wr.alloc (.cells #[.string pk, .string value] 90)) hloc hown5; replace hown5 := Lib.hid hown5; clear hgrow hloc; obtain ⟨s0, s1⟩ := hlat.out _ hb5; replace hb5 := Lib.hid hb5; obtain ⟨g5, cp5, rfl⟩ := hsl))
          go_roundw
          case rel => exact ⟨⟨k + 1, true, (acc ++ [(pk, value)]), g5, cp5, by omega, by go_num, rfl, by first | rfl | (simp only [slen]), by first | exact hown5.out | (simp only [slen]; exact hown5.out), hput.out, by simp; omega⟩, hb5.out⟩
          case measure => simp [intOf]; omega
        · rw [if_neg hpk, ← List.append_assoc] at hput
          have d3 := txt_ne hpk
          have d3b : (pk.toList == key.toList) = false := by rw [beq_eq_false_iff_ne]; exact d3
          replace hpk := Lib.hid hpk
          replace hput := Lib.hid hput
          go_wp2_with (at_builtin; first | (refine wpList_append_any _ rfl _ _ 37 rfl w.heap.size 90 i0 (.agg #[.string ⟨#[]⟩, .string ⟨#[]⟩]) 2 32 Tryz.underlying37 hi hz0 hz1 hz2 rfl (by decide) _ _ _ rfl (hown5.out.alloc _) (w5.heap.size + 1) (some ⟨w5.heap.size, 0, none⟩) 1 1 [.string pk, .string pv] rfl (reads_blk2 (Blk.new w5 90 _) 2 1 rfl (by decide)) (by simp [Value.oneCell']) (by unfold maxLen; (try simp only [List.length_append, List.length_cons, List.length_nil]); omega) (by (try simp only [List.length_append, List.length_cons, List.length_nil]); omega) (by have := hb5.out.size; simp; omega) ?_; intro v' w6 hown6 hgrow hloc; rw [pairL_snoc' (acc ++ [(key, value)]) (pk, pv).1 (pk, pv).2] at hown6; have hb6 := owns_below (Nat.le_refl _) (Below.more_ hb5.out _) (hown5.out.alloc _) hgrow; have hsl := slice_some (w := w5.alloc (.cells #[.string pk, .string pv] 90)) hloc hown6; replace hown6 := Lib.hid hown6; clear hgrow hloc; replace hb6 := Lib.hid hb6; obtain ⟨g6, cp6, rfl⟩ := hsl) | go_loud (refine wpList_append_any _ rfl _ _ 37 rfl w.heap.size 90 i0 (.agg #[.string ⟨#[]⟩, .string ⟨#[]⟩]) 2 32 Tryz.underlying37 hi hz0 hz1 hz2 rfl (by decide) _ _ _ rfl (hown.out.alloc _) (wr.heap.size + 1) (some ⟨wr.heap.size, 0, none⟩) 1 1 [.string key, .string value] rfl (reads_blk2 (Blk.new wr 90 _) 2 1 rfl (by decide)) (by simp [Value.oneCell']) (by unfold maxLen; omega) (by omega) (by have := hbl.out.size; simp; omega) ?_; intro v' w5 hown5 hgrow hloc; rw [pairL_snoc' acc (key, value).1 (key, value).2] at hown5; have hb5 := owns_below (Nat.le_refl _) (Below.more_ hbl.out _) (hown.out.alloc _) hgrow; have hsl := slice_some (w := wr.alloc (.cells #[.string key, .string value] 90)) hloc hown5; replace hown5 := Lib.hid hown5; clear hgrow hloc; obtain ⟨s0, s1⟩ := hlat.out _ hb5; replace hb5 := Lib.hid hb5; obtain ⟨g5, cp5, rfl⟩ := hsl))
          go_roundw
          case rel => exact ⟨⟨k + 1, true, ((acc ++ [(key, value)]) ++ [(pk, pv)]), g6, cp6, by omega, by go_num, rfl, by first | rfl | (simp only [slen]), by first | exact hown6.out | (simp only [slen]; exact hown6.out), hput.out, by simp; omega⟩, hb6.out⟩
          case measure => simp [intOf]; omega
      · rw [hge] at hq hput
        simp only [Bool.false_eq_true, if_false, List.nil_append, Bool.or_false] at hput
        by_cases hpk : pk = key
        · rw [if_pos hpk, List.nil_append] at hput
          subst hpk
          replace hput := Lib.hid hput
          go_wp2_with fail
          go_roundw
          case rel => exact ⟨⟨k + 1, false, acc, g, cp, by omega, by go_num, rfl, by first | rfl | (simp only [slen]), by first | exact hown.out | (simp only [slen]; exact hown.out), hput.out, by simp; omega⟩, hbl.out⟩
          case measure => simp [intOf]; omega
        · rw [if_neg hpk, ← List.append_assoc] at hput
          have d3 := txt_ne hpk
          have d3b : (pk.toList == key.toList) = false := by rw [beq_eq_false_iff_ne]; exact d3
          replace hpk := Lib.hid hpk
          replace hput := Lib.hid hput
          go_wp2_with (at_builtin; go_loud (refine wpList_append_any _ rfl _ _ 37 rfl w.heap.size 90 i0 (.agg #[.string ⟨#[]⟩, .string ⟨#[]⟩]) 2 32 Tryz.underlying37 hi hz0 hz1 hz2 rfl (by decide) _ _ _ rfl (hown.out.alloc _) (wr.heap.size + 1) (some ⟨wr.heap.size, 0, none⟩) 1 1 [.string pk, .string pv] rfl (reads_blk2 (Blk.new wr 90 _) 2 1 rfl (by decide)) (by simp [Value.oneCell']) (by unfold maxLen; omega) (by omega) (by have := hbl.out.size; simp; omega) ?_; intro v' w6 hown6 hgrow hloc; rw [pairL_snoc' acc (pk, pv).1 (pk, pv).2] at hown6; have hb6 := owns_below (Nat.le_refl _) (Below.more_ hbl.out _) (hown.out.alloc _) hgrow; have hsl := slice_some (w := wr.alloc (.cells #[.string pk, .string pv] 90)) hloc hown6; replace hown6 := Lib.hid hown6; clear hgrow hloc; replace hb6 := Lib.hid hb6; obtain ⟨g6, cp6, rfl⟩ := hsl))
          go_roundw
          case rel => exact ⟨⟨k + 1, false, (acc ++ [(pk, pv)]), g6, cp6, by omega, by go_num, rfl, by first | rfl | (simp only [slen]), by first | exact hown6.out | (simp only [slen]; exact hown6.out), hput.out, by simp; omega⟩, hb6.out⟩
          case measure => simp [intOf]; omega
    · have d2 : decide ((k : Int) < (n : Int)) = false := by simpa using hlt
      have e : m.drop k = [] := List.drop_of_length_le (by rw [hlen.out]; omega)
      rw [e] at hput
      cases d with
      | true =>
        have hput : acc = putP (geP key) key value m false := by rw [← hput]; simp [putP]
        obtain ⟨o, h1, h2, h3⟩ := PRow.of_own hown rfl
        rw [hput] at h2
        clear hown e
        replace h1 := Lib.hid h1
        replace h2 := Lib.hid h2
        replace hput := Lib.hid hput
        go_wp2_with fail
        go_ret
        exact ⟨_, rfl, _, _, by rw [hput.out]; exact h2.out, h1.out, h3, hbl⟩
      | false =>
        have hput : acc ++ [(key, value)] = putP (geP key) key value m false := by rw [← hput]; simp [putP]
        simp only [Bool.false_eq_true, if_false, Nat.add_zero] at hal
        clear e
        replace hput := Lib.hid hput
        replace hown := Lib.hid hown
        replace hbl := Lib.hid hbl
        go_wp2_with (at_builtin; go_loud (refine wpList_append_any _ rfl _ _ 37 rfl w.heap.size 90 i0 (.agg #[.string ⟨#[]⟩, .string ⟨#[]⟩]) 2 32 Tryz.underlying37 hi hz0 hz1 hz2 rfl (by decide) _ _ _ rfl (hown.out.alloc _) (wr.heap.size + 1) (some ⟨wr.heap.size, 0, none⟩) 1 1 [.string key, .string value] rfl (reads_blk2 (Blk.new wr 90 _) 2 1 rfl (by decide)) (by simp [Value.oneCell']) (by unfold maxLen; omega) (by omega) (by have := hbl.out.size; simp; omega) ?_; intro v' w5 hown5 hgrow hloc; rw [pairL_snoc' acc (key, value).1 (key, value).2] at hown5; have hb5 := owns_below (Nat.le_refl _) (Below.more_ hbl.out _) (hown.out.alloc _) hgrow; have hsl := slice_some (w := wr.alloc (.cells #[.string key, .string value] 90)) hloc hown5; replace hown5 := Lib.hid hown5; clear hgrow hloc; replace hb5 := Lib.hid hb5; obtain ⟨g5, cp5, rfl⟩ := hsl))
        obtain ⟨o, h1, h2, h3⟩ := PRow.of_own hown5.out (slen _)
        replace h1 := Lib.hid h1
        replace h2 := Lib.hid h2
        go_wp2_with fail
        go_ret
        exact ⟨_, rfl, _, _, by rw [← hput.out]; exact h2.out, h1.out, h3, hb5.out⟩
end Go.Proofs.YtmlnhjfdhjachaaGreat

/-
  A region that draws its order, walked in ONE order that is given: what reads what nobody turns is taken first, all else comes up alone; the condition on the world may grow on the way. No condition.
-/
namespace Go.Proofs.YtmlnhjfdhjachaaGreat
set_option linter.unusedVariables false
open Go.ChangeShapes Go.WideShapes Go.ChangeAt Go.RowKit

theorem wpAnyH_sub {P : Program} {md : Region.Mode} {ops : Array Oper} {Q : Exit → Act → World → Prop} {S S' : World → Prop} (hS : ∀ w, S' w → S w) : ∀ (fuel : Nat) (listed : Array Bool) (a : Act) (w : World), wpAnyH P md ops Q S' fuel listed a w → wpAnyH P md ops Q S fuel listed a w
  | 0, _, _, _, h => h
  | f + 1, _, _, _, h => ⟨h.1, fun i hi => wpOp_mono (fun a' w' h' => ⟨hS _ h'.1, wpAnyH_sub hS f _ a' w' h'.2⟩) (h.2 i hi)⟩
/-- Is the order one that the walk may take? -/
def lexOK (md : Region.Mode) (ops : Array Oper) : List (Bool × Nat) → Array Bool → Bool
  | [], listed => (Region.ready md ops listed).isEmpty
  | (true, k) :: t, listed => (Region.ready md ops listed).contains k && Region.free md ops listed k && lexOK md ops t (listed.setIfInBounds k true)
  | (false, k) :: t, listed => decide (Region.ready md ops listed = [k]) && lexOK md ops t (listed.setIfInBounds k true)
/-- Only the common way out. -/
def OnlyN (R : Act → World → Prop) : Exit → Act → World → Prop
  | .normal, a, w => R a w
  | _, _, _ => False
def wpLex (P : Program) (l : List Oper) (R : Act → World → Prop) : List (Bool × Nat) → (World → Prop) → Act → World → Prop
  | [], _, a, w => R a w
  | (b, k) :: t, S, a, w => ∃ o, l[k]? = some o ∧ (if Region.wanted o (yielded l.toArray a.tmps) = true then
      (if b = true then S w ∧ ∃ v, (∀ w', S w' → (execOp a.eval o).run P w' = .ok (.value v) w') ∧ wpLex P l R t S (a.put o.dst v) w
       else o.wp P a w (fun a' w' => ∃ S' : World → Prop, (∀ w, S' w → S w) ∧ S' w' ∧ wpLex P l R t S' a' w') (OnlyN R))
      else S w ∧ wpLex P l R t S (a.put o.dst undef) w)
section
variable {P : Program} {l : List Oper} {R : Act → World → Prop} {k : Nat} {b : Bool} {t : List (Bool × Nat)} {S : World → Prop} {a : Act} {w : World} {o : Oper} {v : Value}
theorem lex_take (ho : l[k]? = some o) (hw : Region.wanted o (yielded l.toArray a.tmps) = true) (hS : S w)
    (hy : ∀ w', S w' → (execOp a.eval o).run P w' = .ok (.value v) w') (h : wpLex P l R t S (a.put o.dst v) w) : wpLex P l R ((true, k) :: t) S a w := by
  unfold wpLex
  refine ⟨o, ho, ?_⟩
  rw [if_pos hw, if_pos rfl]
  exact ⟨hS, v, hy, h⟩
theorem lex_call (ho : l[k]? = some o) (hw : Region.wanted o (yielded l.toArray a.tmps) = true)
    (h : ∀ K : Act → World → Prop, Hid (∀ (a' : Act) (w' : World) (S' : World → Prop), (∀ w, S' w → S w) → S' w' → wpLex P l R t S' a' w' → K a' w') → o.wp P a w K (OnlyN R)) : wpLex P l R ((false, k) :: t) S a w := by
  unfold wpLex
  refine ⟨o, ho, ?_⟩
  rw [if_pos hw, if_neg (by simp)]
  exact h _ (Lib.hid fun a' w' S' h1 h2 h3 => ⟨S', h1, h2, h3⟩)
theorem lex_end (h : R a w) : wpLex P l R [] S a w := h
/-- It is a wpAnyH. -/
theorem wpAnyH_of_lex {md : Region.Mode} (hs : Region.noSelect l.toArray = true) : ∀ (ord : List (Bool × Nat)) (listed : Array Bool) (S : World → Prop) (a : Act) (w : World), lexOK md l.toArray ord listed = true →
    wpLex P l R ord S a w → wpAnyH P md l.toArray (OnlyN R) S ord.length listed a w
  | [], listed, S, a, w, hB, h => ⟨by simpa [lexOK] using hB, h⟩
  | (true, k) :: t, listed, S, a, w, hB, h => by
    simp only [lexOK, Bool.and_eq_true] at hB
    obtain ⟨⟨hr, hf⟩, hB'⟩ := hB
    obtain ⟨o, ho, h⟩ := h
    have hi : l.toArray[k]? = some o := by simpa using ho
    by_cases hw : Region.wanted o (yielded l.toArray a.tmps) = true
    · rw [if_pos hw, if_pos rfl] at h
      obtain ⟨hS, v, hy, h⟩ := h
      exact wpAnyH_take hi hs hf hr (fun _ _ _ h => h) (Or.inl ⟨hw, hy⟩) hS (wpAnyH_of_lex hs t _ S _ w hB' h)
    · rw [if_neg hw] at h
      obtain ⟨hS, h⟩ := h
      exact wpAnyH_take hi hs hf hr (fun _ _ _ h => h) (Or.inr ⟨by simpa using hw, rfl⟩) hS (wpAnyH_of_lex hs t _ S _ w hB' h)
  | (false, k) :: t, listed, S, a, w, hB, h => by
    simp only [lexOK, Bool.and_eq_true, decide_eq_true_eq] at hB
    obtain ⟨hr, hB'⟩ := hB
    obtain ⟨o, ho, h⟩ := h
    have hi : l.toArray[k]? = some o := by simpa using ho
    refine ⟨fun h0 => (by rw [hr] at h0; cases h0), fun i hir => ?_⟩
    rw [hr] at hir
    have hik : i = k := by simpa using hir
    subst hik
    unfold wpOp
    simp only [hi]
    by_cases hw : Region.wanted o (yielded l.toArray a.tmps) = true
    · rw [if_pos hw] at h ⊢
      rw [if_neg (by simp)] at h
      exact .inl (Oper.wp_mono (fun a' w' ⟨S', h1, h2, h3⟩ => ⟨h1 _ h2, wpAnyH_sub h1 _ _ _ _ (wpAnyH_of_lex hs t _ S' a' w' hB' h3)⟩) h)
    · rw [if_neg hw] at h ⊢
      exact ⟨h.1, wpAnyH_of_lex hs t _ S _ w hB' h.2⟩
end
def lexStart (l : List Oper) (ord : List (Bool × Nat)) : Bool := Region.noSelect l.toArray && decide (ord.length = l.length) && lexOK .any l.toArray ord (Array.replicate l.length false)
/-- THE BEGINNING. -/
theorem wp_region_lex {P : Program} {id : Nat} {Q : Exit → Act → World → Prop} {a : Act} {w : World} {l : List Oper} (ord : List (Bool × Nat)) (S : World → Prop) (hm : P.follows .mixedOrders = true) (hB : lexStart l ord = true)
    (h : ∀ R : Act → World → Prop, Hid (∀ a w, Q .normal a w → R a w) → wpLex P l R ord S a w.drew) : (Code.region id l.toArray true).wp P Q a w := by
  simp only [lexStart, Bool.and_eq_true, decide_eq_true_eq] at hB
  obtain ⟨⟨hs, hl⟩, hB⟩ := hB
  have h1 := wpAnyH_of_lex (md := .any) hs ord _ S a w.drew hB (h (fun a w => Q .normal a w) (Lib.hid fun _ _ h => h))
  rw [hl] at h1
  refine Code.wp_mono (fun e a w h => ?_) (wp_region_held (P := P) (id := id) (ops := l.toArray) (Q := OnlyN fun a w => Q .normal a w) (S := S) (a := a) (w := w) hm (by simp only [List.size_toArray]; exact h1))
  cases e <;> first | exact h | exact (h : False).elim
end Go.Proofs.YtmlnhjfdhjachaaGreat
