/-
  The document's heap (layer 17): Blocks; and two rows of words compared. No condition.
-/
import Derived.Test.YtjoaifdjmdihoaaRefM
namespace Go.Proofs.Ytjoaifdjmdihoaa
set_option linter.unusedVariables false
open Go.ChangeShapes Go.WideShapes Go.ChangeAt Go.RowKit
open Go.ChangeMaps (setBlock)

def alive : List RBlk → Int → List Int
  | [], _ => []
  | r :: R, k => if r.gone = true then alive R (k + 1) else (k + 1) :: alive R (k + 1)
theorem alive_drop {R : List RBlk} {k : Nat} {r : RBlk} (h : R[k]? = some r) : alive (R.drop k) k = if r.gone = true then alive (R.drop (k + 1)) ((k + 1 : Nat) : Int) else ((k : Int) + 1) :: alive (R.drop (k + 1)) ((k + 1 : Nat) : Int) := by
  have h1 : R.drop k = r :: R.drop (k + 1) := by
    obtain ⟨h2, h3⟩ := List.getElem?_eq_some_iff.1 h
    rw [← h3]; exact List.drop_eq_getElem_cons h2
  rw [h1]
  rfl
theorem alive_len (R : List RBlk) : ∀ k, (alive R k).length ≤ R.length := by
  induction R with
  | nil => intro k; exact Nat.le_refl _
  | cons r R ih =>
    intro k
    have := ih (k + 1)
    unfold alive
    split <;> simp only [List.length_cons] <;> omega
theorem alive_mem (R : List RBlk) : ∀ (k z : Int), z ∈ alive R k ↔ ∃ (i : Nat) (r : RBlk), R[i]? = some r ∧ r.gone = false ∧ z = k + i + 1 := by
  induction R with
  | nil => intro k z; simp [alive]
  | cons a R ih =>
    intro k z
    have key : (∃ (i : Nat) (r : RBlk), (a :: R)[i]? = some r ∧ r.gone = false ∧ z = k + i + 1) ↔ (a.gone = false ∧ z = k + 1) ∨ ∃ (i : Nat) (r : RBlk), R[i]? = some r ∧ r.gone = false ∧ z = k + 1 + i + 1 := by
      constructor
      · rintro ⟨i, r, h1, h2, h3⟩
        cases i with
        | zero =>
          simp only [List.getElem?_cons_zero, Option.some.injEq] at h1
          subst h1
          exact .inl ⟨h2, by omega⟩
        | succ i => exact .inr ⟨i, r, by simpa using h1, h2, by omega⟩
      · rintro (⟨h1, h2⟩ | ⟨i, r, h1, h2, h3⟩)
        · exact ⟨0, a, rfl, h1, by omega⟩
        · exact ⟨i + 1, r, by simpa using h1, h2, by omega⟩
    rw [key]
    unfold alive
    cases hg : a.gone with
    | true => simp [ih]
    | false => simp [ih]
theorem alive_sorted (R : List RBlk) : ∀ k, (alive R k).Pairwise (· < ·) := by
  induction R with
  | nil => intro k; exact List.Pairwise.nil
  | cons a R ih =>
    intro k
    unfold alive
    split
    · exact ih _
    · refine List.Pairwise.cons (fun z hz => ?_) (ih _)
      obtain ⟨i, r, _, _, h⟩ := (alive_mem R (k + 1) z).1 hz
      omega
/-- Rows that rise, with the same members, are the same row. -/
theorem rows_eq {a b : List Int} (ha : a.Pairwise (· < ·)) (hb : b.Nodup) (hm : ∀ z, z ∈ a ↔ z ∈ b) : a = b.mergeSort fun x y => decide (x ≤ y) := by
  have na : a.Nodup := ha.imp fun h e => by omega
  have hp : a.Perm b := (List.perm_ext_iff_of_nodup na hb).2 hm
  rw [← sort_perm hp]
  have tr : ∀ x y z : Int, decide (x ≤ y) = true → decide (y ≤ z) = true → decide (x ≤ z) = true := fun x y z h1 h2 => by simp at *; omega
  have to : ∀ x y : Int, (decide (x ≤ y) || decide (y ≤ x)) = true := fun x y => by simp; omega
  refine List.Perm.eq_of_pairwise (le := fun x y : Int => x ≤ y) (fun x y _ _ h1 h2 => Int.le_antisymm h1 h2) (ha.imp fun h => by omega) ?_ (List.mergeSort_perm a _).symm
  exact (List.pairwise_mergeSort tr to a).imp fun h => by simpa using h
theorem alive_eq {S : PHeap} {R : List RBlk} (hk : (S.blocks.map (·.key)).Nodup) (hs : ∀ x ∈ S.blocks, 1 ≤ x.key ∧ x.key ≤ S.last) (hlen : (R.length : Int) = S.last) (ht : ∀ (i : Nat) r, R[i]? = some r → r.Tells (S.find ((i : Int) + 1))) : alive R 0 = S.sorted := by
  refine rows_eq (alive_sorted R 0) hk fun z => ?_
  rw [alive_mem]
  constructor
  · rintro ⟨i, r, h1, h2, h3⟩
    have := ht i r h1
    unfold RBlk.Tells at this
    rw [if_neg (by rw [h2]; simp)] at this
    obtain ⟨x, h4, _⟩ := this
    obtain ⟨h5, h6⟩ := find_mem h4
    exact List.mem_map.2 ⟨x, h5, by omega⟩
  · intro hz
    obtain ⟨x, h1, rfl⟩ := List.mem_map.1 hz
    have h2 := hs x h1
    have hi : (x.key - 1).toNat < R.length := by omega
    have hr : R[(x.key - 1).toNat]? = some R[(x.key - 1).toNat] := List.getElem?_eq_getElem hi
    refine ⟨_, _, hr, ?_, by omega⟩
    have := ht _ _ hr
    unfold RBlk.Tells at this
    cases hg : R[(x.key - 1).toNat].gone with
    | false => rfl
    | true =>
      rw [if_pos hg, show (((x.key - 1).toNat : Nat) : Int) + 1 = x.key by omega] at this
      unfold PHeap.find at this
      rw [List.find?_eq_none] at this
      exact absurd (this x h1) (by simp)
/-- Between two rounds of Blocks. -/
structure RBlkRel (w : World) (R : List RBlk) (v iv : Value) (wr : World) : Prop where
  ex : ∃ (k : Nat) (acc : List Int) (g cap : Nat), k ≤ R.length ∧ iv = .int .i64 k ∧ v = .slice (some ⟨g, 0, none⟩) acc.length cap ∧ wr.ownsRow w.heap.size 32 1 v acc.length (acc.map (Value.int .u64)) ∧ acc ++ alive (R.drop k) k = alive R 0 ∧ acc.length ≤ k
  below : Below w.heap.size w wr
theorem sleni {a : List Int} (p : Int) : (a ++ [p]).length = a.length + 1 := by simp
set_option maxRecDepth 100000 in
set_option maxHeartbeats 4000000 in
theorem rblocks_any {w : World} {xb : Nat} {S : PHeap} {F : Nat → Prop} (h : RefIn w xb S F) (hk : (S.blocks.map (·.key)).Nodup) (hl : S.last ≤ 1000000) :
    Calls Try.prog 15 #[.pointer (some ⟨xb, 0, none⟩)] w fun e w' => ∃ v, e = .returned v ∧ w'.ownsRow w.heap.size 32 1 v S.sorted.length (S.sorted.map (Value.int .u64)) ∧ Below w.heap.size w w' := by
  obtain ⟨i0, hi, hz0', hz1', hz2'⟩ : ∃ i, Try.prog.info? 32 = some i ∧ i.zero = some (.int .u64 0) ∧ i.size = 1 ∧ i.bytes = 8 := ⟨_, rfl, rfl, rfl, rfl⟩
  obtain ⟨A, cap, R, hX, hR, hlen, ht⟩ := h.ex
  rw [← alive_eq hk h.span hlen ht]
  have hRL : R.length ≤ 1000000 := by omega
  replace h := Lib.hid h
  replace hlen := Lib.hid hlen
  replace hX := Lib.hid hX
  clear hk
  go_enter Try.func15, Try.ntmps15
  go_wp2_with fail
  go_loopw [3, 4] (fun v iv wr => RBlkRel w R v iv wr) (fun _ i _ => R.length + 1 - (intOf i).toNat)
  case atStart =>
    refine ⟨⟨0, [], w.heap.size, 0, Nat.zero_le _, rfl, rfl, ?_, rfl, Nat.le_refl _⟩, (Below.refl _ _).alloc (Nat.le_refl _) _⟩
    exact ⟨rfl, .inr ⟨w.heap.size, 0, #[], rfl, Nat.le_refl _, heap_alloc_new w _, Nat.le_refl _, Nat.zero_le _, rfl, rfl⟩⟩
  case round =>
    obtain ⟨⟨k, acc, g, cp, hkl, rfl, rfl, hown, halive, hal⟩, hbl⟩ := hrel
    have hX1 := hX.out.below hbl hX.out.lt
    have c0 : wr.cell? ⟨xb, 0, none⟩ = some (.slice A R.length cap) := hX1.cell 0
    by_cases hlt : k < R.length
    · have d1 : decide ((k : Int) < (R.length : Int)) = true := by simpa using hlt
      have hr : R[k]? = some R[k] := List.getElem?_eq_getElem hlt
      rw [alive_drop hr] at halive
      generalize R[k] = r at *
      have i1 : (0 : Int) ≤ (k : Int) := by omega
      have i2 : (k : Int) < (R.length : Int) := by omega
      have hl63 : (k : Int) + 1 ≤ 9223372036854775807 := by omega
      have hwu : IntKind.u64.wrap ((k : Int) + 1) = (k : Int) + 1 := by rw [IntKind.wrap_u64]; omega
      rcases hR.row with ⟨_, rfl, _⟩ | ⟨gv, rfl, hgF, hS⟩
      · simp at hlt
      have r2 : wr.cell? ⟨gv, k * 3 + 2, none⟩ = some (.bool r.gone) := by
        have h1 := hS.cell (i := k * 3 + 2) (by omega)
        rw [rCs_at hr 2 (by decide)] at h1
        exact (World.cell?_of_block (hbl.block gv hS.lt)).trans h1
      clear hlt
      replace hX1 := Lib.hid hX1
      replace hS := Lib.hid hS
      replace hown := Lib.hid hown
      replace hbl := Lib.hid hbl
      replace hr := Lib.hid hr
      cases hg : r.gone with
      | true =>
        rw [hg] at r2
        rw [if_pos hg] at halive
        replace hg := Lib.hid hg
        replace halive := Lib.hid halive
        go_wp2_with fail
        go_roundw
        case rel => exact ⟨⟨k + 1, acc, g, cp, by omega, by go_num, rfl, hown.out, halive.out, by omega⟩, hbl.out⟩
        case measure => simp [intOf]; omega
      | false =>
        rw [hg] at r2
        rw [if_neg (by rw [hg]; simp)] at halive
        replace hg := Lib.hid hg
        replace halive := Lib.hid halive
        go_wp2_with (at_builtin; go_loud (refine wpList_append_any _ rfl _ _ 37 rfl w.heap.size 32 i0 (.int .u64 0) 1 8 Try.underlying37 hi hz0' hz1' hz2' rfl (by decide) _ _ _ rfl (hown.out.alloc _) (wr.heap.size + 1) (some ⟨wr.heap.size, 0, none⟩) 1 1 [.int .u64 ((k : Int) + 1)] rfl (reads_wordB wr ((k : Int) + 1)) (by simp [Value.oneCell']) (by unfold maxLen; omega) (by omega) (by have := hbl.out.size; simp; omega) ?_; intro v' w6 hown6 hgrow hloc; have hb6 := row_below (Nat.le_refl _) (Below.more_ hbl.out (.cells #[.int .u64 ((k : Int) + 1)] 32)) (hown.out.alloc _) hgrow; have hsl := slice_someM hown6 (by omega); replace hown6 := Lib.hid hown6; clear hgrow hloc; replace hb6 := Lib.hid hb6; obtain ⟨g6, cp6, rfl⟩ := hsl))
        go_roundw
        case rel => exact ⟨⟨k + 1, acc ++ [(k : Int) + 1], g6, cp6, by omega, by go_num, by rw [sleni], by rw [sleni, List.map_append]; exact hown6.out, by rw [List.append_assoc]; exact halive.out, by rw [sleni]; omega⟩, hb6.out⟩
        case measure => simp [intOf]; omega
    · have d1 : decide ((k : Int) < (R.length : Int)) = false := by simpa using hlt
      rw [List.drop_of_length_le (by omega)] at halive
      simp only [alive, List.append_nil] at halive
      subst halive
      replace hX1 := Lib.hid hX1
      go_wp2_with fail
      go_ret
      exact ⟨_, rfl, hown, hbl⟩
set_option maxRecDepth 100000 in
set_option maxHeartbeats 2000000 in
theorem samerows_any (A1 A2 : Option Addr) (n c1 c2 : Nat) (xs : List Int) (hn : n ≤ 1000000) (B : Nat) (w : World) (hB : B ≤ w.heap.size) (h1 : Reads w B 1 A1 n (xs.map (Value.int .u64))) (h2 : Reads w B 1 A2 n (xs.map (Value.int .u64))) :
    Calls Try.prog 13 #[.slice A1 n c1, .slice A2 n c2] w fun e w' => e = .returned (.bool true) ∧ Below w.heap.size w w' := by
  replace h1 := Lib.hid h1
  replace h2 := Lib.hid h2
  go_enter Try.func13, Try.ntmps13
  go_wp2_with fail
  go_loopw [5] (fun i wr => (∃ k : Nat, k ≤ n ∧ i = .int .i64 k) ∧ Below w.heap.size w wr) (fun i _ => n + 1 - (intOf i).toNat)
  case atStart => exact ⟨⟨0, Nat.zero_le _, rfl⟩, Below.refl _ _⟩
  case round =>
    obtain ⟨⟨k, hk, rfl⟩, hbl⟩ := hrel
    have hbB : Below B w wr := hbl.mono hB
    by_cases hlt : k < n
    · have d1 : decide ((k : Int) < (n : Int)) = true := by simpa using hlt
      obtain ⟨ad1, u1, rfl, _, hu1, hc1⟩ := (h1.out.below hbB).at_ hlt
      obtain ⟨ad2, u2, rfl, _, hu2, hc2⟩ := (h2.out.below hbB).at_ hlt
      rw [hu1] at hu2
      injection hu2 with hu2
      subst hu2
      obtain ⟨z, hz, rfl⟩ : ∃ z, xs[k]? = some z ∧ Value.int .u64 z = u1 := by simpa using hu1
      have i1 : (0 : Int) ≤ (k : Int) := by omega
      have i2 : (k : Int) < (n : Int) := by omega
      have hl63 : (k : Int) + 1 ≤ 9223372036854775807 := by omega
      clear hu1 hz
      go_wp2_with fail
      go_region
      go_wp2_with fail
      go_roundw
      case rel => exact ⟨⟨k + 1, by omega, by go_num⟩, below_drewN hbl _⟩
      case measure => simp [intOf]; omega
    · have d1 : decide ((k : Int) < (n : Int)) = false := by simpa using hlt
      go_wp2_with fail
      go_ret
      exact ⟨rfl, hbl⟩
end Go.Proofs.Ytjoaifdjmdihoaa
