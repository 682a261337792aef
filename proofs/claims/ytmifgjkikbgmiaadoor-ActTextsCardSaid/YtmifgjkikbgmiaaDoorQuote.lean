/-
  Package quote and the document's answer: which bytes stand for themselves; digits; a text's word. No condition.
-/
import Derived.Test.YtmifgjkikbgmiaaDoorQuoteP
import Derived.Lib.Bytealg
import Derived.Test.YtmifgjkikbgmiaaDoorPlaces
import Derived.Test.YtmifgjkikbgmiaaDoorBuilder
namespace Go.Proofs.YtmifgjkikbgmiaaDoor
set_option linter.unusedVariables false
open Go.RowKit Go.Extern.Stop Go.Stop Go.Extern Go.ChangeShapes

theorem qplain_no {c : Nat} (h : c < 46 ∨ (59 ≤ c ∧ c ≤ 64) ∨ (91 ≤ c ∧ c ≤ 94) ∨ c = 96 ∨ 123 ≤ c) : qplain c = false := decide_eq_false (by omega)
theorem qplain_yes {c : Nat} (h : (46 ≤ c ∧ c ≤ 58) ∨ (65 ≤ c ∧ c ≤ 90) ∨ c = 95 ∨ (97 ≤ c ∧ c ≤ 122)) : qplain c = true := decide_eq_true (by omega)
set_option maxHeartbeats 1000000 in
theorem plain_any (c : Nat) (w : World) : Calls Tryd.prog 33 #[.int .u8 c] w fun e w' => e = .returned (.bool (qplain c)) ∧ w = w' := by
  have hcase : (c < 46 ∨ (59 ≤ c ∧ c ≤ 64) ∨ (91 ≤ c ∧ c ≤ 94) ∨ c = 96 ∨ 123 ≤ c) ∨ ((46 ≤ c ∧ c ≤ 58) ∨ (65 ≤ c ∧ c ≤ 90) ∨ c = 95 ∨ (97 ≤ c ∧ c ≤ 122)) := by omega
  rcases hcase with h | h
  · rw [qplain_no h]
    have b1 : ((c : Int) == 46) = false := beq_eq_false_iff_ne.2 (by omega)
    have b2 : ((c : Int) == 47) = false := beq_eq_false_iff_ne.2 (by omega)
    have b3 : ((c : Int) == 95) = false := beq_eq_false_iff_ne.2 (by omega)
    rcases h with h | ⟨h, h'⟩ | ⟨h, h'⟩ | rfl | h
    all_goals
      go_enter Tryd.func33, Tryd.ntmps33
      go_wp2
      go_ret
      first | exact ⟨rfl, rfl⟩ | exact ⟨by simp; omega, rfl⟩
  · rw [qplain_yes h]
    have h : c = 46 ∨ c = 47 ∨ (48 ≤ c ∧ c ≤ 58) ∨ (65 ≤ c ∧ c ≤ 90) ∨ c = 95 ∨ (97 ≤ c ∧ c ≤ 122) := by omega
    rcases h with rfl | rfl | ⟨h, h'⟩ | ⟨h, h'⟩ | rfl | ⟨h, h'⟩
    all_goals
      go_enter Tryd.func33, Tryd.ntmps33
      go_wp2
      go_ret
      first | exact ⟨rfl, rfl⟩ | exact ⟨by simp; omega, rfl⟩
def allL : List UInt8 := [97, 98, 99, 100, 101, 102, 103, 104, 105, 106, 107, 108, 109, 110, 111, 112, 113, 114, 115, 116, 117, 118, 119, 120, 121, 122, 65, 66, 67, 68, 69, 70, 71, 72, 73, 74, 75, 76, 77, 78, 79, 80, 81, 82, 83, 84, 85, 86, 87, 88, 89, 90, 48, 49, 50, 51, 52, 53, 54, 55, 56, 57, 46, 58, 47, 95]
theorem all_yes {k : Nat} (h : k < 66) : qplain (lf allL k) = true := by
  have : ∀ k : Fin 66, qplain (lf allL k.val) = true := by decide +kernel
  exact this ⟨k, h⟩
theorem all_no {c : Nat} (h : ∀ k, k < 66 → lf allL k ≠ c) : qplain c = false := by
  by_cases hc : c < 256
  · have : ∀ c : Fin 256, qplain c.val = true → ∃ k : Fin 66, lf allL k.val = c.val := by decide +kernel
    cases hp : qplain c
    · rfl
    · obtain ⟨k, hk⟩ := this ⟨c, hc⟩ hp
      exact absurd hk (h k.val k.isLt)
  · exact qplain_no (by omega)
theorem at_lf {A : ByteArray} {L : List UInt8} (h : A.data.toList = L) {k : Nat} (hk : k < A.size) : (A[k]'hk).toNat = lf L k := by
  subst h
  rw [lf_at (by rw [size_list_]; exact hk)]
  rfl
set_option maxHeartbeats 1000000 in
theorem refPlain_any (c : Nat) (w : World) : Calls Tryd.prog 45 #[.int .u8 c] w fun e w' => e = .returned (.bool (qplain c)) ∧ w = w' := by
  go_enter Tryd.func45, Tryd.ntmps45
  go_wp2_with fail
  generalize hA : ({ data := ([97, 98, 99, 100, 101, 102, 103, 104, 105, 106, 107, 108, 109, 110, 111, 112, 113, 114, 115, 116, 117, 118, 119, 120, 121, 122, 65, 66, 67, 68, 69, 70, 71].append [72, 73, 74, 75, 76, 77, 78, 79, 80, 81, 82, 83, 84, 85, 86, 87, 88, 89, 90, 48, 49, 50, 51, 52, 53, 54, 55, 56, 57, 46, 58, 47, 95]).toArray } : ByteArray) = A
  replace hA : A.data.toList = allL := by rw [← hA]; rfl
  replace hA := Lib.hid hA
  go_loopw [4] (fun i wr => wr = w ∧ ∃ k : Nat, i = .int .i64 k ∧ k ≤ 66 ∧ ∀ j, j < k → lf allL j ≠ c) (fun i _ => 70 - (intOf i).toNat)
  case atStart => exact ⟨rfl, 0, rfl, by omega, fun j hj => by omega⟩
  case round =>
    obtain ⟨rfl, k, rfl, hk, hj⟩ := hrel
    have hsz : A.size = 66 := by rw [← size_list_, hA.out]; rfl
    have hsb : ∀ h : k < A.size, (A[k]'h).toNat = lf allL k := fun h => at_lf hA.out h
    replace hj := Lib.hid hj
    by_cases hlt : k < 66
    · have hy := all_yes hlt
      have hd : ∃ d, d = lf allL k := ⟨_, rfl⟩
      obtain ⟨d, hd⟩ := hd
      rw [← hd] at hsb hy
      replace hd := Lib.hid hd
      by_cases he : d = c
      · subst he
        replace hy := Lib.hid hy
        go_wp2_with fail
        go_ret
        exact ⟨by rw [hy.out]; rfl, rfl⟩
      · replace hy := Lib.hid hy
        have hb : ((d : Int) == c) = false := beq_eq_false_iff_ne.2 (by omega)
        go_wp2_with fail
        go_roundw
        case rel => exact ⟨trivial, k + 1, by go_num, by omega, fun j hj' => by
          rcases Nat.lt_or_ge j k with h1 | h1
          · exact hj.out j h1
          · obtain rfl : j = k := by omega
            rw [← hd.out]; exact he⟩
        case measure => simp [intOf]; omega
    · obtain rfl : k = 66 := by omega
      go_wp2_with fail
      go_ret
      exact ⟨by rw [all_no hj.out]; rfl, rfl⟩
/-- A sign's digit; -1: it is none. -/
def qvi (c : Nat) : Int := match qval c with
  | some x => x
  | none => -1
def signL : List UInt8 := [48, 49, 50, 51, 52, 53, 54, 55, 56, 57, 97, 98, 99, 100, 101, 102]
theorem sign_at {k : Nat} (h : k < 16) : lf signL k = (qdig k).toNat := by
  have : ∀ k : Fin 16, lf signL k.val = (qdig k.val).toNat := by decide +kernel
  exact this ⟨k, h⟩
theorem sign_yes {k c : Nat} (h : k < 16) (hc : lf signL k = c) : qvi c = k := by
  rw [← hc, sign_at h, qvi, qval_qdig h]
theorem sign_no {c : Nat} (h : ∀ k, k < 16 → lf signL k ≠ c) : qvi c = -1 := by
  unfold qvi
  cases hq : qval c with
  | none => rfl
  | some x =>
    have hc : c < 256 := by
      unfold qval at hq
      split at hq
      · omega
      · split at hq
        · omega
        · cases hq
    obtain ⟨h1, h2⟩ := qdig_qval hc hq
    exact absurd (by rw [sign_at h1, h2]; simp; omega) (h x h1)
theorem signIndex {c : Nat} (h : c < 256) : Lib.indexByte signL c.toUInt8 = qvi c := by
  have : ∀ c : Fin 256, Lib.indexByte signL c.val.toUInt8 = qvi c.val := by decide +kernel
  exact this ⟨c, h⟩
theorem conv_three {W : World} {g : Nat} (b c d : UInt8) (h : Blk W g 5 #[.int .u8 b.toNat, .int .u8 c.toNat, .int .u8 d.toNat]) : (convert 62 9 (.slice (some ⟨g, 0, none⟩) 3 3)).run Tryd.prog W = .ok (.string (bs [b, c, d])) W :=
  run_convert_bytes_back _ 62 9 5 ⟨g, 0, none⟩ 3 [b, c, d] Tryd.underlying62 Tryd.underlying5 Tryd.underlying9 fun j hj => by
    have : j = 0 ∨ j = 1 ∨ j = 2 := by simp at hj; omega
    have hc := h.cell j
    rcases this with rfl | rfl | rfl <;> simpa [Addr.add] using hc
set_option maxHeartbeats 1000000 in
theorem one_any (c : UInt8) (w : World) : Calls Tryd.prog 36 #[.int .u8 c.toNat] w fun e w' => e = .returned (strL (qone c)) ∧ Below w.heap.size w w' := by
  have hlt := c.toNat_lt
  cases hp : qplain c.toNat
  · have hq : qone c = [37, qdig (c.toNat / 16), qdig (c.toNat % 16)] := by rw [qone, hp]; rfl
    rw [hq]
    have hc := conv_three 37 (qdig (c.toNat / 16)) (qdig (c.toNat % 16)) (Blk.drew (Blk.new w 5 #[.int .u8 (37 : UInt8).toNat, .int .u8 (qdig (c.toNat / 16)).toNat, .int .u8 (qdig (c.toNat % 16)).toNat]))
    rw [show (((37 : UInt8).toNat : Nat) : Int) = 37 from rfl] at hc
    obtain ⟨k1, hk1⟩ : ∃ k, k = c.toNat / 16 := ⟨_, rfl⟩
    obtain ⟨k2, hk2⟩ : ∃ k, k = c.toNat % 16 := ⟨_, rfl⟩
    have l1 : k1 < 16 := by omega
    have l2 : k2 < 16 := by omega
    rw [← hk1, ← hk2] at hc
    have s1 := Lib.hid (sign_at l1)
    have s2 := Lib.hid (sign_at l2)
    have q1 : (c.toNat : Int) / 16 = k1 := by omega
    have q2 : (c.toNat : Int) % 16 = k2 := by omega
    have v1 : IntKind.u8.wrap (k1 : Int) = k1 := by rw [IntKind.wrap_u8]; omega
    rw [← hk1, ← hk2] at hq
    rw [← hk1, ← hk2]
    generalize qdig k1 = x at *
    generalize qdig k2 = y at *
    replace hk1 := Lib.hid hk1
    replace hk2 := Lib.hid hk2
    replace hp := Lib.hid hp
    replace hq := Lib.hid hq
    go_enter Tryd.func36, Tryd.ntmps36
    go_wp2_with fail
    refine (refPlain_any _ _).mono ?_; rintro e w1 ⟨rfl, rfl⟩
    rw [hp.out]
    go_wp2_with fail
    generalize hA : ({ data := #[48, 49, 50, 51, 52, 53, 54, 55, 56, 57, 97, 98, 99, 100, 101, 102] } : ByteArray) = A
    replace hA : A.data.toList = signL := by rw [← hA]; rfl
    have hsz : A.size = 16 := by rw [← size_list_, hA]; rfl
    have a1 : ∀ h : k1 < A.size, (A[k1]'h).toNat = x.toNat := fun h => by rw [at_lf hA h, s1.out]
    have a2 : ∀ h : k2 < A.size, (A[k2]'h).toNat = y.toNat := fun h => by rw [at_lf hA h, s2.out]
    replace hA := Lib.hid hA
    go_region
    go_wp2_with fail
    go_ret
    exact ⟨rfl, by (repeat first | exact Below.refl _ _ | assumption | refine Below.drew ?_ | refine below_drewN ?_ _ | refine Below.more_ ?_ _ | refine Below.setCell ?_ (by first | exact Nat.le_refl _ | (simp; done) | (simp; omega)) _)⟩
  · have hq : qone c = [c] := by rw [qone, hp]; rfl
    rw [hq]
    have hc := conv_one w c
    unfold u8i at hc
    replace hp := Lib.hid hp
    replace hq := Lib.hid hq
    go_enter Tryd.func36, Tryd.ntmps36
    go_wp2_with fail
    refine (refPlain_any _ _).mono ?_; rintro e w1 ⟨rfl, rfl⟩
    rw [hp.out]
    go_wp2_with fail
    go_ret
    exact ⟨rfl, by (repeat first | exact Below.refl _ _ | assumption | refine Below.drew ?_ | refine below_drewN ?_ _ | refine Below.more_ ?_ _ | refine Below.setCell ?_ (by first | exact Nat.le_refl _ | (simp; done) | (simp; omega)) _)⟩
theorem byte_at {s : ByteArray} {k : Nat} (h : k < s.size) : ∃ c, s.data.toList[k]? = some c ∧ ∀ h : k < s.size, (s[k]'h).toNat = c.toNat :=
  ⟨s.data.toList[k]'(by rw [size_list_]; exact h), List.getElem?_eq_getElem _, fun _ => rfl⟩
theorem take_byte {l : List UInt8} {k : Nat} {c : UInt8} (h : l[k]? = some c) : l.take (k + 1) = l.take k ++ [c] := by rw [List.take_add_one, h]; rfl
theorem flat_snoc (l : List UInt8) (c : UInt8) : (l ++ [c]).flatMap qone = l.flatMap qone ++ qone c := by simp
theorem flat_take_len (l : List UInt8) (k : Nat) : ((l.take k).flatMap qone).length ≤ 3 * k := by
  have h1 := flat_len (l.take k)
  have h2 : (l.take k).length ≤ k := by simp; omega
  omega
theorem qprint_flat {l : List UInt8} (h : l ≠ []) : qprint l = l.flatMap qone := if_neg h
theorem qprint_nil : qprint [] = [45] := rfl
theorem list_ne {s : ByteArray} (h : 0 < s.size) : s.data.toList ≠ [] := fun e => by
  have := size_list_ s
  rw [e] at this
  simp at this
  omega
theorem txt_ne_empty {s : ByteArray} (h : 0 < s.size) : ¬ s.toList = [] := fun e => by
  rw [ByteArray.toList_eq] at e
  exact list_ne h e
set_option maxHeartbeats 1000000 in
theorem refPrintQ_any (s : ByteArray) (hs : s.size ≤ 100000) (w : World) : Calls Tryd.prog 20 #[.string s] w fun e w' => e = .returned (strL (qprint s.data.toList)) ∧ Below w.heap.size w w' := by
  by_cases h0 : s.size = 0
  · obtain rfl : s = ⟨#[]⟩ := by
      apply ba_ext
      rw [List.eq_nil_of_length_eq_zero (show s.data.toList.length = 0 by rw [size_list_]; exact h0)]
    clear h0 hs
    go_enter Tryd.func20, Tryd.ntmps20
    go_wp2_with fail
    go_ret
    exact ⟨rfl, Below.refl _ _⟩
  · have hne := txt_ne_empty (s := s) (by omega)
    have hnb : (s.toList == []) = false := beq_eq_false_iff_ne.2 hne
    have hq := Lib.hid (qprint_flat (list_ne (s := s) (by omega)))
    go_enter Tryd.func20, Tryd.ntmps20
    go_wp2_with fail
    go_loopw [3, 4] (fun o i wr => ∃ k : Nat, i = .int .i64 k ∧ k ≤ s.size ∧ o = .string (bs ((s.data.toList.take k).flatMap qone)) ∧ Below w.heap.size w wr) (fun _ i _ => s.size + 1 - (intOf i).toNat)
    case atStart => exact ⟨0, rfl, by omega, rfl, Below.refl _ _⟩
    case round =>
      obtain ⟨k, rfl, hk, rfl, hb⟩ := hrel
      have hlen := flat_take_len s.data.toList k
      by_cases hlt : k < s.size
      · obtain ⟨c, hc, hsb⟩ := byte_at hlt
        have htk : (s.data.toList.take (k + 1)).flatMap qone = (s.data.toList.take k).flatMap qone ++ qone c := by rw [take_byte hc, flat_snoc]
        replace hc := Lib.hid hc
        replace htk := Lib.hid htk
        have hl1 := qone_len c
        generalize (s.data.toList.take k).flatMap qone = acc at *
        have ha := fun W => add_str W acc (qone c) (by omega)
        go_wp2_with fail
        refine (one_any c _).mono ?_; rintro e w1 ⟨rfl, hb1⟩
        have hb2 := Below.next_ hb hb1
        go_wp2_with fail
        go_roundw
        case rel => exact ⟨k + 1, by go_num, by omega, by rw [htk.out], hb2⟩
        case measure => simp [intOf]; omega
      · obtain rfl : k = s.size := by omega
        go_wp2_with fail
        go_ret
        refine ⟨?_, hb⟩
        rw [hq.out, List.take_of_length_le (by rw [size_list_]; exact Nat.le_refl _)]
        rfl
end Go.Proofs.YtmifgjkikbgmiaaDoor
