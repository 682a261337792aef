/-
  The document's Cut and Lines (layer 4). No condition.
-/
import Derived.Test.YtpmnppjiipbonaaDoorQLines
import Derived.Test.YtpmnppjiipbonaaDoorQuote3
namespace Go.Proofs.YtpmnppjiipbonaaDoor
set_option linter.unusedVariables false
open Go.RowKit Go.Extern.Stop Go.Stop Go.Extern Go.ChangeShapes

theorem ext_list (s : ByteArray) (a b : Nat) : (s.extract a b).data.toList = (s.data.toList.drop a).take (b - a) := by
  simp only [ByteArray.data_extract, Array.toList_extract, List.extract_eq_take_drop]
theorem ext_to_end (s : ByteArray) (k : Nat) : (s.extract k s.size).data.toList = s.data.toList.drop k := by
  rw [ext_list, List.take_of_length_le (by rw [List.length_drop, size_list]; omega)]
theorem ext_str {s : ByteArray} {a b : Nat} {l : List UInt8} (h : (s.extract a b).data.toList = l) : Value.string (s.extract a b) = strL l := by
  subst h
  rw [strL, show bs (s.extract a b).data.toList = s.extract a b from ba_ext (list_bs _)]
/-- The parts up to a place: those that are done, and one that is not. -/
theorem spl_hit {c : UInt8} {L : List UInt8} {f k : Nat} (hf : f ≤ k) (hk : k < L.length) (hc : lf L k = c.toNat) (hn : c ∉ (L.drop f).take (k - f)) : spl c (L.drop f) = (L.drop f).take (k - f) :: spl c (L.drop (k + 1)) := by
  have e : L.drop f = (L.drop f).take (k - f) ++ c :: L.drop (k + 1) := by
    have h1 : (L.drop f).drop (k - f) = L.drop k := by rw [List.drop_drop]; congr 1; omega
    have h2 : L.drop k = c :: L.drop (k + 1) := by
      rw [List.drop_eq_getElem_cons hk]
      congr 1
      apply UInt8.toNat_inj.1
      rw [← hc, lf_at hk]
    rw [← h2, ← h1, List.take_append_drop]
  have h := spl_cons (b := c) (x := (L.drop f).take (k - f)) (L.drop (k + 1)) hn
  rwa [← e] at h
theorem nohit {c : UInt8} {L : List UInt8} {f k : Nat} (hf : f ≤ k) (hk : k < L.length) (hc : lf L k ≠ c.toNat) (hn : c ∉ (L.drop f).take (k - f)) : c ∉ (L.drop f).take (k + 1 - f) := by
  rw [show k + 1 - f = (k - f) + 1 by omega, List.take_add_one, List.getElem?_drop, show f + (k - f) = k by omega, List.getElem?_eq_getElem hk]
  intro h
  rcases List.mem_append.1 h with h | h
  · exact hn h
  · simp only [Option.toList_some, List.mem_singleton] at h
    exact hc (by rw [lf_at hk, ← h])
set_option maxHeartbeats 1000000 in
set_option maxRecDepth 100000 in
theorem refCut_any (s : ByteArray) (c : UInt8) (cb : Nat) (hcb : cb = c.toNat) (w : World) (hs : s.size ≤ 1000000) :
    Calls Tryd.prog 45 #[.string s, .int .u8 cb] w fun e w' => ∃ A k, e = .returned (.slice A (spl c s.data.toList).length k) ∧ OwnRow w' w.heap.size (.slice A (spl c s.data.toList).length k) (spl c s.data.toList) ∧ Below w.heap.size w w' := by
  obtain ⟨i0, hi, hz0, hz1, hz2⟩ := info_parts infoStr
  have hll := size_list s
  have hlf := fun k (h : k < s.size) => byte_lf h
  have hext := ext_to_end s
  have hexl := ext_list s
  generalize hL : s.data.toList = L at *
  replace hL := Lib.hid hL
  have hlfw := lf_lt L
  generalize hP : spl c L = P at *
  replace hP := Lib.hid hP
  replace hcb := Lib.hid hcb
  replace hlf := Lib.hid hlf
  replace hext := Lib.hid hext
  replace hexl := Lib.hid hexl
  go_enter Tryd.func45, Tryd.ntmps45
  go_wp2_with fail
  go_loopw [5, 6, 7] (fun o f i wr => ∃ (a k : Nat) (p : List (List UInt8)), f = .int .i64 a ∧ i = .int .i64 k ∧ a ≤ k ∧ k ≤ s.size ∧ p.length ≤ k ∧ wr.ownsRow w.heap.size 9 1 o p.length (p.map strL) ∧ Hid (p ++ spl c (L.drop a) = P) ∧ Hid (c ∉ (L.drop a).take (k - a)) ∧ Below w.heap.size w wr) (fun _ _ i _ => s.size - (intOf i).toNat)
  case atStart => exact ⟨0, 0, [], rfl, rfl, Nat.le_refl _, Nat.zero_le _, Nat.le_refl _, ⟨rfl, .inr ⟨w.heap.size, 0, #[], rfl, Nat.le_refl _, Blk.new w _ _, Nat.le_refl _, Nat.zero_le _, rfl, rfl⟩⟩, hP.out, by simp [Hid], (Below.refl _ _).alloc (Nat.le_refl _) _⟩
  case round =>
    obtain ⟨a, k, p, rfl, rfl, hak, hk, hpk, hown, hp, hn, hb⟩ := hrel
    have hwlt := hb.size
    by_cases hk2 : k < s.size
    · have b0 := hlf.out k hk2
      have c256 := hlfw k
      by_cases hc : lf L k = c.toNat
      · have hsp := spl_hit hak (by omega) hc hn.out
        have hst := ext_str (hexl.out a k)
        rw [hsp] at hp
        rw [← hcb.out] at hc
        rw [hc] at b0
        have hp2 : Hid ((p ++ [(L.drop a).take (k - a)]) ++ spl c (L.drop (k + 1)) = P) := by
          rw [List.append_assoc]; exact hp
        generalize (L.drop a).take (k - a) = x at *
        replace hsp := Lib.hid hsp
        replace hc := Lib.hid hc
        replace hst := Lib.hid hst
        go_wp2_with (at_builtin; go_loud (refine wpList_append_any _ rfl _ _ 33 rfl w.heap.size 9 i0 (.string ⟨#[]⟩) 1 16 Tryd.underlying33 hi hz0 hz1 hz2 rfl (by decide) _ _ _ rfl (hown.alloc _) (wr.heap.size + 1) (some ⟨wr.heap.size, 0, none⟩) 1 1 [.string (s.extract a k)] rfl (reads_new wr 9 (.string (s.extract a k))) (by simp [Value.oneCell']) (by unfold maxLen; omega) (by omega) (by simp; omega) ?_; intro v' w5 hown5 hgrow hloc; have hb5 := own_below (Nat.le_refl _) (Below.more_ hb (.cells #[.string (s.extract a k)] 9)) (hown.alloc _) hgrow; have hown5 : w5.ownsRow w.heap.size 9 1 v' (p ++ [x]).length ((p ++ [x]).map strL) := (by rw [hst.out] at hown5; simpa using hown5); replace hb5 := Lib.hid hb5; replace hown5 := Lib.hid hown5))
        go_roundw
        case rel => exact ⟨k + 1, k + 1, p ++ [x], by go_num, by go_num, Nat.le_refl _, by omega, by simp; omega, hown5.out, hp2, by simp [Hid], hb5.out⟩
        case measure => simp [intOf]; omega
      · have hne : ((lf L k : Int) == (cb : Int)) = false := beq_eq_false_iff_ne.2 (by have := hcb.out; omega)
        have hn2 := Lib.hid (nohit hak (by omega) hc hn.out)
        replace hc := Lib.hid hc
        generalize lf L k = y at *
        go_wp2_with fail
        go_roundw
        case rel => exact ⟨a, k + 1, p, rfl, by go_num, by omega, by omega, by omega, hown, hp, hn2, hb⟩
        case measure => simp [intOf]; omega
    · have hn2 : c ∉ L.drop a := by
        have := hn.out
        rwa [List.take_of_length_le (by rw [List.length_drop]; omega)] at this
      have hst := ext_str (hext.out a)
      have hp2 := hp.out
      rw [spl_none hn2] at hp2
      generalize L.drop a = x at *
      replace hp2 := Lib.hid hp2
      replace hst := Lib.hid hst
      go_wp2_with (at_builtin; go_loud (refine wpList_append_any _ rfl _ _ 33 rfl w.heap.size 9 i0 (.string ⟨#[]⟩) 1 16 Tryd.underlying33 hi hz0 hz1 hz2 rfl (by decide) _ _ _ rfl (hown.alloc _) (wr.heap.size + 1) (some ⟨wr.heap.size, 0, none⟩) 1 1 [.string (s.extract a s.size)] rfl (reads_new wr 9 (.string (s.extract a s.size))) (by simp [Value.oneCell']) (by unfold maxLen; omega) (by omega) (by simp; omega) ?_; intro v' w5 hown5 hgrow hloc; have hb5 := own_below (Nat.le_refl _) (Below.more_ hb (.cells #[.string (s.extract a s.size)] 9)) (hown.alloc _) hgrow; have hown5 : w5.ownsRow w.heap.size 9 1 v' (p ++ [x]).length ((p ++ [x]).map strL) := (by rw [hst.out] at hown5; simpa using hown5); replace hb5 := Lib.hid hb5; replace hown5 := Lib.hid hown5))
      go_ret
      rw [hp2.out] at hown5
      obtain ⟨g, cap, rfl, _⟩ := own_form hown5.out (by have := hp2.out; subst this; simp)
      exact ⟨_, _, rfl, ⟨_, _, rfl, hown5.out⟩, hb5.out⟩
end Go.Proofs.YtpmnppjiipbonaaDoor
