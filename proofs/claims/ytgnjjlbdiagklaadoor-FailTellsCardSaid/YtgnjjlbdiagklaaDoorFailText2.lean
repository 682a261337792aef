/-
  fail.Text; the document's Digits and Text. No condition.
-/
import Derived.Test.YtgnjjlbdiagklaaDoorFailText
import Derived.Lib.ItoaLen
namespace Go.Proofs.YtgnjjlbdiagklaaDoor
set_option linter.unusedVariables false
open Go.RowKit Go.Extern.Stop Go.Stop Go.Extern Go.ChangeShapes

theorem Wrote.start {w : World} {F : Nat → Prop} {b : Nat} {l : List UInt8} (h : Bld w F b l) : Wrote F b l w w :=
  ⟨h.mono (h.own.nw (Nat.le_refl _)) fun _ h => .inl h, Chg.refl _ _⟩
theorem Wrote.next_ {w w1 w2 w3 : World} {F : Nat → Prop} {b : Nat} {l l' : List UInt8} (h : Wrote F b l w w1) (hb : Below w1.heap.size w1 w2) (h2 : Wrote (nw F w w1) b l' w2 w3) : Wrote F b l' w w3 := by
  have s1 := h.2.size
  have s2 := hb.size
  have s3 := h2.2.size
  have hc : Chg F w w2 := h.2.next_ hb
  refine ⟨h2.1.mono (fun j hj => ?_) (fun j hj => ?_), hc.trans h2.2 fun j hj => hj.imp id fun h => h.1⟩
  · rcases hj with hj | hj
    · exact Nat.lt_of_lt_of_le (h.1.own j (.inl hj)) (by omega)
    · exact hj.2
  · rcases hj with (hj | hj) | hj
    · exact .inl hj
    · exact .inr ⟨hj.1, by omega⟩
    · exact .inr ⟨by omega, hj.2⟩
theorem plcs_len : ∀ (ps : List Int), (∀ p ∈ ps, -9223372036854775808 ≤ p ∧ p ≤ 9223372036854775807) → (plcs ps).length ≤ 26 * ps.length
  | [], _ => by simp [plcs]
  | p :: ps, h => by
    have h1 := plcs_len ps fun q hq => h q (by simp [hq])
    have h2 := Lib.itoa_length_le p (h p (by simp)).1 (h p (by simp)).2
    have e : plcs (p :: ps) = plc p ++ plcs ps := by simp [plcs]
    rw [e]
    simp only [plc, List.length_append, List.length_cons, List.length_nil]
    omega
set_option maxHeartbeats 1000000 in
theorem text_any {w : World} {sv : Nat → Addr} (S : Sent w sv) (T : ETy w) (P : PTab w) (v : Value) (ps : List Int) (i : Nat) (hv : ErrIs w sv v ps i) (hl : ps.length ≤ 1000) (hp : ∀ p ∈ ps, -9223372036854775808 ≤ p ∧ p ≤ 9223372036854775807) :
    Calls Tryd.prog 33 #[v] w fun e w' => e = .returned (strL (textL (sCode i) ps)) ∧ Below w.heap.size w w' := by
  have hi := hv.lt
  have hcode : (1 ≤ sCode i ∧ sCode i ≤ 18) ∨ sCode i = 99 := by unfold sCode; split <;> omega
  obtain ⟨t, u, rfl⟩ := hv.iface
  have hb0 : Below w.heap.size w (w.alloc (.cells #[.pointer none, .slice none 0 0] 85)) := (Below.refl _ _).alloc (Nat.le_refl _) _
  have hPl := places_any (T.below hb0) (.iface t u) ps i (ErrIs.under hb0 hv) (by omega)
  have hbl := bld_new w
  replace hPl := Lib.hid hPl
  replace hv := Lib.hid hv
  replace S := Lib.hid S
  replace T := Lib.hid T
  replace P := Lib.hid P
  replace hp := Lib.hid hp
  replace hcode := Lib.hid hcode
  go_enter Tryd.func33, Tryd.ntmps33
  go_wp2_with fail
  refine (hPl.out).mono ?_; rintro e w1 ⟨r, rfl, hown, hb1⟩
  obtain ⟨A, c, rfl⟩ : ∃ A c, r = .slice A ps.length c := by
    rcases hown.2 with ⟨rfl, h0⟩ | ⟨g, cap, cur, rfl, _⟩
    · exact ⟨none, 0, by rw [h0]⟩
    · exact ⟨_, _, rfl⟩
  have hbl1 := hbl.below hb1
  have hB1 : Below w.heap.size w w1 := nx hb0 (Nat.le_refl _) hb1
  clear hbl hb0
  replace hown := Lib.hid hown
  replace hB1 := Lib.hid hB1
  have hW := Wrote.start hbl1
  clear hbl1
  go_wp2_with fail
  go_loopw [11] (fun j wr => ∃ k : Nat, k ≤ ps.length ∧ j = .int .i64 k ∧ Wrote (fun n => n = w.heap.size) w.heap.size (plcs (ps.take k)) w1 wr) (fun j _ => ps.length - (intOf j).toNat)
  case atStart => exact ⟨0, Nat.zero_le _, rfl, hW⟩
  case round =>
    obtain ⟨k, hk, rfl, hWr⟩ := hrel
    have hBr : Below w.heap.size w wr := hB1.out.trans (hWr.2.below (fun n hn => by omega) hB1.out.size)
    replace hBr := Lib.hid hBr
    by_cases hlt : k < ps.length
    · have hmem := hp.out ps[k] (List.getElem_mem hlt)
      have hcell : ∃ g, A = some ⟨g, 0, none⟩ ∧ wr.cell? ⟨g, k, none⟩ = some (.int .i64 ps[k]) := by
        obtain ⟨g, cap, e1, hg0, hg1, hg2, hc⟩ := own_form hown.out (by omega)
        injection e1 with e1 _ _
        subst e1
        refine ⟨g, rfl, ?_⟩
        have h1 := hc k (.int .i64 ps[k]) (by simp [intL, hlt])
        simp at hg0
        exact (hWr.2.cell (p := ⟨g, k, none⟩) hg1 (by show ¬ g = w.heap.size; omega)).trans h1
      obtain ⟨g, rfl, hcell⟩ := hcell
      have hlen := plcs_len (ps.take k) fun p h => hp.out p (List.mem_of_mem_take h)
      have hlen2 : (ps.take k).length ≤ 1000 := by simp; omega
      have hil := Lib.itoa_length_le ps[k] hmem.1 hmem.2
      have htk : plcs (ps.take (k + 1)) = plcs (ps.take k) ++ plc ps[k] := by rw [List.take_succ_eq_append_getElem hlt, plcs_snoc]
      replace htk := Lib.hid htk
      generalize ps[k] = p at *
      have hI := itoa_any (P.out.below hBr.out) p hmem.1 hmem.2
      replace hI := Lib.hid hI
      have e1 := fun W => run_string_add_sum (P := Tryd.prog) W ⟨#[97, 116, 32]⟩ (bs (Lib.itoa p)) (by rw [size_bs]; show 3 + _ ≤ _; omega)
      have e2 := fun W => run_string_add_sum (P := Tryd.prog) W (⟨#[97, 116, 32]⟩ ++ bs (Lib.itoa p)) ⟨#[58, 32]⟩ (by simp only [ByteArray.size_append, size_bs]; show 3 + _ + 2 ≤ _; omega)
      have hsz : (⟨#[97, 116, 32]⟩ ++ bs (Lib.itoa p) ++ ⟨#[58, 32]⟩ : ByteArray).size ≤ 31 := by simp only [ByteArray.size_append, size_bs]; show 3 + _ + 2 ≤ _; omega
      have hdl : (⟨#[97, 116, 32]⟩ ++ bs (Lib.itoa p) ++ ⟨#[58, 32]⟩ : ByteArray).data.toList = plc p := by simp [plc, bs]
      replace hdl := Lib.hid hdl
      go_wp2_with fail
      refine (hI.out).mono ?_; rintro e w2 ⟨rfl, hb2⟩
      go_wp2_with fail
      refine (writeString_any w.heap.size (plcs (ps.take k)) _ _ (hWr.1.below hb2) (by omega)).mono ?_; rintro e w3 ⟨rfl, hw3⟩
      have hw4 : Wrote (fun n => n = w.heap.size) w.heap.size (plcs (ps.take k) ++ plc p) w1 w3 := by
        rw [hdl.out] at hw3
        exact hWr.next_ hb2 hw3
      go_wp2_with fail
      go_roundw
      case rel => exact ⟨k + 1, by omega, by go_num, by rw [htk.out]; exact hw4⟩
      case measure => simp [intOf]; omega
    · obtain rfl : k = ps.length := by omega
      go_wp2_with fail
      refine (string_any w.heap.size _ wr hWr.1 (B := w.heap.size) ?c1).mono ?_
      case c1 =>
        rintro j (hj | hj)
        · omega
        · have := hB1.out.size; omega
      rintro e w2 ⟨rfl, hb2⟩
      have hB2 := hBr.out.trans hb2
      rw [List.take_length]
      have hpl := plcs_len ps hp.out
      have hnl := nameL_len (sCode i)
      have hadd := fun W => add_str W (plcs ps) (nameL (sCode i)) (by omega)
      have hC := code_any (S.out.below hB2) (.iface t u) ps i (ErrIs.under hB2 hv.out)
      replace hC := Lib.hid hC
      replace hB2 := Lib.hid hB2
      go_wp2_with fail
      refine (hC.out).mono ?_; rintro e w3 ⟨rfl, rfl⟩
      go_wp2_with fail
      refine (name_any _ hcode.out _).mono ?_; rintro e w3 ⟨rfl, hb3⟩
      go_wp2_with fail
      go_ret
      exact ⟨rfl, nx hB2.out (Nat.le_refl _) hb3⟩
theorem text_nil (w : World) : Calls Tryd.prog 33 #[.nilIface] w fun e w' => e = .returned (strL []) ∧ w = w' := by
  go_enter Tryd.func33, Tryd.ntmps33
  go_wp2_with fail
  go_ret
  exact ⟨rfl, rfl⟩

/-! ### the document's -/
@[irreducible] def d10 (n : Nat) : UInt8 := UInt8.ofNat (48 + n % 10)
theorem d10_eq (n : Nat) : 48 + (n : Int) % 10 = u8i (d10 n) := by
  unfold d10 u8i
  have : (UInt8.ofNat (48 + n % 10)).toNat = 48 + n % 10 := by simp; omega
  rw [this]
  omega
theorem dec_small {n : Nat} (h : n < 10) : Lib.decDigits n = [d10 n] := by
  unfold d10
  rw [Lib.decDigits, dif_pos h, Nat.mod_eq_of_lt h]
theorem dec_big {n : Nat} (h : ¬ n < 10) : Lib.decDigits n = Lib.decDigits (n / 10) ++ [d10 n] := by
  unfold d10
  rw [Lib.decDigits, dif_neg h]
/-- What is still to come ahead of the last digit. -/
def decHead (n : Nat) : List UInt8 := if n < 10 then [] else Lib.decDigits (n / 10)
theorem dec_head (n : Nat) : Lib.decDigits n = decHead n ++ [d10 n] := by
  unfold decHead
  split
  · exact dec_small (by assumption)
  · exact dec_big (by assumption)
theorem dec_len (n : Nat) (h : n < 18446744073709551616) : (Lib.decDigits n).length ≤ 20 := by rw [Lib.decDigits_length]; exact Lib.nDigits_le20 n h
set_option maxRecDepth 100000 in
theorem natural_any (n : Nat) (hn : n < 18446744073709551616) (w : World) :
    Calls Tryd.prog 78 #[.int .u64 n] w fun e w' => e = .returned (strL (Lib.decDigits n)) ∧ Below w.heap.size w w' := by
  have hc := conv_one w (d10 n)
  have hx := d10_eq n
  have hlen := dec_len n hn
  go_enter Tryd.func78, Tryd.ntmps78
  go_wp2_with fail
  go_loopw [0, 3] (fun m s wr => ∃ (k : Nat) (l : List UInt8), k ≤ n ∧ m = .int .u64 k ∧ s = .string (bs l) ∧ Lib.decDigits n = decHead k ++ l ∧ Below w.heap.size w wr) (fun m _ _ => (intOf m).toNat)
  case atStart => exact ⟨n, [d10 n], Nat.le_refl _, rfl, rfl, dec_head n, by (repeat first | exact Below.refl _ _ | assumption | refine Below.drew ?_ | refine below_drewN ?_ _ | refine Below.more_ ?_ _ | refine Below.setCell ?_ (by first | exact Nat.le_refl _ | (simp; done) | (simp; omega)) _)⟩
  case round =>
    obtain ⟨k, l, hk, rfl, rfl, hl, hb⟩ := hrel
    clear hc hx
    by_cases hlt : k < 10
    · have e : decHead k = [] := by unfold decHead; rw [if_pos hlt]
      rw [e, List.nil_append] at hl
      replace hl := Lib.hid hl
      replace e := Lib.hid e
      go_wp2_with fail
      go_ret
      exact ⟨by rw [hl.out]; rfl, hb⟩
    · have e : decHead k = decHead (k / 10) ++ [d10 (k / 10)] := by rw [← dec_head]; unfold decHead; rw [if_neg hlt]
      have hll : l.length ≤ 20 := by
        have := congrArg List.length hl
        simp at this
        omega
      have hc := conv_one wr (d10 (k / 10))
      have hx := d10_eq (k / 10)
      push_cast at hx
      have ha := fun W => add_str W [d10 (k / 10)] l (by simp; omega)
      rw [e, List.append_assoc] at hl
      replace hl := Lib.hid hl
      replace e := Lib.hid e
      go_wp2_with fail
      go_roundw
      case rel =>
        refine ⟨k / 10, [d10 (k / 10)] ++ l, by omega, ?_, rfl, hl.out, ?_⟩
        · go_num
        · (repeat first | exact Below.refl _ _ | assumption | refine Below.drew ?_ | refine below_drewN ?_ _ | refine Below.more_ ?_ _ | refine Below.setCell ?_ (by first | exact Nat.le_refl _ | (simp; done) | (simp; omega)) _)
      case measure => simp [intOf]; omega
theorem digits_any (n : Int) (h0 : -9223372036854775808 ≤ n) (h1 : n ≤ 9223372036854775807) (w : World) :
    Calls Tryd.prog 55 #[.int .i64 n] w fun e w' => e = .returned (strL (Lib.itoa n)) ∧ Below w.heap.size w w' := by
  by_cases hn : n < 0
  · have e : Lib.itoa n = 45 :: Lib.decDigits n.natAbs := by unfold Lib.itoa; rw [if_pos hn]
    have hl := dec_len n.natAbs (by omega)
    have ha := fun W => add_str W [45] (Lib.decDigits n.natAbs) (by simp; omega)
    have hx : -(n + 1) + 1 = (n.natAbs : Int) := by omega
    have hb : bs [45] = ⟨#[45]⟩ := rfl
    rw [hb] at ha
    rw [e]
    clear e hb
    go_enter Tryd.func55, Tryd.ntmps55
    go_wp2_with fail
    refine (natural_any n.natAbs (by omega) _).mono ?_; rintro e w1 ⟨rfl, hb1⟩
    go_wp2_with fail
    go_ret
    exact ⟨rfl, hb1⟩
  · have e : Lib.itoa n = Lib.decDigits n.toNat := by unfold Lib.itoa; rw [if_neg hn]
    obtain ⟨k, rfl⟩ : ∃ k : Nat, n = k := ⟨n.toNat, by omega⟩
    rw [e, Int.toNat_natCast]
    clear e
    go_enter Tryd.func55, Tryd.ntmps55
    go_wp2_with fail
    refine (natural_any k (by omega) _).mono ?_; rintro e w1 ⟨rfl, hb1⟩
    go_wp2_with fail
    go_ret
    exact ⟨rfl, hb1⟩
def TxtRel (ps : List Int) (len : Nat) (w : World) (s j : Value) (wr : World) : Prop := ∃ k : Nat, k ≤ len ∧ j = .int .i64 k ∧ s = .string (bs (plcs (ps.take k))) ∧ Below w.heap.size w wr
set_option maxHeartbeats 1000000 in
theorem refText_any (c : Int) (hc : (1 ≤ c ∧ c ≤ 18) ∨ c = 99) (A : Option Addr) (len cap : Nat) (ps : List Int) (hl : ps.length = len) (h1000 : len ≤ 1000) (hp : ∀ p ∈ ps, -9223372036854775808 ≤ p ∧ p ≤ 9223372036854775807) (w : World) (hr : Reads w w.heap.size 1 A len (intL ps)) :
    Calls Tryd.prog 35 #[.int .i64 c, .slice A len cap] w fun e w' => e = .returned (strL (textL c ps)) ∧ Below w.heap.size w w' := by
  have hc0 : (c == 0) = false := by rw [beq_eq_false_iff_ne]; omega
  replace hc := Lib.hid hc
  replace hp := Lib.hid hp
  replace hl := Lib.hid hl
  go_enter Tryd.func35, Tryd.ntmps35
  go_wp2_with fail
  go_loopw [5, 6] (fun s j wr => TxtRel ps len w s j wr) (fun _ j _ => len - (intOf j).toNat)
  case atStart => exact ⟨0, Nat.zero_le _, rfl, rfl, Below.refl _ _⟩
  case round =>
    obtain ⟨k, hk, rfl, rfl, hb⟩ := hrel
    have hlen := plcs_len (ps.take k) fun p h => hp.out p (List.mem_of_mem_take h)
    have hlen2 : (ps.take k).length ≤ 1000 := by simp; omega
    by_cases hlt : k < len
    · have hlt2 : k < ps.length := by rw [hl.out]; exact hlt
      have hmem := hp.out ps[k] (List.getElem_mem hlt2)
      obtain ⟨ad, u, rfl, _, hx, hcell⟩ := (hr.below hb).at_ hlt
      have hu : u = .int .i64 ps[k] := by
        have : (intL ps)[k]? = some (.int .i64 ps[k]) := by simp [intL, hlt2]
        exact Option.some.inj (hx.symm.trans this)
      subst hu
      clear hx
      have htk : plcs (ps.take (k + 1)) = plcs (ps.take k) ++ plc ps[k] := by rw [List.take_succ_eq_append_getElem hlt2, plcs_snoc]
      have hil := Lib.itoa_length_le ps[k] hmem.1 hmem.2
      replace htk := Lib.hid htk
      generalize ps[k] = p at *
      have e1 := fun W => add_str W (plcs (ps.take k)) [97, 116, 32] (by simp; omega)
      have e2 := fun W => add_str W (plcs (ps.take k) ++ [97, 116, 32]) (Lib.itoa p) (by simp; omega)
      have e3 := fun W => add_str W (plcs (ps.take k) ++ 97 :: 116 :: 32 :: Lib.itoa p) [58, 32] (by simp; omega)
      rw [show bs [97, 116, 32] = ⟨#[97, 116, 32]⟩ from rfl] at e1
      rw [show bs [58, 32] = ⟨#[58, 32]⟩ from rfl] at e3
      go_wp2_with fail
      refine (digits_any p hmem.1 hmem.2 _).mono ?_; rintro e w1 ⟨rfl, hb1⟩
      go_wp2_with fail
      go_roundw
      case rel => exact ⟨k + 1, by omega, by go_num, by rw [htk.out]; simp [plc], Below.next_ hb hb1⟩
      case measure => simp [intOf]; omega
    · obtain rfl : k = len := by omega
      have hnl := nameL_len c
      have htk : ps.take k = ps := List.take_of_length_le (by rw [hl.out]; exact Nat.le_refl _)
      rw [htk] at hlen ⊢
      have hpl : ps.length ≤ 1000 := by rw [hl.out]; exact h1000
      have hadd := fun W => add_str W (plcs ps) (nameL c) (by omega)
      replace htk := Lib.hid htk
      go_wp2_with fail
      refine (refName_any c hc.out _).mono ?_; rintro e w1 ⟨rfl, hb1⟩
      go_wp2_with fail
      go_ret
      exact ⟨rfl, Below.next_ hb hb1⟩
theorem refText_0 (A : Option Addr) (len cap : Nat) (w : World) : Calls Tryd.prog 35 #[.int .i64 0, .slice A len cap] w fun e w' => e = .returned (strL []) ∧ w = w' := by
  go_enter Tryd.func35, Tryd.ntmps35
  go_wp2_with fail
  go_ret
  exact ⟨rfl, rfl⟩
end Go.Proofs.YtgnjjlbdiagklaaDoor
