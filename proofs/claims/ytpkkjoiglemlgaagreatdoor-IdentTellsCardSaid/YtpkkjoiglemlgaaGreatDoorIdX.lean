import Derived.Test.YtpkkjoiglemlgaaGreatDoorDigS
import Derived.Test.YtpkkjoiglemlgaaGreatDoorDRng
import Derived.Test.YtpkkjoiglemlgaaGreatDoorAsN
import Derived.Test.YtpkkjoiglemlgaaGreatDoorFail
import Derived.Test.YtpkkjoiglemlgaaGreatDoorFr
import Derived.Test.YtpkkjoiglemlgaaGreatDoorKits
import Derived.Lib.SmallJoins
import Derived.Test.YtpkkjoiglemlgaaGreatDoorIdF
import Derived.Lib.IndexMore
/-
  digits.Parse, digits.Within (layer 3). Where the sentinels, errors.errorType and strconv.ErrRange lie.
-/
namespace Go.Proofs.YtpkkjoiglemlgaaGreatDoor
set_option linter.unusedVariables false
open Go.RowKit Go.Extern.Stop Go.Stop Go.Extern Go.ChangeShapes

/-- No error, or one of a code at places. -/
def NumErr (w : World) (sv : Nat → Addr) (v : Value) (pl : List Int) (c : Int) : Prop := (c = 0 ∧ v = .nilIface) ∨ (c ≠ 0 ∧ ErrIs w sv v pl (sIdx c) ∧ sCode (sIdx c) = c)
theorem NumErr.under {w w' : World} {sv : Nat → Addr} (hb : Below w.heap.size w w') {v : Value} {pl : List Int} {c : Int} (h : NumErr w sv v pl c) : NumErr w' sv v pl c := by
  rcases h with h | ⟨h1, h2, h3⟩
  · exact .inl h
  · exact .inr ⟨h1, h2.under hb, h3⟩
theorem numErr_of {w : World} {sv : Nat → Addr} {v : Value} {pl : List Int} {c : Int} (hc : c = 1 ∨ c = 4) (h : ErrIs w sv v pl (sIdx c)) : NumErr w sv v pl c := .inr ⟨by omega, h, by rcases hc with rfl | rfl <;> rfl⟩
theorem parseInt_ok (s : ByteArray) (hs : s.size ≤ 1000000) (v : Int) (h : Lib.parseIntB 64 s.data.toList = .ok v) (w : World) : Calls Tryz.prog 102 #[.string s, .int .i64 10, .int .i64 64] w fun e w' => e = .returned (.tuple #[.int .i64 v, .nilIface]) ∧ Below w.heap.size w w' := by
  refine (Tryz.strconv_ParseInt_10_at64_ok s (by omega) v h w).mono ?_
  rintro e w' ⟨rfl, rfl | ⟨t, rfl⟩⟩
  · exact ⟨rfl, Below.refl _ _⟩
  · exact ⟨rfl, Go.Joins.below_bytesWorld _ _ _ _ (Nat.le_refl _)⟩
set_option maxHeartbeats 1000000 in
set_option maxRecDepth 100000 in
theorem digParse_any {w : World} {sv : Nat → Addr} (S : Sent w sv) (T : ETy w) (hR : RgV w) (s : ByteArray) (hs : s.size ≤ 1000000) :
    Calls Tryz.prog 69 #[.string s] w fun e w' => ∃ v, e = .returned (.tuple #[.int .i64 (pnum s.data.toList).1, v]) ∧ NumErr w' sv v [(pnum s.data.toList).2.2] (pnum s.data.toList).2.1 ∧ Below w.heap.size w w' := by
  have hM := fun W => misfit_any s hs W
  have hB := fun h => pnum_intB (l := s.data.toList) h
  have hN1 := fun W (h : Below w.heap.size w W) => new_any (S.below h) 1
  have hN4 := fun W (h : Below w.heap.size w W) => new_any (S.below h) 4
  have hA := fun W (p : Int) (c : Int) (h : ErrIs W sv (newV sv c) [] (sIdx c)) => at_any (w := W) (sv := sv) p (newV sv c) [] (sIdx c) h
  have hL1 : ∀ W, ErrIs W sv (newV sv 1) [] (sIdx 1) := fun W => ⟨by decide, rfl⟩
  have hL4 : ∀ W, ErrIs W sv (newV sv 4) [] (sIdx 4) := fun W => ⟨by decide, rfl⟩
  replace hM := Lib.hid hM
  replace hN1 := Lib.hid hN1
  replace hN4 := Lib.hid hN4
  replace hA := Lib.hid hA
  replace hL1 := Lib.hid hL1
  replace hL4 := Lib.hid hL4
  rcases pnum_codes s.data.toList with ⟨h0, _, _, hz, hm⟩ | ⟨h1, hp, hm⟩ | ⟨h4, hp, hm⟩
  · have hP := fun W => parseInt_ok s hs _ ((hB hm).trans (by rw [if_pos h0])) W
    rw [hm] at hM
    generalize pnum s.data.toList = P at *
    obtain ⟨n, c, a⟩ := P
    simp only at h0 hz hP ⊢
    subst h0 hz
    replace hP := Lib.hid hP
    clear S T hR hm hB
    go_enter Tryz.func69, Tryz.ntmps69
    go_wp2_with fail
    refine (hM.out _).mono ?_; rintro e w1 ⟨rfl, hb1⟩
    go_wp2_with fail
    refine (hP.out _).mono ?_; rintro e w2 ⟨rfl, hb2⟩
    have hb3 := Below.next_ hb1 hb2
    replace hb3 := Lib.hid hb3
    clear hb1 hb2
    go_wp2_with fail
    refine (nas_nil _ _).mono ?_; rintro e w3 ⟨rfl, rfl⟩
    go_wp2_with fail
    exact bodyPost_ret (results_tmp2 Tryz.results69 _ _ _) rfl ⟨_, rfl, .inl ⟨rfl, rfl⟩, by have := hb3.out; (repeat first | exact Below.refl _ _ | assumption | refine Below.drew ?_ | refine below_drewN ?_ _ | refine Below.more_ ?_ _ | refine Below.setCell ?_ (by first | exact Nat.le_refl _ | (simp; done) | (simp; omega)) _)⟩
  · have hd : decide ((0 : Int) ≤ mis s.data.toList) = true := decide_eq_true hm
    generalize pnum s.data.toList = P at *
    subst hp
    generalize mis s.data.toList = m at *
    simp only
    clear S T hR hB
    go_enter Tryz.func69, Tryz.ntmps69
    go_wp2_with fail
    refine (hM.out _).mono ?_; rintro e w1 ⟨rfl, hb1⟩
    replace hb1 := Lib.hid hb1
    go_wp2_with fail
    refine (hN1.out _ hb1.out).mono ?_; rintro e w2 ⟨rfl, rfl⟩
    go_wp2_with fail
    refine (hA.out _ m 1 (hL1.out _)).mono ?_; rintro e w5 ⟨v, rfl, hv, hb⟩
    replace hv := Lib.hid hv
    replace hb := Lib.hid hb
    go_wp2_with fail
    exact bodyPost_ret (results_tmp2 Tryz.results69 _ _ _) rfl ⟨_, rfl, numErr_of (.inl rfl) hv.out, Below.next_ hb1.out hb.out⟩
  · have hi : Lib.parseIntB 64 s.data.toList = .range := (hB hm).trans (by rw [hp]; rfl)
    obtain ⟨ad, hcell⟩ := hR
    have hP := fun W (h : Below w.heap.size w W) => Tryz.strconv_ParseInt_10_at64_range s (by omega) hi _ W ((h.cell (p := ⟨23, 0, none⟩) (cell_lt hcell)).trans hcell) (.inr ⟨_, _, rfl⟩)
    rw [hm] at hM
    generalize pnum s.data.toList = P at *
    subst hp
    generalize Lib.intSat 64 s.data.toList = n at *
    simp only
    have hTT := fun W (h : Below w.heap.size w W) => T.below h
    replace hP := Lib.hid hP
    replace hTT := Lib.hid hTT
    clear S T hcell hm hB hi
    go_enter Tryz.func69, Tryz.ntmps69
    go_wp2_with fail
    refine (hM.out _).mono ?_; rintro e w1 ⟨rfl, hb1⟩
    go_wp2_with fail
    refine (hP.out _ hb1).mono ?_; rintro e w2 ⟨N, rfl, _, _, hb2⟩
    have hb3 := Below.next_ hb1 hb2
    replace hb3 := Lib.hid hb3
    clear hb1 hb2
    go_wp2_with fail
    refine (nas_at N ⟨w2.heap.size, 0, none⟩ (.pointer none) _ ((hTT.out _ hb3.out).below ((Below.refl _ _).alloc (Nat.le_refl _) _)) ?c1 ?c2).mono ?_
    case c1 => exact (Blk.new w2 157 #[.pointer none]).cell 0
    case c2 => exact (Blk.new w2 157 #[.pointer none]).frozen 0
    rintro e w3 ⟨rfl, _, hb4, _⟩
    have hb4' : Below w2.heap.size (w2.alloc (.cells #[.pointer none] 157)) w3 := hb4
    have hb5 : Below w2.heap.size w2 w3 := Below.trans ((Below.refl _ _).alloc (Nat.le_refl _) _) hb4'
    have hb6 := Below.next_ hb3.out hb5
    replace hb6 := Lib.hid hb6
    clear hb4 hb4' hb5
    go_wp2_with fail
    refine (hN4.out _ hb6.out).mono ?_; rintro e w4 ⟨rfl, rfl⟩
    go_wp2_with fail
    refine (hA.out _ 0 4 (hL4.out _)).mono ?_; rintro e w5 ⟨v, rfl, hv, hb⟩
    replace hv := Lib.hid hv
    replace hb := Lib.hid hb
    go_wp2_with fail
    exact bodyPost_ret (results_tmp2 Tryz.results69 _ _ _) rfl ⟨_, rfl, numErr_of (.inr rfl) hv.out, Below.next_ hb6.out hb.out⟩
set_option maxHeartbeats 1000000 in
set_option maxRecDepth 100000 in
theorem digWithin_any {w : World} {sv : Nat → Addr} (S : Sent w sv) (T : ETy w) (hR : RgV w) (s : ByteArray) (lo hi : Int) (hs : s.size ≤ 1000000) :
    Calls Tryz.prog 41 #[.string s, .int .i64 lo, .int .i64 hi] w fun e w' => ∃ v, e = .returned (.tuple #[.int .i64 (pwith lo hi s.data.toList).1, v]) ∧ NumErr w' sv v [(pwith lo hi s.data.toList).2.2] (pwith lo hi s.data.toList).2.1 ∧ Below w.heap.size w w' := by
  have hP := digParse_any S T hR s hs
  have hc := pnum_codes s.data.toList
  have hq : pwith lo hi s.data.toList = if (pnum s.data.toList).2.1 = 0 ∧ ((pnum s.data.toList).1 < lo ∨ hi < (pnum s.data.toList).1) then (0, 4, 0) else pnum s.data.toList := rfl
  generalize pwith lo hi s.data.toList = Q at *
  generalize pnum s.data.toList = P at *
  have hN4 := fun W (h : Below w.heap.size w W) => new_any (S.below h) 4
  have hA := fun W (h : ErrIs W sv (newV sv 4) [] (sIdx 4)) => at_any (w := W) (sv := sv) 0 (newV sv 4) [] (sIdx 4) h
  have hL4 : ∀ W, ErrIs W sv (newV sv 4) [] (sIdx 4) := fun W => ⟨by decide, rfl⟩
  replace hN4 := Lib.hid hN4
  replace hA := Lib.hid hA
  replace hL4 := Lib.hid hL4
  obtain ⟨n, c, a⟩ := P
  simp only at hc hq hP
  replace hP := Lib.hid hP
  clear S T hR
  by_cases c0 : c = 0
  · subst c0
    by_cases hout : n < lo ∨ hi < n
    · rw [if_pos ⟨rfl, hout⟩] at hq
      subst hq
      simp only
      clear hc
      by_cases h1 : n < lo
      · have d1 : decide (n < lo) = true := decide_eq_true h1
        replace hout := Lib.hid hout
        go_enter Tryz.func41, Tryz.ntmps41
        go_wp2_with fail
        refine (hP.out).mono ?_; rintro e w1 ⟨v, rfl, hv, hb1⟩
        obtain ⟨_, rfl⟩ := hv.resolve_right (fun h => h.1 rfl)
        replace hb1 := Lib.hid hb1
        clear hv
        go_wp2_with fail
        refine (hN4.out _ hb1.out).mono ?_; rintro e w2 ⟨rfl, rfl⟩
        go_wp2_with fail
        refine (hA.out _ (hL4.out _)).mono ?_; rintro e w5 ⟨v, rfl, hv, hb⟩
        replace hv := Lib.hid hv
        replace hb := Lib.hid hb
        go_wp2_with fail
        exact bodyPost_ret (results_tmp2 Tryz.results41 _ _ _) rfl ⟨_, rfl, numErr_of (.inr rfl) hv.out, Below.next_ hb1.out hb.out⟩
      · have d1 : decide (n < lo) = false := decide_eq_false h1
        have h2 : hi < n := by omega
        have d2 : decide (hi < n) = true := decide_eq_true h2
        replace hout := Lib.hid hout
        go_enter Tryz.func41, Tryz.ntmps41
        go_wp2_with fail
        refine (hP.out).mono ?_; rintro e w1 ⟨v, rfl, hv, hb1⟩
        obtain ⟨_, rfl⟩ := hv.resolve_right (fun h => h.1 rfl)
        replace hb1 := Lib.hid hb1
        clear hv
        go_wp2_with fail
        refine (hN4.out _ hb1.out).mono ?_; rintro e w2 ⟨rfl, rfl⟩
        go_wp2_with fail
        refine (hA.out _ (hL4.out _)).mono ?_; rintro e w5 ⟨v, rfl, hv, hb⟩
        replace hv := Lib.hid hv
        replace hb := Lib.hid hb
        go_wp2_with fail
        exact bodyPost_ret (results_tmp2 Tryz.results41 _ _ _) rfl ⟨_, rfl, numErr_of (.inr rfl) hv.out, Below.next_ hb1.out hb.out⟩
    · rw [if_neg (fun h => hout h.2)] at hq
      subst hq
      simp only
      have d1 : decide (n < lo) = false := decide_eq_false (by omega)
      have d2 : decide (hi < n) = false := decide_eq_false (by omega)
      clear hc
      replace hout := Lib.hid hout
      go_enter Tryz.func41, Tryz.ntmps41
      go_wp2_with fail
      refine (hP.out).mono ?_; rintro e w1 ⟨v, rfl, hv, hb1⟩
      obtain ⟨_, rfl⟩ := hv.resolve_right (fun h => h.1 rfl)
      replace hb1 := Lib.hid hb1
      clear hv
      go_wp2_with fail
      exact bodyPost_ret (results_tmp2 Tryz.results41 _ _ _) rfl ⟨_, rfl, .inl ⟨rfl, rfl⟩, hb1.out⟩
  · rw [if_neg (fun h => c0 h.1)] at hq
    subst hq
    have hn : n = 0 := by
      rcases hc with ⟨h, _⟩ | ⟨_, h, _⟩ | ⟨_, h, _⟩
      · exact absurd h c0
      · injection h
      · injection h
    subst hn
    simp only
    clear hc
    go_enter Tryz.func41, Tryz.ntmps41
    go_wp2_with fail
    refine (hP.out).mono ?_; rintro e w1 ⟨v, rfl, hv, hb1⟩
    obtain ⟨t, u, rfl⟩ := (hv.resolve_left (fun h => c0 h.1)).2.1.iface
    replace hv := Lib.hid hv
    replace hb1 := Lib.hid hb1
    go_wp2_with fail
    exact bodyPost_ret (results_tmp2 Tryz.results41 _ _ _) rfl ⟨_, rfl, hv.out, hb1.out⟩
end Go.Proofs.YtpkkjoiglemlgaaGreatDoor

/-
  ident.Parse at any text (layer 12). Where the sentinels, errors.errorType and strconv.ErrRange lie.
-/
namespace Go.Proofs.YtpkkjoiglemlgaaGreatDoor
set_option linter.unusedVariables false
open Go.ChangeShapes Go.WideShapes Go.ChangeAt Go.RowKit Go.Extern.Stop Go.Stop Go.Extern

theorem NumErr.far {w : World} {sv : Nat → Addr} {b : Nat} {t : TypeId} {cs : Array Value} (hB : Blk w b t cs) (ht : 105 ≠ t) (i : Nat) (u : Value) {pl : List Int} {v : Value} {c : Int} (h : NumErr w sv v pl c) : NumErr (w.setCell ⟨b, i, none⟩ u) sv v pl c := by
  rcases h with h | ⟨h1, h2, h3⟩
  · exact .inl h
  · exact .inr ⟨h1, err_farI hB ht i u h2, h3⟩
/-- The places that a name's error is wrapped at. -/
def idPl (r : (Int × Int) × Int × Int × Int) : List Int := if r.2.2.2 < 0 then [r.2.2.1] else [r.2.2.2, r.2.2.1]
set_option maxHeartbeats 2000000 in
set_option maxRecDepth 100000 in
theorem idParse_any {w : World} {sv : Nat → Addr} (S : Sent w sv) (T : ETy w) (hR : RgV w) (s : ByteArray) (hs : s.size ≤ 1000000) :
    Calls Tryz.prog 9 #[.string s] w fun e w' => ∃ v, e = .returned (.tuple #[.agg #[.int .i64 (pId s.data.toList).1.1, .int .i64 (pId s.data.toList).1.2], v]) ∧ NumErr w' sv v (idPl (pId s.data.toList)) (pId s.data.toList).2.1 ∧ Below w.heap.size w w' := by
  have hlen := size_list_ s
  have hW1 : Below w.heap.size w (w.alloc (.cells #[.int .i64 0, .int .i64 0] 23)) := (Below.refl _ _).alloc (Nat.le_refl _) _
  have B1 := Blk.new w 23 #[.int .i64 0, .int .i64 0]
  have hA := fun W (p : Int) (v : Value) (ps : List Int) (c : Int) (h : ErrIs W sv v ps (sIdx c)) => at_any (w := W) (sv := sv) p v ps (sIdx c) h
  replace hA := Lib.hid hA
  replace hW1 := Lib.hid hW1
  replace B1 := Lib.hid B1
  have hge := Lib.index_ge s.data.toList [46]
  by_cases hi : Lib.index s.data.toList [46] = -1
  · have hp := pId_miss hi
    rw [hlen] at hp
    have hC := fun W => cutMiss s 46 W hi
    have hN := fun W (h : Below w.heap.size w W) => new_any (S.below h) 1
    have hL : ∀ W, ErrIs W sv (newV sv 1) [] (sIdx 1) := fun W => ⟨by decide, rfl⟩
    generalize pId s.data.toList = P at *
    subst hp
    simp only [idPl]
    rw [if_pos (by decide)]
    replace hC := Lib.hid hC
    replace hN := Lib.hid hN
    replace hL := Lib.hid hL
    replace hlen := Lib.hid hlen
    replace hi := Lib.hid hi
    clear S T hR hge
    go_enter Tryz.func9, Tryz.ntmps9
    go_wp2_with fail
    refine (hC.out _).mono ?_; rintro e w1 ⟨rfl, hw⟩
    obtain rfl := hw
    go_wp2_with fail
    refine (hN.out _ hW1.out).mono ?_; rintro e w1 ⟨rfl, hw⟩
    obtain rfl := hw
    go_wp2_with fail
    refine (hA.out _ _ _ _ 1 (hL.out _)).mono ?_; rintro e w5 ⟨v, rfl, hv, hb⟩
    have B5 := B1.out.below hb B1.out.lt
    have hb5 := Below.next_ hW1.out hb
    have c0 := B5.cell 0
    have c1 := B5.cell 1
    have f0 := B5.frozen 0
    have f1 := B5.frozen 1
    replace B5 := Lib.hid B5
    replace hv := Lib.hid hv
    replace hb5 := Lib.hid hb5
    clear hb
    go_wp2_with fail
    refine worldI (α := fun W' => bodyPost _ _ _ _ _ W') (fun W => Blk W w.heap.size 23 #[.int .i64 0, .int .i64 0] ∧ NumErr W sv v [(s.size : Int)] 1 ∧ Below w.heap.size w W) ?_ fun W hW => ?_
    · exact ⟨Blk.eq_cs (Blk.set_ (Blk.set_ B5.out 0 _) 1 _) rfl, numErr_of (.inl rfl) (err_farI (Blk.set_ B5.out 0 _) (by decide) 1 _ (err_farI B5.out (by decide) 0 _ hv.out)), (hb5.out.setCell (Nat.le_refl _) _).setCell (Nat.le_refl _) _⟩
    obtain ⟨k1, k2, k3⟩ := hW
    have z0 := k1.cell 0
    have z1 := k1.cell 1
    replace k2 := Lib.hid k2
    exact bodyPost_ret (v := .tuple #[.agg #[.int .i64 0, .int .i64 0], v]) (by simp [results, Tryz.results9, go_sem, z0, z1]) rfl ⟨_, rfl, k2.out, k3⟩
  · obtain ⟨k, hk⟩ : ∃ k : Nat, Lib.index s.data.toList [46] = k := ⟨(Lib.index s.data.toList [46]).toNat, by omega⟩
    have hlt : k < s.size := by
      have h1 := Lib.index_room s.data.toList [46] (by omega)
      simp only [List.length_singleton] at h1
      omega
    have hC := fun W => cutHit s 46 k W hk hlt (by omega)
    have hp := pId_hit hk
    have hA1 := fun W (h : Below w.heap.size w W) => digWithin_any (S.below h) (T.below h) (hR.below h) (s.extract 0 k) 0 255 (by have := extD_size s 0 k; omega)
    have hB1 := fun W (h : Below w.heap.size w W) => digWithin_any (S.below h) (T.below h) (hR.below h) (s.extract (k + 1) s.size) 1 4294967296 (by have := extD_size s (k + 1) s.size; omega)
    rw [extD_head] at hA1
    rw [extD_tail] at hB1
    generalize hp1 : pwith 0 255 (s.data.toList.take k) = p1 at *
    generalize hp2 : pwith 1 4294967296 (s.data.toList.drop (k + 1)) = p2 at *
    obtain ⟨n1, e1, a1⟩ := p1
    obtain ⟨n2, e2, a2⟩ := p2
    generalize pId s.data.toList = P at *
    simp only at hA1 hB1 hp
    replace hp1 := Lib.hid hp1
    replace hp2 := Lib.hid hp2
    replace hA1 := Lib.hid hA1
    replace hB1 := Lib.hid hB1
    replace hC := Lib.hid hC
    replace hlen := Lib.hid hlen
    replace hk := Lib.hid hk
    clear S T hR hge hi
    by_cases q1 : e1 = 0
    · subst q1
      rw [if_neg (by decide)] at hp
      by_cases q2 : e2 = 0
      · subst q2
        rw [if_neg (by decide)] at hp
        subst hp
        simp only
        go_enter Tryz.func9, Tryz.ntmps9
        go_wp2_with fail
        refine (hC.out _).mono ?_; rintro e w1 ⟨rfl, hb1⟩
        have B2 := B1.out.below hb1 B1.out.lt
        have hb2 := Below.next_ hW1.out hb1
        replace B2 := Lib.hid B2
        replace hb2 := Lib.hid hb2
        clear hb1
        go_wp2_with fail
        refine (hA1.out _ hb2.out).mono ?_; rintro e w3 ⟨v1, rfl, hv1, hb3⟩
        obtain ⟨_, rfl⟩ := hv1.resolve_right (fun h => h.1 rfl)
        have B3 := B2.out.below hb3 B2.out.lt
        have hb4 := Below.next_ hb2.out hb3
        replace B3 := Lib.hid B3
        replace hb4 := Lib.hid hb4
        clear hb3 hv1
        go_wp2_with fail
        refine (hB1.out _ hb4.out).mono ?_; rintro e w5 ⟨v2, rfl, hv2, hb5⟩
        obtain ⟨_, rfl⟩ := hv2.resolve_right (fun h => h.1 rfl)
        have B5 := B3.out.below hb5 B3.out.lt
        have hb6 := Below.next_ hb4.out hb5
        have c0 := B5.cell 0
        have c1 := B5.cell 1
        have f0 := B5.frozen 0
        have f1 := B5.frozen 1
        replace B5 := Lib.hid B5
        replace hb6 := Lib.hid hb6
        clear hb5 hv2
        go_wp2_with fail
        refine worldI (α := fun W' => bodyPost _ _ _ _ _ W') (fun W => Blk W w.heap.size 23 #[.int .i64 n1, .int .i64 n2] ∧ Below w.heap.size w W) ?_ fun W hW => ?_
        · exact ⟨Blk.eq_cs (Blk.set_ (Blk.set_ B5.out 0 _) 1 _) rfl, (hb6.out.setCell (Nat.le_refl _) _).setCell (Nat.le_refl _) _⟩
        obtain ⟨k1, k3⟩ := hW
        have z0 := k1.cell 0
        have z1 := k1.cell 1
        exact bodyPost_ret (v := .tuple #[.agg #[.int .i64 n1, .int .i64 n2], .nilIface]) (by simp [results, Tryz.results9, go_sem, z0, z1]) rfl ⟨_, rfl, .inl ⟨rfl, rfl⟩, k3⟩
      · rw [if_pos q2] at hp
        subst hp
        simp only [idPl]
        rw [if_neg (by decide)]
        go_enter Tryz.func9, Tryz.ntmps9
        go_wp2_with fail
        refine (hC.out _).mono ?_; rintro e w1 ⟨rfl, hb1⟩
        have B2 := B1.out.below hb1 B1.out.lt
        have hb2 := Below.next_ hW1.out hb1
        replace B2 := Lib.hid B2
        replace hb2 := Lib.hid hb2
        clear hb1
        go_wp2_with fail
        refine (hA1.out _ hb2.out).mono ?_; rintro e w3 ⟨v1, rfl, hv1, hb3⟩
        obtain ⟨_, rfl⟩ := hv1.resolve_right (fun h => h.1 rfl)
        have B3 := B2.out.below hb3 B2.out.lt
        have hb4 := Below.next_ hb2.out hb3
        replace B3 := Lib.hid B3
        replace hb4 := Lib.hid hb4
        clear hb3 hv1
        go_wp2_with fail
        refine (hB1.out _ hb4.out).mono ?_; rintro e w5 ⟨v2, rfl, hv2, hb5⟩
        obtain ⟨_, hv3, hsc⟩ := hv2.resolve_left (fun h => q2 h.1)
        obtain ⟨ty, u, rfl⟩ := hv3.iface
        have B5 := B3.out.below hb5 B3.out.lt
        have hb6 := Below.next_ hb4.out hb5
        replace B5 := Lib.hid B5
        replace hb6 := Lib.hid hb6
        replace hv3 := Lib.hid hv3
        replace hsc := Lib.hid hsc
        clear hb5 hv2
        go_wp2_with fail
        refine (hA.out _ _ _ _ e2 hv3.out).mono ?_; rintro e w7 ⟨v, rfl, hv, hb7⟩
        have B7 := B5.out.below hb7 B5.out.lt
        have hb8 := Below.next_ hb6.out hb7
        have c0 := B7.cell 0
        have c1 := B7.cell 1
        have f0 := B7.frozen 0
        have f1 := B7.frozen 1
        replace B7 := Lib.hid B7
        replace hb8 := Lib.hid hb8
        replace hv := Lib.hid hv
        clear hb7
        go_wp2_with fail
        refine worldI (α := fun W' => bodyPost _ _ _ _ _ W') (fun W => Blk W w.heap.size 23 #[.int .i64 0, .int .i64 0] ∧ NumErr W sv v [1, a2] e2 ∧ Below w.heap.size w W) ?_ fun W hW => ?_
        · exact ⟨Blk.eq_cs (Blk.set_ (Blk.set_ B7.out 0 _) 1 _) rfl, .inr ⟨q2, err_farI (Blk.set_ B7.out 0 _) (by decide) 1 _ (err_farI B7.out (by decide) 0 _ hv.out), hsc.out⟩, (hb8.out.setCell (Nat.le_refl _) _).setCell (Nat.le_refl _) _⟩
        obtain ⟨k1, k2, k3⟩ := hW
        have z0 := k1.cell 0
        have z1 := k1.cell 1
        replace k2 := Lib.hid k2
        exact bodyPost_ret (v := .tuple #[.agg #[.int .i64 0, .int .i64 0], v]) (by simp [results, Tryz.results9, go_sem, z0, z1]) rfl ⟨_, rfl, k2.out, k3⟩
    · rw [if_pos q1] at hp
      subst hp
      simp only [idPl]
      rw [if_neg (by decide)]
      go_enter Tryz.func9, Tryz.ntmps9
      go_wp2_with fail
      refine (hC.out _).mono ?_; rintro e w1 ⟨rfl, hb1⟩
      have B2 := B1.out.below hb1 B1.out.lt
      have hb2 := Below.next_ hW1.out hb1
      replace B2 := Lib.hid B2
      replace hb2 := Lib.hid hb2
      clear hb1
      go_wp2_with fail
      refine (hA1.out _ hb2.out).mono ?_; rintro e w5 ⟨v2, rfl, hv2, hb5⟩
      obtain ⟨_, hv3, hsc⟩ := hv2.resolve_left (fun h => q1 h.1)
      obtain ⟨ty, u, rfl⟩ := hv3.iface
      have B5 := B2.out.below hb5 B2.out.lt
      have hb6 := Below.next_ hb2.out hb5
      replace B5 := Lib.hid B5
      replace hb6 := Lib.hid hb6
      replace hv3 := Lib.hid hv3
      replace hsc := Lib.hid hsc
      clear hb5 hv2
      go_wp2_with fail
      refine (hA.out _ _ _ _ e1 hv3.out).mono ?_; rintro e w7 ⟨v, rfl, hv, hb7⟩
      have B7 := B5.out.below hb7 B5.out.lt
      have hb8 := Below.next_ hb6.out hb7
      have c0 := B7.cell 0
      have c1 := B7.cell 1
      have f0 := B7.frozen 0
      have f1 := B7.frozen 1
      replace B7 := Lib.hid B7
      replace hb8 := Lib.hid hb8
      replace hv := Lib.hid hv
      clear hb7
      go_wp2_with fail
      refine worldI (α := fun W' => bodyPost _ _ _ _ _ W') (fun W => Blk W w.heap.size 23 #[.int .i64 0, .int .i64 0] ∧ NumErr W sv v [0, a1] e1 ∧ Below w.heap.size w W) ?_ fun W hW => ?_
      · exact ⟨Blk.eq_cs (Blk.set_ (Blk.set_ B7.out 0 _) 1 _) rfl, .inr ⟨q1, err_farI (Blk.set_ B7.out 0 _) (by decide) 1 _ (err_farI B7.out (by decide) 0 _ hv.out), hsc.out⟩, (hb8.out.setCell (Nat.le_refl _) _).setCell (Nat.le_refl _) _⟩
      obtain ⟨k1, k2, k3⟩ := hW
      have z0 := k1.cell 0
      have z1 := k1.cell 1
      replace k2 := Lib.hid k2
      exact bodyPost_ret (v := .tuple #[.agg #[.int .i64 0, .int .i64 0], v]) (by simp [results, Tryz.results9, go_sem, z0, z1]) rfl ⟨_, rfl, k2.out, k3⟩
end Go.Proofs.YtpkkjoiglemlgaaGreatDoor
