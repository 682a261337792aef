/-
  The document's Print. No condition.
-/
import Derived.Test.YtpmnppjiipbonaaDoorOpY
namespace Go.Proofs.YtpmnppjiipbonaaDoor
set_option linter.unusedVariables false
open Go.RowKit Go.Extern.Stop Go.Stop Go.Extern Go.ChangeShapes

theorem conv_sput {W : World} {g q : Nat} (hq : q < 128) (h : Blk W g 5 #[.int .u8 (q : Int)]) : (convert 68 9 (.slice (some ⟨g, 0, none⟩) 1 1)).run Tryd.prog W = .ok (.string (bs (sput q))) W := by
  rw [sput_small hq]
  refine run_convert_bytes_back _ 68 9 5 ⟨g, 0, none⟩ 1 [UInt8.ofNat q] Tryd.underlying68 Tryd.underlying5 Tryd.underlying9 fun j hj => ?_
  obtain rfl : j = 0 := by simpa using hj
  have hc := h.cell 0
  have hq2 : (UInt8.ofNat q).toNat = q := by simp; omega
  simp only [Addr.add, List.getElem_cons_zero, hq2]
  exact hc
theorem exit_world {Q : Exit → Act → World → Prop} {e : Exit} {a : Act} {W : World} (P : World → Prop) (h : P W) (k : ∀ W, P W → Q e a W) : Q e a W := k W h
theorem refPrintO_wrong (v : Value) (o : OOp) (w : World) (h : OpIs w v o) (h1 : o.guards.length ≤ maxLen) (h2 : o.steps.length ≤ maxLen) (ho : oRight o = false) :
    Calls Tryd.prog 26 #[v] w fun e w' => e = .returned (.tuple #[.string ⟨#[]⟩, .int .i64 8]) ∧ Below w.heap.size w w' := by
  obtain ⟨A, n, c, A', n', c', rfl, e1, e2, r1, r2⟩ := h
  have hA : Below w.heap.size w (w.alloc (.cells #[.slice A n c, .slice A' n' c'] 44)) := (Below.refl _ _).alloc (Nat.le_refl _) _
  have hI : OpIs (w.alloc (.cells #[.slice A n c, .slice A' n' c'] 44)) (.agg #[.slice A n c, .slice A' n' c']) o := OpIs.below ⟨A, n, c, A', n', c', rfl, e1, e2, r1, r2⟩ hA
  have hR := refRight_any _ o _ hI h1 h2
  rw [ho] at hR
  replace hR := Lib.hid hR
  replace hA := Lib.hid hA
  clear hI r1 r2
  replace e1 := Lib.hid e1
  replace e2 := Lib.hid e2
  go_enter Tryd.func26, Tryd.ntmps26
  go_wp2_with fail
  refine (hR.out).mono ?_; rintro e w1 ⟨rfl, hb⟩
  go_wp2_with fail
  exact bodyPost_ret (results_tmp2 Tryd.results26 _ _ _) rfl ⟨rfl, hA.out.trans (hb.mono (by simp))⟩
set_option maxRecDepth 100000 in
set_option maxHeartbeats 8000000 in
theorem refPrintO_right (v : Value) (o : OOp) (w : World) (h : OpIs w v o) (hf : ∀ x ∈ o.steps, sFit x) (ho : oRight o = true) :
    Calls Tryd.prog 26 #[v] w fun e w' => e = .returned (.tuple #[strL (oBytes o), .int .i64 0]) ∧ Below w.heap.size w w' := by
  have ho' := ho
  obtain ⟨gs, ss⟩ := o
  simp only [oRight, Bool.and_eq_true, decide_eq_true_eq, List.all_eq_true] at ho'
  obtain ⟨⟨⟨⟨g1, g2⟩, g3⟩, g4⟩, g5⟩ := ho'
  have hR0 := fun W (hW : Below w.heap.size w W) => refRight_any v ⟨gs, ss⟩ W (h.below hW) (by unfold maxLen; simp only; omega) (by unfold maxLen; simp only; omega)
  rw [ho] at hR0
  obtain ⟨A, n, c, A', n', c', rfl, e1, e2, r1, r2⟩ := h
  simp only at e1 e2 r1 r2 hf
  have hA : Below w.heap.size w (w.alloc (.cells #[.slice A n c, .slice A' n' c'] 44)) := (Below.refl _ _).alloc (Nat.le_refl _) _
  have hBx := Lib.hid (Blk.new w 44 #[.slice A n c, .slice A' n' c'])
  have n4 : n ≤ 4 := by omega
  have m4 : n' ≤ 4 := by omega
  have m1 : 1 ≤ n' := by omega
  have n4' := Lib.hid n4
  have m4' := Lib.hid m4
  have bG := Lib.hid (fun k => flat_take_le (f := gBytes) (l := gs) (fun x hx => gBytes_le (g4 x hx)) k)
  have bS := Lib.hid (fun k => flat_take_le (f := sBytes) (l := ss) (fun x hx => sBytes_le (g5 x hx) (hf x hx)) k)
  have hoB : oBytes ⟨gs, ss⟩ = sput n ++ (gs.flatMap gBytes ++ (sput n' ++ ss.flatMap sBytes)) := by unfold oBytes; rw [e1, e2]
  rw [hoB]
  have p1 := sput_ten (n := n) (by omega)
  have p2 := sput_ten (n := n') (by omega)
  clear g1 g2 g3
  replace hoB := Lib.hid hoB
  replace hR0 := Lib.hid hR0
  replace hA := Lib.hid hA
  replace r1 := Lib.hid r1
  replace r2 := Lib.hid r2
  replace e1 := Lib.hid e1
  replace e2 := Lib.hid e2
  replace g4 := Lib.hid g4
  replace g5 := Lib.hid g5
  replace hf := Lib.hid hf
  replace ho := Lib.hid ho
  go_enter Tryd.func26, Tryd.ntmps26
  go_wp2_with fail
  refine (hR0.out _ hA.out).mono ?_; rintro e w1 ⟨rfl, hb1⟩
  have hc1 := hb1
  simp only [World.size_alloc] at hc1
  have c0 := (hBx.out.below hb1 (by simp)).cell 0
  have c1 := (hBx.out.below hb1 (by simp)).cell 1
  have hcv := conv_sput (q := n) (by omega) (Blk.new w1 5 #[.int .u8 (n : Int)])
  have hwn : IntKind.u8.wrap (n : Int) = n := by rw [IntKind.wrap_u8]; omega
  go_wp2_with fail
  clear c0 c1 hcv
  have hs1 := hc1.size
  simp only [World.size_alloc] at hs1
  go_loopw [4, 5] (fun o i wr => ∃ k : Nat, i = .int .i64 k ∧ k ≤ n ∧ o = strL (sput n ++ (gs.take k).flatMap gBytes) ∧ Below (w.heap.size + 1) (w.alloc (.cells #[.slice A n c, .slice A' n' c'] 44)) wr) (fun _ i _ => n + 1 - (intOf i).toNat)
  case atStart => exact ⟨0, rfl, by omega, by simp, Below.alloc hc1 (by omega) _⟩
  case round =>
    obtain ⟨k, rfl, hk, rfl, hb⟩ := hrel
    have hB := Lib.hid (hA.out.trans (hb.mono (by omega)))
    have c0 := (hBx.out.below hb (by omega)).cell 0
    have c1 := (hBx.out.below hb (by omega)).cell 1
    have hws := hb.size
    simp only [World.size_alloc] at hws
    by_cases hlt : k < n
    · obtain ⟨ad, x, rfl, hadb, hx, hc⟩ := g3_at r1.out e1.out hlt
      have hgx := g4.out x (List.mem_of_getElem? hx)
      have htk := Lib.hid (flat_take (f := gBytes) hx)
      have hbl := bG.out k
      obtain ⟨k0, key, value⟩ := x
      obtain ⟨q, rfl⟩ : ∃ q : Nat, k0 = q := ⟨k0.toNat, by simp only [gRight, decide_eq_true_eq] at hgx; omega⟩
      obtain ⟨d0, d1, d2⟩ := hc _ hB.out
      have hgb : gBytes ⟨q, key, value⟩ = sput q ++ (stxt key ++ if q = 3 then stxt value else []) := by unfold gBytes; simp only [Int.toNat_natCast]; by_cases hq : q = 3 <;> simp [hq] <;> omega
      simp only [gRight, decide_eq_true_eq] at hgx
      obtain ⟨y1, y2, y3, y4, _⟩ := hgx
      rw [hgb] at htk
      replace hgb := Lib.hid hgb
      have b1 := sput_ten (n := q) (by omega)
      have b2 := stxt_le y3 (by omega)
      have b3 := stxt_le y4 (by omega)
      have hacc : (sput n ++ (gs.take k).flatMap gBytes).length ≤ 400 := by rw [List.length_append]; have := n4'.out; omega
      generalize hag : sput n ++ (gs.take k).flatMap gBytes = acc at *
      replace hag := Lib.hid hag
      have hT := Lib.hid (fun w => refPutTxt_any key (by omega) w)
      have hV := Lib.hid (fun w => refPutTxt_any value (by omega) w)
      have a1 := fun W => add_str W acc (sput q) (by omega)
      have a2 := fun W => add_str W (acc ++ sput q) (stxt key) (by rw [List.length_append]; omega)
      have a3 := fun W => add_str W (acc ++ sput q ++ stxt key) (stxt value) (by rw [List.length_append, List.length_append]; omega)
      rw [List.append_assoc] at a2 a3
      have hBy := Lib.hid (Blk.new wr 90 #[.int .i64 q, .string key, .string value])
      clear hc
      replace hx := Lib.hid hx
      have i1 : (0 : Int) ≤ (k : Int) := by omega
      have i2 : (k : Int) < (n : Int) := by omega
      have hwk : IntKind.u8.wrap (q : Int) = q := by rw [IntKind.wrap_u8]; omega
      have hcA : (convert 68 9 (.slice (some ⟨wr.heap.size + 1, 0, none⟩) 1 1)).run Tryd.prog (((wr.alloc (.cells #[.int .i64 q, .string key, .string value] 90)).alloc (.cells #[.int .u8 (q : Int)] 5)).drew) = .ok (.string (bs (sput q))) (((wr.alloc (.cells #[.int .i64 q, .string key, .string value] 90)).alloc (.cells #[.int .u8 (q : Int)] 5)).drew) := conv_sput (by omega) (Blk.drew (by simpa using Blk.new (wr.alloc (.cells #[.int .i64 q, .string key, .string value] 90)) 5 #[.int .u8 (q : Int)]))
      have hd0 : Below (wr.heap.size + 1) (wr.alloc (.cells #[.int .i64 q, .string key, .string value] 90)) (wr.alloc (.cells #[.int .i64 q, .string key, .string value] 90)).drew := (Below.refl _ _).drew
      go_wp2_with fail
      clear c0 c1 d0 d1 d2
      go_region_with (first
        | (go_at_call 59; refine (hT.out _).mono ?_; rintro e w6 ⟨rfl, hb6⟩; have hsz6 := hb6.size; have hz : Below (wr.heap.size + 1) (wr.alloc (.cells #[.int .i64 q, .string key, .string value] 90)) w6 := (by refine Below.trans ?_ (hb6.mono (by simp)); first | exact (Below.refl _ _).drew | exact ((Below.refl _ _).alloc (by simp) _).drew | exact (Below.refl _ _).alloc (by simp) _); have c3 := (hBy.out.below hz (by omega)).cell 0; have c4 := (hBy.out.below hz (by omega)).cell 1; have c5 := (hBy.out.below hz (by omega)).cell 2; have hl6 : wr.heap.size + 1 ≤ w6.heap.size := (by have := hz.size; simpa using this); have hcB := conv_sput (q := q) (by omega) (Blk.new w6 5 #[.int .u8 (q : Int)]); try (have hcC : (convert 68 9 (.slice (some ⟨wr.heap.size + 1, 0, none⟩) 1 1)).run Tryd.prog w6 = .ok (.string (bs (sput q))) w6 := conv_sput (by omega) (by simpa using Blk.below (Blk.drew (Blk.new (wr.alloc (.cells #[.int .i64 q, .string key, .string value] 90)) 5 #[.int .u8 (q : Int)])) hb6 (by simp)))))
      all_goals
        refine exit_world (fun W => Below (wr.heap.size + 1) (wr.alloc (.cells #[.int .i64 q, .string key, .string value] 90)) W) ?_ fun W hW => ?_
        · first | exact hz | exact hz.drew | exact (hz.alloc (by omega) _) | exact (hz.alloc (by omega) _).drew
        clear hz c3 c4 c5 hcB
        have c3 := (hBy.out.below hW (by omega)).cell 0
        have c4 := (hBy.out.below hW (by omega)).cell 1
        have c5 := (hBy.out.below hW (by omega)).cell 2
        clear hd0
        by_cases hq : q = 3
        · have hfin : acc ++ (sput q ++ stxt key) ++ stxt value = sput n ++ (gs.take (k + 1)).flatMap gBytes := by rw [htk.out, ← hag.out, if_pos hq]; simp
          replace hfin := Lib.hid hfin
          subst hq
          go_wp2_with fail
          refine (hV.out _).mono ?_; rintro e w7 ⟨rfl, hb7⟩
          have hz7 := nx (B := wr.heap.size + 1) (a := wr.alloc (.cells #[.int .i64 (3 : Nat), .string key, .string value] 90)) hW (by simp) hb7
          go_wp2_with fail
          go_roundw
          case rel => exact ⟨k + 1, by go_num, by omega, by first | (rw [← hfin.out]; done) | (rw [← hfin.out]; rfl) | (rw [← hfin.out]; simp; done), (Below.alloc hb (by omega) _).trans (hz7.mono (by omega))⟩
          case measure => simp [intOf]; omega
        · have hfin : acc ++ (sput q ++ stxt key) = sput n ++ (gs.take (k + 1)).flatMap gBytes := by rw [htk.out, ← hag.out, if_neg hq]; simp
          replace hfin := Lib.hid hfin
          have hqb : ((q : Int) == 3) = false := beq_eq_false_iff_ne.2 (by omega)
          go_wp2_with fail
          go_roundw
          case rel => exact ⟨k + 1, by go_num, by omega, by first | (rw [← hfin.out]; done) | (rw [← hfin.out]; rfl) | (rw [← hfin.out]; simp; done), (Below.alloc hb (by omega) _).trans (hW.mono (by omega))⟩
          case measure => simp [intOf]; omega
    · obtain rfl : k = n := by omega
      have htop : (gs.take k).flatMap gBytes = gs.flatMap gBytes := by rw [List.take_of_length_le (by have := e1.out; omega)]
      have hbl := bG.out k
      rw [htop] at *
      replace htop := Lib.hid htop
      have hgl : (gs.flatMap gBytes).length ≤ 312 := by have := n4'.out; omega
      have a1 := fun W => add_str W (sput k ++ gs.flatMap gBytes) (sput n') (by rw [List.length_append]; omega)
      have hcv := conv_sput (q := n') (by omega) (Blk.new wr 5 #[.int .u8 (n' : Int)])
      have hwn' : IntKind.u8.wrap (n' : Int) = n' := by rw [IntKind.wrap_u8]; omega
      go_wp2_with fail
      clear hcv
      go_loopw [4, 7] (fun o i wq => ∃ k' : Nat, i = .int .i64 k' ∧ k' ≤ n' ∧ o = strL (sput k ++ gs.flatMap gBytes ++ sput n' ++ (ss.take k').flatMap sBytes) ∧ Below (w.heap.size + 1) (w.alloc (.cells #[.slice A k c, .slice A' n' c'] 44)) wq) (fun _ i _ => n' + 1 - (intOf i).toNat)
      case atStart => exact ⟨0, rfl, by omega, by simp, Below.alloc hb (by omega) _⟩
      case round =>
        clear a1 c0 c1 hB hb hws
        obtain ⟨k', rfl, hk', rfl, hb⟩ := hrel
        have hB := Lib.hid (hA.out.trans (hb.mono (by omega)))
        have c0 := (hBx.out.below hb (by omega)).cell 0
        have c1 := (hBx.out.below hb (by omega)).cell 1
        by_cases hlt' : k' < n'
        · obtain ⟨ad, x, rfl, hadb, hx, hc⟩ := s5_at r2.out e2.out hlt'
          have hgx := g5.out x (List.mem_of_getElem? hx)
          have hfx := hf.out x (List.mem_of_getElem? hx)
          have htk := Lib.hid (flat_take (f := sBytes) hx)
          have hbl2 := bS.out k'
          have hws := hb.size
          simp only [World.size_alloc] at hws
          obtain ⟨k0, key, value, old, num⟩ := x
          obtain ⟨q, rfl⟩ : ∃ q : Nat, k0 = q := ⟨k0.toNat, by simp only [sRight, decide_eq_true_eq] at hgx; omega⟩
          obtain ⟨d0, d1, d2, d3, d4⟩ := hc _ hB.out
          have hgb : sBytes ⟨q, key, value, old, num⟩ = sput q ++ (stxt key ++ if q = 1 then stxt value else if q = 3 then sput (zz num) else if q = 4 then stxt old ++ stxt value else []) := by
            unfold sBytes; simp only [Int.toNat_natCast]
            by_cases h1 : q = 1
            · subst h1; rfl
            · by_cases h3 : q = 3
              · subst h3; rfl
              · by_cases h4 : q = 4
                · subst h4; rfl
                · rw [if_neg (by omega), if_neg (by omega), if_neg (by omega), if_neg h1, if_neg h3, if_neg h4]
          simp only [sRight, decide_eq_true_eq] at hgx
          obtain ⟨y1, y2, y3, y4, y5, _⟩ := hgx
          obtain ⟨f1, f2⟩ := hfx
          simp only at f1 f2
          rw [hgb] at htk
          replace hgb := Lib.hid hgb
          have b1 := sput_ten (n := q) (by omega)
          have b2 := stxt_le y3 (by omega)
          have b3 := stxt_le y4 (by omega)
          have b4 := stxt_le y5 (by omega)
          have b5 := sput_ten (zz_lt f1 f2)
          have hacc : (sput k ++ gs.flatMap gBytes ++ sput n' ++ (ss.take k').flatMap sBytes).length ≤ 900 := by rw [List.length_append, List.length_append, List.length_append]; have := m4'.out; omega
          generalize hag : sput k ++ gs.flatMap gBytes ++ sput n' ++ (ss.take k').flatMap sBytes = acc at *
          replace hag := Lib.hid hag
          have hT := Lib.hid (fun w => refPutTxt_any key (by omega) w)
          have hV := Lib.hid (fun w => refPutTxt_any value (by omega) w)
          have hO := Lib.hid (fun w => refPutTxt_any old (by omega) w)
          have hN := Lib.hid (fun w => refPutInt_any num f1 f2 w)
          have a1 := fun W => add_str W acc (sput q) (by omega)
          have a2 := fun W => add_str W (acc ++ sput q) (stxt key) (by rw [List.length_append]; omega)
          have a3 := fun W => add_str W (acc ++ sput q ++ stxt key) (stxt value) (by rw [List.length_append, List.length_append]; omega)
          have a4 := fun W => add_str W (acc ++ sput q ++ stxt key) (sput (zz num)) (by rw [List.length_append, List.length_append]; omega)
          have a5 := fun W => add_str W (acc ++ sput q ++ stxt key) (stxt old) (by rw [List.length_append, List.length_append]; omega)
          have a6 := fun W => add_str W (acc ++ sput q ++ stxt key ++ stxt old) (stxt value) (by rw [List.length_append, List.length_append, List.length_append]; omega)
          simp only [List.append_assoc] at a2 a3 a4 a5 a6
          have hBy := Lib.hid (Blk.new wr 92 #[.int .i64 q, .string key, .string value, .string old, .int .i64 num])
          clear hc
          replace hx := Lib.hid hx
          have i1 : (0 : Int) ≤ (k' : Int) := by omega
          have i2 : (k' : Int) < (n' : Int) := by omega
          have hwk : IntKind.u8.wrap (q : Int) = q := by rw [IntKind.wrap_u8]; omega
          have hcA : (convert 68 9 (.slice (some ⟨wr.heap.size + 1, 0, none⟩) 1 1)).run Tryd.prog (((wr.alloc (.cells #[.int .i64 q, .string key, .string value, .string old, .int .i64 num] 92)).alloc (.cells #[.int .u8 (q : Int)] 5)).drew) = .ok (.string (bs (sput q))) (((wr.alloc (.cells #[.int .i64 q, .string key, .string value, .string old, .int .i64 num] 92)).alloc (.cells #[.int .u8 (q : Int)] 5)).drew) := conv_sput (by omega) (Blk.drew (by simpa using Blk.new (wr.alloc (.cells #[.int .i64 q, .string key, .string value, .string old, .int .i64 num] 92)) 5 #[.int .u8 (q : Int)]))
          go_wp2_with fail
          clear c0 c1 d0 d1 d2 d3 d4
          go_region_with (first
            | (go_at_call 59; refine (hT.out _).mono ?_; rintro e w6 ⟨rfl, hb6⟩; have hz : Below (wr.heap.size + 1) (wr.alloc (.cells #[.int .i64 q, .string key, .string value, .string old, .int .i64 num] 92)) w6 := (by refine Below.trans ?_ (hb6.mono (by simp)); first | exact (Below.refl _ _).drew | exact ((Below.refl _ _).alloc (by simp) _).drew | exact (Below.refl _ _).alloc (by simp) _); have c3 := (hBy.out.below hz (by omega)).cell 0; have c4 := (hBy.out.below hz (by omega)).cell 1; have c5 := (hBy.out.below hz (by omega)).cell 2; have c6 := (hBy.out.below hz (by omega)).cell 3; have c7 := (hBy.out.below hz (by omega)).cell 4; have hl6 : wr.heap.size + 1 ≤ w6.heap.size := (by have := hz.size; simpa using this); have hcB := conv_sput (q := q) (by omega) (Blk.new w6 5 #[.int .u8 (q : Int)]); try (have hcC : (convert 68 9 (.slice (some ⟨wr.heap.size + 1, 0, none⟩) 1 1)).run Tryd.prog w6 = .ok (.string (bs (sput q))) w6 := conv_sput (by omega) (by simpa using Blk.below (Blk.drew (Blk.new (wr.alloc (.cells #[.int .i64 q, .string key, .string value, .string old, .int .i64 num] 92)) 5 #[.int .u8 (q : Int)])) hb6 (by simp)))))
          all_goals
            refine exit_world (fun W => Below (wr.heap.size + 1) (wr.alloc (.cells #[.int .i64 q, .string key, .string value, .string old, .int .i64 num] 92)) W) ?_ fun W hW => ?_
            · first | exact hz | exact hz.drew | exact (hz.alloc (by omega) _) | exact (hz.alloc (by omega) _).drew
            clear hz c3 c4 c5 c6 c7 hcB
            have c3 := (hBy.out.below hW (by omega)).cell 0
            have c4 := (hBy.out.below hW (by omega)).cell 1
            have c5 := (hBy.out.below hW (by omega)).cell 2
            have c6 := (hBy.out.below hW (by omega)).cell 3
            have c7 := (hBy.out.below hW (by omega)).cell 4
            clear a1 a2
            have hqq : q = 1 ∨ q = 2 ∨ q = 3 ∨ q = 4 := by omega
            rcases hqq with hq | hq | hq | hq
            · have hfin : acc ++ (sput q ++ stxt key) ++ stxt value = sput k ++ gs.flatMap gBytes ++ sput n' ++ (ss.take (k' + 1)).flatMap sBytes := by rw [htk.out, ← hag.out, if_pos hq]; simp
              replace hfin := Lib.hid hfin
              subst hq
              go_wp2_with fail
              refine (hV.out _).mono ?_; rintro e w7 ⟨rfl, hb7⟩
              have hz7 := nx (B := wr.heap.size + 1) (a := wr.alloc (.cells #[.int .i64 (1 : Nat), .string key, .string value, .string old, .int .i64 num] 92)) hW (by simp) hb7
              have c3 := (hBy.out.below hz7 (by omega)).cell 0
              go_wp2_with fail
              go_roundw
              case rel => exact ⟨k' + 1, by go_num, by omega, by first | (rw [← hfin.out]; done) | (rw [← hfin.out]; rfl) | (rw [← hfin.out]; simp; done), (Below.alloc hb (by omega) _).trans (hz7.mono (by omega))⟩
              case measure => simp [intOf]; omega
            · have hfin : acc ++ (sput q ++ stxt key) = sput k ++ gs.flatMap gBytes ++ sput n' ++ (ss.take (k' + 1)).flatMap sBytes := by rw [htk.out, ← hag.out, if_neg (by omega), if_neg (by omega), if_neg (by omega)]; simp
              replace hfin := Lib.hid hfin
              subst hq
              go_wp2_with fail
              go_roundw
              case rel => exact ⟨k' + 1, by go_num, by omega, by first | (rw [← hfin.out]; done) | (rw [← hfin.out]; rfl) | (rw [← hfin.out]; simp; done), (Below.alloc hb (by omega) _).trans (hW.mono (by omega))⟩
              case measure => simp [intOf]; omega
            · have hfin : acc ++ (sput q ++ stxt key) ++ sput (zz num) = sput k ++ gs.flatMap gBytes ++ sput n' ++ (ss.take (k' + 1)).flatMap sBytes := by rw [htk.out, ← hag.out, if_neg (by omega), if_pos hq]; simp
              replace hfin := Lib.hid hfin
              subst hq
              go_wp2_with fail
              refine (hN.out _).mono ?_; rintro e w7 ⟨rfl, hb7⟩
              have hz7 := nx (B := wr.heap.size + 1) (a := wr.alloc (.cells #[.int .i64 (3 : Nat), .string key, .string value, .string old, .int .i64 num] 92)) hW (by simp) hb7
              go_wp2_with fail
              go_roundw
              case rel => exact ⟨k' + 1, by go_num, by omega, by first | (rw [← hfin.out]; done) | (rw [← hfin.out]; rfl) | (rw [← hfin.out]; simp; done), (Below.alloc hb (by omega) _).trans (hz7.mono (by omega))⟩
              case measure => simp [intOf]; omega
            · have hfin : acc ++ (sput q ++ stxt key) ++ (stxt old ++ stxt value) = sput k ++ gs.flatMap gBytes ++ sput n' ++ (ss.take (k' + 1)).flatMap sBytes := by rw [htk.out, ← hag.out, if_neg (by omega), if_neg (by omega), if_pos hq]; simp
              replace hfin := Lib.hid hfin
              subst hq
              go_wp2_with fail
              refine (hO.out _).mono ?_; rintro e w7 ⟨rfl, hb7⟩
              have hz7 := nx (B := wr.heap.size + 1) (a := wr.alloc (.cells #[.int .i64 (4 : Nat), .string key, .string value, .string old, .int .i64 num] 92)) hW (by simp) hb7
              clear c3 c4 c5 c6 c7
              have c3 := (hBy.out.below hz7 (by omega)).cell 0
              have c5 := (hBy.out.below hz7 (by omega)).cell 2
              go_wp2_with fail
              refine (hV.out _).mono ?_; rintro e w8 ⟨rfl, hb8⟩
              have hz8 := nx (B := wr.heap.size + 1) (a := wr.alloc (.cells #[.int .i64 (4 : Nat), .string key, .string value, .string old, .int .i64 num] 92)) hz7 (by simp) hb8
              clear c3 c5
              have c3 := (hBy.out.below hz8 (by omega)).cell 0
              go_wp2_with fail
              go_roundw
              case rel => exact ⟨k' + 1, by go_num, by omega, by first | (rw [← hfin.out]; done) | (rw [← hfin.out]; rfl) | (rw [← hfin.out]; simp; done), (Below.alloc hb (by omega) _).trans (hz8.mono (by omega))⟩
              case measure => simp [intOf]; omega
        · obtain rfl : k' = n' := by omega
          have hfin : sput k ++ (gs.flatMap gBytes ++ (sput k' ++ ss.flatMap sBytes)) = sput k ++ gs.flatMap gBytes ++ sput k' ++ (ss.take k').flatMap sBytes := by rw [List.take_of_length_le (l := ss) (by have := e2.out; omega)]; simp
          replace hfin := Lib.hid hfin
          go_wp2_with fail
          exact bodyPost_ret (results_tmp2 Tryd.results26 _ _ _) rfl ⟨by rw [hfin.out]; rfl, hB.out⟩
end Go.Proofs.YtpmnppjiipbonaaDoor
