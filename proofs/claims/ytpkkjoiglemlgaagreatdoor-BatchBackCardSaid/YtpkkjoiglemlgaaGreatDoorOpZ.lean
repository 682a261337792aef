import Derived.Test.YtpkkjoiglemlgaaGreatDoorOpX
import Derived.Deep.RegionWith
import Derived.Deep.RegionHeld3
import Derived.Test.YtpkkjoiglemlgaaGreatDoorOpP
/-
  opcode.Print and the document's. No condition.
-/
namespace Go.Proofs.YtpkkjoiglemlgaaGreatDoor
set_option linter.unusedVariables false
open Go.RowKit Go.Extern.Stop Go.Stop Go.Extern Go.ChangeShapes

theorem stxt_le {t : ByteArray} {m : Nat} (h : t.size ≤ m) (hm : m ≤ 1000000) : (stxt t).length ≤ m + 10 := by
  rw [stxt_len]
  have := sput_ten (n := t.size) (by omega)
  omega
theorem gBytes_le {g : OGuard} (h : gRight g = true) : (gBytes g).length ≤ 78 := by
  simp only [gRight, decide_eq_true_eq] at h
  obtain ⟨h1, h2, h3, h4, h5⟩ := h
  have a1 := sput_ten (n := g.kind.toNat) (by omega)
  have a2 := stxt_le h3 (by omega)
  have a3 := stxt_le h4 (by omega)
  unfold gBytes
  rw [List.length_append, List.length_append]
  split
  · omega
  · simp only [List.length_nil]; omega
theorem sBytes_le {x : OStep} (h : sRight x = true) (hf : sFit x) : (sBytes x).length ≤ 120 := by
  simp only [sRight, decide_eq_true_eq] at h
  obtain ⟨h1, h2, h3, h4, h5, _⟩ := h
  have a1 := sput_ten (n := x.kind.toNat) (by omega)
  have a2 := stxt_le h3 (by omega)
  have a3 := stxt_le h4 (by omega)
  have a4 := stxt_le h5 (by omega)
  have a5 := sput_ten (zz_lt hf.1 hf.2)
  unfold sBytes
  rw [List.length_append, List.length_append]
  split
  · omega
  · split
    · omega
    · split
      · rw [List.length_append]; omega
      · simp only [List.length_nil]; omega
theorem flat_le {α : Type} {f : α → List UInt8} {m : Nat} : ∀ {l : List α}, (∀ x ∈ l, (f x).length ≤ m) → (l.flatMap f).length ≤ m * l.length
  | [], _ => by simp
  | x :: l, h => by
    have h1 := h x (by simp)
    have h2 := flat_le (l := l) fun y hy => h y (by simp [hy])
    rw [List.flatMap_cons, List.length_append, List.length_cons, Nat.mul_succ]
    omega
theorem flat_take {α : Type} {f : α → List UInt8} {l : List α} {k : Nat} {x : α} (h : l[k]? = some x) : (l.take (k + 1)).flatMap f = (l.take k).flatMap f ++ f x := by
  rw [List.take_add_one, h]; simp
theorem flat_take_le {α : Type} {f : α → List UInt8} {m : Nat} {l : List α} (h : ∀ x ∈ l, (f x).length ≤ m) (k : Nat) : ((l.take k).flatMap f).length ≤ m * k := by
  have h1 := flat_le (l := l.take k) fun x hx => h x (List.mem_of_mem_take hx)
  have h2 : (l.take k).length ≤ k := by simp; omega
  exact Nat.le_trans h1 (Nat.mul_le_mul_left _ h2)
theorem str_of (s : ByteArray) (l : List UInt8) : bs l ++ s = bs (l ++ s.data.toList) := by
  apply ba_ext
  simp [bs]
/-- PutText, in one word. -/
theorem putTxt_any (t : ByteArray) (ht : t.size ≤ 1000000) (w : World) : Calls Tryz.prog 78 #[.string t] w fun e w' => e = .returned (strL (stxt t)) ∧ Below w.heap.size w w' := by
  have h := putText_any t ht w
  rw [str_of] at h
  exact h
theorem refPutTxt_any (t : ByteArray) (ht : t.size ≤ 1000000) (w : World) : Calls Tryz.prog 80 #[.string t] w fun e w' => e = .returned (strL (stxt t)) ∧ Below w.heap.size w w' := by
  have h := refPutText_any t ht w
  rw [str_of] at h
  exact h
theorem printO_wrong {w : World} {sv : Nat → Addr} (S : Sent w sv) (v : Value) (o : OOp) (h : OpIs w v o) (h1 : o.guards.length ≤ maxLen) (h2 : o.steps.length ≤ maxLen) (ho : oRight o = false) :
    Calls Tryz.prog 54 #[v] w fun e w' => e = .returned (.tuple #[.string ⟨#[]⟩, .iface 242 (.pointer (some (sv 7)))]) ∧ Below w.heap.size w w' := by
  obtain ⟨A, n, c, A', n', c', rfl, e1, e2, r1, r2⟩ := h
  have hA : Below w.heap.size w (w.alloc (.cells #[.slice A n c, .slice A' n' c'] 62)) := (Below.refl _ _).alloc (Nat.le_refl _) _
  have hI : OpIs (w.alloc (.cells #[.slice A n c, .slice A' n' c'] 62)) (.agg #[.slice A n c, .slice A' n' c']) o := OpIs.below ⟨A, n, c, A', n', c', rfl, e1, e2, r1, r2⟩ hA
  have hR := right_any _ o _ hI h1 h2
  rw [ho] at hR
  have hv := fun W (hW : Below w.heap.size w W) => (S.below hW).var 7 (by decide)
  replace hR := Lib.hid hR
  replace hv := Lib.hid hv
  replace hA := Lib.hid hA
  clear hI S r1 r2
  replace e1 := Lib.hid e1
  replace e2 := Lib.hid e2
  go_enter Tryz.func54, Tryz.ntmps54
  go_wp2_with fail
  refine (hR.out).mono ?_; rintro e w1 ⟨rfl, hb⟩
  have hB := Lib.hid (hA.out.trans (hb.mono (by simp)))
  have g7 : w1.cell? ⟨7, 0, none⟩ = some (.iface 242 (.pointer (some (sv 7)))) := hv.out _ hB.out
  go_wp2_with fail
  go_quiet (fail)
  go_wp2_with fail
  exact bodyPost_ret (results_tmp2 Tryz.results54 _ _ _) rfl ⟨rfl, by have := hB.out; (repeat first | exact Below.refl _ _ | assumption | refine Below.drew ?_ | refine below_drewN ?_ _ | refine Below.more_ ?_ _ | refine Below.setCell ?_ (by first | exact Nat.le_refl _ | (simp; done) | (simp; omega)) _)⟩
set_option maxRecDepth 100000 in
set_option maxHeartbeats 4000000 in
theorem printO_right (v : Value) (o : OOp) (w : World) (h : OpIs w v o) (hf : ∀ x ∈ o.steps, sFit x) (ho : oRight o = true) :
    Calls Tryz.prog 54 #[v] w fun e w' => e = .returned (.tuple #[strL (oBytes o), .nilIface]) ∧ Below w.heap.size w w' := by
  have ho' := ho
  obtain ⟨gs, ss⟩ := o
  simp only [oRight, Bool.and_eq_true, decide_eq_true_eq, List.all_eq_true] at ho'
  obtain ⟨⟨⟨⟨g1, g2⟩, g3⟩, g4⟩, g5⟩ := ho'
  have hR0 := fun W (hW : Below w.heap.size w W) => right_any v ⟨gs, ss⟩ W (h.below hW) (by unfold maxLen; simp only; omega) (by unfold maxLen; simp only; omega)
  rw [ho] at hR0
  obtain ⟨A, n, c, A', n', c', rfl, e1, e2, r1, r2⟩ := h
  simp only at e1 e2 r1 r2 hf
  have hA : Below w.heap.size w (w.alloc (.cells #[.slice A n c, .slice A' n' c'] 62)) := (Below.refl _ _).alloc (Nat.le_refl _) _
  have hBx := Lib.hid (Blk.new w 62 #[.slice A n c, .slice A' n' c'])
  have n4 : n ≤ 4 := by omega
  have m4 : n' ≤ 4 := by omega
  have m1 : 1 ≤ n' := by omega
  have n4' := Lib.hid n4
  have m4' := Lib.hid m4
  have bG := Lib.hid (fun k => flat_take_le (f := gBytes) (l := gs) (fun x hx => gBytes_le (g4 x hx)) k)
  have bS := Lib.hid (fun k => flat_take_le (f := sBytes) (l := ss) (fun x hx => sBytes_le (g5 x hx) (hf x hx)) k)
  have hoB : oBytes ⟨gs, ss⟩ = sput n ++ (gs.flatMap gBytes ++ (sput n' ++ ss.flatMap sBytes)) := by unfold oBytes; rw [e1, e2]
  rw [hoB]
  have p1 := sput_ten (n := n) (by omega)
  have p2 := sput_ten (n := n') (by omega)
  have P1 := Lib.hid (fun w => put_any n (by omega) w)
  have P2 := Lib.hid (fun w => put_any n' (by omega) w)
  clear g1 g2 g3
  replace hoB := Lib.hid hoB
  replace hR0 := Lib.hid hR0
  replace hA := Lib.hid hA
  replace r1 := Lib.hid r1
  replace r2 := Lib.hid r2
  replace e1 := Lib.hid e1
  replace e2 := Lib.hid e2
  replace g4 := Lib.hid g4
  replace g5 := Lib.hid g5
  replace hf := Lib.hid hf
  replace ho := Lib.hid ho
  go_enter Tryz.func54, Tryz.ntmps54
  go_wp2_with fail
  refine (hR0.out _ hA.out).mono ?_; rintro e w1 ⟨rfl, hb1⟩
  have hc1 := hb1
  simp only [World.size_alloc] at hc1
  have c0 := (hBx.out.below hb1 (by simp)).cell 0
  have c1 := (hBx.out.below hb1 (by simp)).cell 1
  go_wp2_with fail
  refine (P1.out _).mono ?_; rintro e w2 ⟨rfl, hb2⟩
  have hc2 := nx hc1 (by simp) hb2
  clear c0 c1
  have c0 := (hBx.out.below hc2 (by omega)).cell 0
  have c1 := (hBx.out.below hc2 (by omega)).cell 1
  go_wp2_with fail
  go_loopw [4, 21] (fun o i wr => ∃ k : Nat, i = .int .i64 k ∧ k ≤ n ∧ o = strL (sput n ++ (gs.take k).flatMap gBytes) ∧ Below (w.heap.size + 1) (w.alloc (.cells #[.slice A n c, .slice A' n' c'] 62)) wr) (fun _ i _ => n + 1 - (intOf i).toNat)
  case atStart => exact ⟨0, rfl, by omega, by simp, hc2⟩
  case round =>
    obtain ⟨k, rfl, hk, rfl, hb⟩ := hrel
    have hB := Lib.hid (hA.out.trans (hb.mono (by omega)))
    by_cases hlt : k < n
    · obtain ⟨ad, x, rfl, hadb, hx, hc⟩ := g3_at r1.out e1.out hlt
      have hgx := g4.out x (List.mem_of_getElem? hx)
      have htk := Lib.hid (flat_take (f := gBytes) hx)
      have hbl := bG.out k
      have hws := hb.size
      simp only [World.size_alloc] at hws
      obtain ⟨k0, key, value⟩ := x
      obtain ⟨q, rfl⟩ : ∃ q : Nat, k0 = q := ⟨k0.toNat, by simp only [gRight, decide_eq_true_eq] at hgx; omega⟩
      obtain ⟨d0, d1, d2⟩ := hc _ hB.out
      have hgb : gBytes ⟨q, key, value⟩ = sput q ++ (stxt key ++ if q = 3 then stxt value else []) := by unfold gBytes; simp only [Int.toNat_natCast]; by_cases hq : q = 3 <;> simp [hq] <;> omega
      simp only [gRight, decide_eq_true_eq] at hgx
      obtain ⟨y1, y2, y3, y4, _⟩ := hgx
      rw [hgb] at htk
      replace hgb := Lib.hid hgb
      have b1 := sput_ten (n := q) (by omega)
      have b2 := stxt_le y3 (by omega)
      have b3 := stxt_le y4 (by omega)
      have hacc : (sput n ++ (gs.take k).flatMap gBytes).length ≤ 400 := by rw [List.length_append]; have := n4'.out; omega
      generalize hag : sput n ++ (gs.take k).flatMap gBytes = acc at *
      replace hag := Lib.hid hag
      have hP := Lib.hid (fun w => put_any q (by omega) w)
      have hT := Lib.hid (fun w => putTxt_any key (by omega) w)
      have hV := Lib.hid (fun w => putTxt_any value (by omega) w)
      have a1 := fun W => add_str W (sput q) (stxt key) (by omega)
      have a2 := fun W => add_str W acc (sput q ++ stxt key) (by rw [List.length_append]; omega)
      have a3 := fun W => add_str W (acc ++ (sput q ++ stxt key)) (stxt value) (by rw [List.length_append, List.length_append]; omega)
      have hBy := Lib.hid (Blk.new wr 94 #[.int .i64 q, .string key, .string value])
      clear hc
      replace hx := Lib.hid hx
      have i1 : (0 : Int) ≤ (k : Int) := by omega
      have i2 : (k : Int) < (n : Int) := by omega
      have hwk : IntKind.u64.wrap (q : Int) = q := by rw [IntKind.wrap_u64]; omega
      have hd0 : Below (wr.heap.size + 1) (wr.alloc (.cells #[.int .i64 q, .string key, .string value] 94)) (wr.alloc (.cells #[.int .i64 q, .string key, .string value] 94)).drew := (Below.refl _ _).drew
      go_wp2_with fail
      go_region_held3 (fun W => Below (wr.heap.size + 1) (wr.alloc (.cells #[.int .i64 q, .string key, .string value] 94)) W ∧ W.cell? ⟨wr.heap.size, 0, none⟩ = some (.int .i64 q) ∧ W.cell? ⟨wr.heap.size, 1, none⟩ = some (.string key))
        (first | assumption | go_keep)
        (first
          | (go_at_call 53; refine (hP.out _).mono ?_; rintro e w6 ⟨rfl, hb6⟩; have hz := nx (B := wr.heap.size + 1) (a := wr.alloc (.cells #[.int .i64 q, .string key, .string value] 94)) (by assumption) (by simp) hb6; have c3 := (hBy.out.below hz (by omega)).cell 0; have c4 := (hBy.out.below hz (by omega)).cell 1; have c5 := (hBy.out.below hz (by omega)).cell 2)
          | (go_at_call 78; refine (hT.out _).mono ?_; rintro e w6 ⟨rfl, hb6⟩; have hz := nx (B := wr.heap.size + 1) (a := wr.alloc (.cells #[.int .i64 q, .string key, .string value] 94)) (by assumption) (by simp) hb6; have c3 := (hBy.out.below hz (by omega)).cell 0; have c4 := (hBy.out.below hz (by omega)).cell 1; have c5 := (hBy.out.below hz (by omega)).cell 2))
      all_goals
        clear hd0
        by_cases hq : q = 3
        · have hfin : acc ++ (sput q ++ stxt key) ++ stxt value = sput n ++ (gs.take (k + 1)).flatMap gBytes := by rw [htk.out, ← hag.out, if_pos hq]; simp
          replace hfin := Lib.hid hfin
          subst hq
          go_wp2_with fail
          refine (hV.out _).mono ?_; rintro e w7 ⟨rfl, hb7⟩
          have hz7 := nx (B := wr.heap.size + 1) (a := wr.alloc (.cells #[.int .i64 (3 : Nat), .string key, .string value] 94)) (by assumption) (by simp) hb7
          go_wp2_with fail
          go_roundw
          case rel => exact ⟨k + 1, by go_num, by omega, by first | (rw [← hfin.out]; done) | (rw [← hfin.out]; rfl) | (rw [← hfin.out]; simp; done), (Below.alloc hb (by omega) _).trans (hz7.mono (by omega))⟩
          case measure => simp [intOf]; omega
        · have hfin : acc ++ (sput q ++ stxt key) = sput n ++ (gs.take (k + 1)).flatMap gBytes := by rw [htk.out, ← hag.out, if_neg hq]; simp
          replace hfin := Lib.hid hfin
          have hqb : ((q : Int) == 3) = false := beq_eq_false_iff_ne.2 (by omega)
          go_wp2_with fail
          go_roundw
          case rel => exact ⟨k + 1, by go_num, by omega, by first | (rw [← hfin.out]; done) | (rw [← hfin.out]; rfl) | (rw [← hfin.out]; simp; done), (Below.alloc hb (by omega) _).trans (Below.mono (by assumption) (by omega))⟩
          case measure => simp [intOf]; omega
    · obtain rfl : k = n := by omega
      have htop : (gs.take k).flatMap gBytes = gs.flatMap gBytes := by rw [List.take_of_length_le (by have := e1.out; omega)]
      have hbl := bG.out k
      rw [htop] at *
      replace htop := Lib.hid htop
      have hgl : (gs.flatMap gBytes).length ≤ 312 := by have := n4'.out; omega
      have c0 := (hBx.out.below hb (by omega)).cell 0
      have c1 := (hBx.out.below hb (by omega)).cell 1
      have a1 := fun W => add_str W (sput k ++ gs.flatMap gBytes) (sput n') (by rw [List.length_append]; omega)
      go_wp2_with fail
      refine (P2.out _).mono ?_; rintro e w4 ⟨rfl, hb4⟩
      have hc4 := nx hb (by simp) hb4
      clear c0 c1
      have c0 := (hBx.out.below hc4 (by omega)).cell 0
      have c1 := (hBx.out.below hc4 (by omega)).cell 1
      go_wp2_with fail
      go_loopw [4, 54] (fun o i wq => ∃ k' : Nat, i = .int .i64 k' ∧ k' ≤ n' ∧ o = strL (sput k ++ gs.flatMap gBytes ++ sput n' ++ (ss.take k').flatMap sBytes) ∧ Below (w.heap.size + 1) (w.alloc (.cells #[.slice A k c, .slice A' n' c'] 62)) wq) (fun _ i _ => n' + 1 - (intOf i).toNat)
      case atStart => exact ⟨0, rfl, by omega, by simp, hc4⟩
      case round =>
        clear a1 c0 c1 hB hb
        obtain ⟨k', rfl, hk', rfl, hb⟩ := hrel
        have hB := Lib.hid (hA.out.trans (hb.mono (by omega)))
        by_cases hlt' : k' < n'
        · obtain ⟨ad, x, rfl, hadb, hx, hc⟩ := s5_at r2.out e2.out hlt'
          have hgx := g5.out x (List.mem_of_getElem? hx)
          have hfx := hf.out x (List.mem_of_getElem? hx)
          have htk := Lib.hid (flat_take (f := sBytes) hx)
          have hbl2 := bS.out k'
          have hws := hb.size
          simp only [World.size_alloc] at hws
          obtain ⟨k0, key, value, old, num⟩ := x
          obtain ⟨q, rfl⟩ : ∃ q : Nat, k0 = q := ⟨k0.toNat, by simp only [sRight, decide_eq_true_eq] at hgx; omega⟩
          obtain ⟨d0, d1, d2, d3, d4⟩ := hc _ hB.out
          have hgb : sBytes ⟨q, key, value, old, num⟩ = sput q ++ (stxt key ++ if q = 1 then stxt value else if q = 3 then sput (zz num) else if q = 4 then stxt old ++ stxt value else []) := by
            unfold sBytes; simp only [Int.toNat_natCast]
            by_cases h1 : q = 1
            · subst h1; rfl
            · by_cases h3 : q = 3
              · subst h3; rfl
              · by_cases h4 : q = 4
                · subst h4; rfl
                · rw [if_neg (by omega), if_neg (by omega), if_neg (by omega), if_neg h1, if_neg h3, if_neg h4]
          simp only [sRight, decide_eq_true_eq] at hgx
          obtain ⟨y1, y2, y3, y4, y5, _⟩ := hgx
          obtain ⟨f1, f2⟩ := hfx
          simp only at f1 f2
          rw [hgb] at htk
          replace hgb := Lib.hid hgb
          have b1 := sput_ten (n := q) (by omega)
          have b2 := stxt_le y3 (by omega)
          have b3 := stxt_le y4 (by omega)
          have b4 := stxt_le y5 (by omega)
          have b5 := sput_ten (zz_lt f1 f2)
          have hacc : (sput k ++ gs.flatMap gBytes ++ sput n' ++ (ss.take k').flatMap sBytes).length ≤ 900 := by rw [List.length_append, List.length_append, List.length_append]; have := m4'.out; omega
          generalize hag : sput k ++ gs.flatMap gBytes ++ sput n' ++ (ss.take k').flatMap sBytes = acc at *
          replace hag := Lib.hid hag
          have hP := Lib.hid (fun w => put_any q (by omega) w)
          have hT := Lib.hid (fun w => putTxt_any key (by omega) w)
          have hV := Lib.hid (fun w => putTxt_any value (by omega) w)
          have hO := Lib.hid (fun w => putTxt_any old (by omega) w)
          have hN := Lib.hid (fun w => putInt_any num f1 f2 w)
          have a1 := fun W => add_str W (sput q) (stxt key) (by omega)
          have a2 := fun W => add_str W acc (sput q ++ stxt key) (by rw [List.length_append]; omega)
          have a3 := fun W => add_str W (acc ++ (sput q ++ stxt key)) (stxt value) (by rw [List.length_append, List.length_append]; omega)
          have a4 := fun W => add_str W (acc ++ (sput q ++ stxt key)) (sput (zz num)) (by rw [List.length_append, List.length_append]; omega)
          have a5 := fun W => add_str W (stxt old) (stxt value) (by omega)
          have a6 := fun W => add_str W (acc ++ (sput q ++ stxt key)) (stxt old ++ stxt value) (by rw [List.length_append, List.length_append, List.length_append]; omega)
          have hBy := Lib.hid (Blk.new wr 96 #[.int .i64 q, .string key, .string value, .string old, .int .i64 num])
          clear hc
          replace hx := Lib.hid hx
          have i1 : (0 : Int) ≤ (k' : Int) := by omega
          have i2 : (k' : Int) < (n' : Int) := by omega
          have hwk : IntKind.u64.wrap (q : Int) = q := by rw [IntKind.wrap_u64]; omega
          have hd0 : Below (wr.heap.size + 1) (wr.alloc (.cells #[.int .i64 q, .string key, .string value, .string old, .int .i64 num] 96)) (wr.alloc (.cells #[.int .i64 q, .string key, .string value, .string old, .int .i64 num] 96)).drew := (Below.refl _ _).drew
          go_wp2_with fail
          go_region_held3 (fun W => Below (wr.heap.size + 1) (wr.alloc (.cells #[.int .i64 q, .string key, .string value, .string old, .int .i64 num] 96)) W ∧ W.cell? ⟨wr.heap.size, 0, none⟩ = some (.int .i64 q) ∧ W.cell? ⟨wr.heap.size, 1, none⟩ = some (.string key))
            (first | assumption | go_keep)
            (first
              | (go_at_call 53; refine (hP.out _).mono ?_; rintro e w6 ⟨rfl, hb6⟩; have hz := nx (B := wr.heap.size + 1) (a := wr.alloc (.cells #[.int .i64 q, .string key, .string value, .string old, .int .i64 num] 96)) (by assumption) (by simp) hb6; have c3 := (hBy.out.below hz (by omega)).cell 0; have c4 := (hBy.out.below hz (by omega)).cell 1; have c5 := (hBy.out.below hz (by omega)).cell 2; have c6 := (hBy.out.below hz (by omega)).cell 3; have c7 := (hBy.out.below hz (by omega)).cell 4)
              | (go_at_call 78; refine (hT.out _).mono ?_; rintro e w6 ⟨rfl, hb6⟩; have hz := nx (B := wr.heap.size + 1) (a := wr.alloc (.cells #[.int .i64 q, .string key, .string value, .string old, .int .i64 num] 96)) (by assumption) (by simp) hb6; have c3 := (hBy.out.below hz (by omega)).cell 0; have c4 := (hBy.out.below hz (by omega)).cell 1; have c5 := (hBy.out.below hz (by omega)).cell 2; have c6 := (hBy.out.below hz (by omega)).cell 3; have c7 := (hBy.out.below hz (by omega)).cell 4))
          all_goals
            clear hd0 a1 a2
            have hqq : q = 1 ∨ q = 2 ∨ q = 3 ∨ q = 4 := by omega
            rcases hqq with hq | hq | hq | hq
            · have hfin : acc ++ (sput q ++ stxt key) ++ stxt value = sput k ++ gs.flatMap gBytes ++ sput n' ++ (ss.take (k' + 1)).flatMap sBytes := by rw [htk.out, ← hag.out, if_pos hq]; simp
              replace hfin := Lib.hid hfin
              subst hq
              go_wp2_with fail
              refine (hV.out _).mono ?_; rintro e w7 ⟨rfl, hb7⟩
              have hz7 := nx (B := wr.heap.size + 1) (a := wr.alloc (.cells #[.int .i64 (1 : Nat), .string key, .string value, .string old, .int .i64 num] 96)) (by assumption) (by simp) hb7
              go_wp2_with fail
              go_roundw
              case rel => exact ⟨k' + 1, by go_num, by omega, by first | (rw [← hfin.out]; done) | (rw [← hfin.out]; rfl) | (rw [← hfin.out]; simp; done), (Below.alloc hb (by omega) _).trans (hz7.mono (by omega))⟩
              case measure => simp [intOf]; omega
            · have hfin : acc ++ (sput q ++ stxt key) = sput k ++ gs.flatMap gBytes ++ sput n' ++ (ss.take (k' + 1)).flatMap sBytes := by rw [htk.out, ← hag.out, if_neg (by omega), if_neg (by omega), if_neg (by omega)]; simp
              replace hfin := Lib.hid hfin
              subst hq
              go_wp2_with fail
              go_roundw
              case rel => exact ⟨k' + 1, by go_num, by omega, by first | (rw [← hfin.out]; done) | (rw [← hfin.out]; rfl) | (rw [← hfin.out]; simp; done), (Below.alloc hb (by omega) _).trans (Below.mono (by assumption) (by omega))⟩
              case measure => simp [intOf]; omega
            · have hfin : acc ++ (sput q ++ stxt key) ++ sput (zz num) = sput k ++ gs.flatMap gBytes ++ sput n' ++ (ss.take (k' + 1)).flatMap sBytes := by rw [htk.out, ← hag.out, if_neg (by omega), if_pos hq]; simp
              replace hfin := Lib.hid hfin
              subst hq
              go_wp2_with fail
              refine (hN.out _).mono ?_; rintro e w7 ⟨rfl, hb7⟩
              have hz7 := nx (B := wr.heap.size + 1) (a := wr.alloc (.cells #[.int .i64 (3 : Nat), .string key, .string value, .string old, .int .i64 num] 96)) (by assumption) (by simp) hb7
              go_wp2_with fail
              go_roundw
              case rel => exact ⟨k' + 1, by go_num, by omega, by first | (rw [← hfin.out]; done) | (rw [← hfin.out]; rfl) | (rw [← hfin.out]; simp; done), (Below.alloc hb (by omega) _).trans (hz7.mono (by omega))⟩
              case measure => simp [intOf]; omega
            · have hfin : acc ++ (sput q ++ stxt key) ++ (stxt old ++ stxt value) = sput k ++ gs.flatMap gBytes ++ sput n' ++ (ss.take (k' + 1)).flatMap sBytes := by rw [htk.out, ← hag.out, if_neg (by omega), if_neg (by omega), if_pos hq]; simp
              replace hfin := Lib.hid hfin
              subst hq
              have hd1 : Below (wr.heap.size + 1) (wr.alloc (.cells #[.int .i64 (4 : Nat), .string key, .string value, .string old, .int .i64 num] 96)) w6.drew := hz.drew
              have hz0 : Below (wr.heap.size + 1) (wr.alloc (.cells #[.int .i64 (4 : Nat), .string key, .string value, .string old, .int .i64 num] 96)) w6 := hz
              have hBy4 : Hid (Blk (wr.alloc (.cells #[.int .i64 (4 : Nat), .string key, .string value, .string old, .int .i64 num] 96)) wr.heap.size 96 #[.int .i64 (4 : Nat), .string key, .string value, .string old, .int .i64 num]) := hBy
              go_wp2_with fail
              go_region_held3 (fun W => Below (wr.heap.size + 1) (wr.alloc (.cells #[.int .i64 (4 : Nat), .string key, .string value, .string old, .int .i64 num] 96)) W ∧ W.cell? ⟨wr.heap.size, 2, none⟩ = some (.string value) ∧ W.cell? ⟨wr.heap.size, 3, none⟩ = some (.string old))
                (first | assumption | (refine ⟨?_, ?_, ?_⟩ <;> first | assumption | go_keep))
                (first
                  | (go_at_call 78; refine (putTxt_any _ ?hs _).mono ?_; (case hs => omega); rintro e w8 ⟨rfl, hb8⟩; have hz8 := nx (B := wr.heap.size + 1) (a := wr.alloc (.cells #[.int .i64 (4 : Nat), .string key, .string value, .string old, .int .i64 num] 96)) (by assumption) (by simp) hb8; have c8 := (hBy4.out.below hz8 (by omega)).cell 2; have c9 := (hBy4.out.below hz8 (by omega)).cell 3))
              all_goals
                go_wp2_with fail
                go_roundw
                case rel => exact ⟨k' + 1, by go_num, by omega, by first | (rw [← hfin.out]; done) | (rw [← hfin.out]; rfl) | (rw [← hfin.out]; simp; done), (Below.alloc hb (by omega) _).trans (hz8.mono (by omega))⟩
                case measure => simp [intOf]; omega
        · obtain rfl : k' = n' := by omega
          have hfin : sput k ++ (gs.flatMap gBytes ++ (sput k' ++ ss.flatMap sBytes)) = sput k ++ gs.flatMap gBytes ++ sput k' ++ (ss.take k').flatMap sBytes := by rw [List.take_of_length_le (l := ss) (by have := e2.out; omega)]; simp
          replace hfin := Lib.hid hfin
          go_wp2_with fail
          exact bodyPost_ret (results_tmp2 Tryz.results54 _ _ _) rfl ⟨by rw [hfin.out]; rfl, hB.out⟩
end Go.Proofs.YtpkkjoiglemlgaaGreatDoor

/-
  How long a right operation's bytes are (layer 9). No condition.
-/
namespace Go.Proofs.YtpkkjoiglemlgaaGreatDoor
set_option linter.unusedVariables false
theorem oflat_le {α : Type} (f : α → List UInt8) (m : Nat) : ∀ l : List α, (∀ x ∈ l, (f x).length ≤ m) → (l.flatMap f).length ≤ l.length * m
  | [], _ => by simp
  | x :: l, h => by
    have h1 := h x (by simp)
    have h2 := oflat_le f m l (fun y hy => h y (by simp [hy]))
    rw [List.flatMap_cons, List.length_append, List.length_cons, Nat.succ_mul]
    omega
theorem gBytes_len {g : OGuard} (h : gRight g = true) : (gBytes g).length ≤ 200 := by
  simp only [gRight, decide_eq_true_eq] at h
  have a1 := sput_ten (n := g.kind.toNat) (by omega)
  have a2 := sput_ten (n := g.key.size) (by omega)
  have a3 := sput_ten (n := g.value.size) (by omega)
  unfold gBytes
  split <;> simp only [List.length_append, stxt_len, List.length_nil] <;> omega
theorem sBytes_len {x : OStep} (h : sRight x = true) (hf : sFit x) : (sBytes x).length ≤ 200 := by
  simp only [sRight, decide_eq_true_eq] at h
  obtain ⟨f1, f2⟩ := hf
  have a1 := sput_ten (n := x.kind.toNat) (by omega)
  have a2 := sput_ten (n := x.key.size) (by omega)
  have a3 := sput_ten (n := x.value.size) (by omega)
  have a4 := sput_ten (n := x.old.size) (by omega)
  have a5 := sput_ten (n := zz x.n) (by unfold zz; split <;> omega)
  unfold sBytes
  split
  · simp only [List.length_append, stxt_len]; omega
  · split
    · simp only [List.length_append, stxt_len]; omega
    · split
      · simp only [List.length_append, stxt_len]; omega
      · simp only [List.length_append, stxt_len, List.length_nil]; omega
theorem oBytes_len {o : OOp} (ho : oRight o = true) (hf : ∀ x ∈ o.steps, sFit x) : (oBytes o).length ≤ 2000 := by
  obtain ⟨gs, ss⟩ := o
  simp only [oRight, Bool.and_eq_true, decide_eq_true_eq, List.all_eq_true] at ho
  obtain ⟨⟨⟨⟨g1, g2⟩, g3⟩, g4⟩, g5⟩ := ho
  have a1 := sput_ten (n := gs.length) (by omega)
  have a2 := sput_ten (n := ss.length) (by omega)
  have b1 := oflat_le gBytes 200 gs (fun x hx => gBytes_len (g4 x hx))
  have b2 := oflat_le sBytes 200 ss (fun x hx => sBytes_len (g5 x hx) (hf x hx))
  unfold oBytes
  simp only [List.length_append]
  omega
end Go.Proofs.YtpkkjoiglemlgaaGreatDoor

/-
  The document's Print. No condition.
-/
namespace Go.Proofs.YtpkkjoiglemlgaaGreatDoor
set_option linter.unusedVariables false
open Go.RowKit Go.Extern.Stop Go.Stop Go.Extern Go.ChangeShapes

theorem conv_sput {W : World} {g q : Nat} (hq : q < 128) (h : Blk W g 5 #[.int .u8 (q : Int)]) : (convert 128 9 (.slice (some ⟨g, 0, none⟩) 1 1)).run Tryz.prog W = .ok (.string (bs (sput q))) W := by
  rw [sput_small hq]
  refine run_convert_bytes_back _ 128 9 5 ⟨g, 0, none⟩ 1 [UInt8.ofNat q] Tryz.underlying128 Tryz.underlying5 Tryz.underlying9 fun j hj => ?_
  obtain rfl : j = 0 := by simpa using hj
  have hc := h.cell 0
  have hq2 : (UInt8.ofNat q).toNat = q := by simp; omega
  simp only [Addr.add, List.getElem_cons_zero, hq2]
  exact hc
theorem exit_world {Q : Exit → Act → World → Prop} {e : Exit} {a : Act} {W : World} (P : World → Prop) (h : P W) (k : ∀ W, P W → Q e a W) : Q e a W := k W h
theorem refPrintO_wrong (v : Value) (o : OOp) (w : World) (h : OpIs w v o) (h1 : o.guards.length ≤ maxLen) (h2 : o.steps.length ≤ maxLen) (ho : oRight o = false) :
    Calls Tryz.prog 56 #[v] w fun e w' => e = .returned (.tuple #[.string ⟨#[]⟩, .int .i64 8]) ∧ Below w.heap.size w w' := by
  obtain ⟨A, n, c, A', n', c', rfl, e1, e2, r1, r2⟩ := h
  have hA : Below w.heap.size w (w.alloc (.cells #[.slice A n c, .slice A' n' c'] 62)) := (Below.refl _ _).alloc (Nat.le_refl _) _
  have hI : OpIs (w.alloc (.cells #[.slice A n c, .slice A' n' c'] 62)) (.agg #[.slice A n c, .slice A' n' c']) o := OpIs.below ⟨A, n, c, A', n', c', rfl, e1, e2, r1, r2⟩ hA
  have hR := refRight_any _ o _ hI h1 h2
  rw [ho] at hR
  replace hR := Lib.hid hR
  replace hA := Lib.hid hA
  clear hI r1 r2
  replace e1 := Lib.hid e1
  replace e2 := Lib.hid e2
  go_enter Tryz.func56, Tryz.ntmps56
  go_wp2_with fail
  refine (hR.out).mono ?_; rintro e w1 ⟨rfl, hb⟩
  go_wp2_with fail
  exact bodyPost_ret (results_tmp2 Tryz.results56 _ _ _) rfl ⟨rfl, hA.out.trans (hb.mono (by simp))⟩
set_option maxRecDepth 100000 in
set_option maxHeartbeats 8000000 in
theorem refPrintO_right (v : Value) (o : OOp) (w : World) (h : OpIs w v o) (hf : ∀ x ∈ o.steps, sFit x) (ho : oRight o = true) :
    Calls Tryz.prog 56 #[v] w fun e w' => e = .returned (.tuple #[strL (oBytes o), .int .i64 0]) ∧ Below w.heap.size w w' := by
  have ho' := ho
  obtain ⟨gs, ss⟩ := o
  simp only [oRight, Bool.and_eq_true, decide_eq_true_eq, List.all_eq_true] at ho'
  obtain ⟨⟨⟨⟨g1, g2⟩, g3⟩, g4⟩, g5⟩ := ho'
  have hR0 := fun W (hW : Below w.heap.size w W) => refRight_any v ⟨gs, ss⟩ W (h.below hW) (by unfold maxLen; simp only; omega) (by unfold maxLen; simp only; omega)
  rw [ho] at hR0
  obtain ⟨A, n, c, A', n', c', rfl, e1, e2, r1, r2⟩ := h
  simp only at e1 e2 r1 r2 hf
  have hA : Below w.heap.size w (w.alloc (.cells #[.slice A n c, .slice A' n' c'] 62)) := (Below.refl _ _).alloc (Nat.le_refl _) _
  have hBx := Lib.hid (Blk.new w 62 #[.slice A n c, .slice A' n' c'])
  have n4 : n ≤ 4 := by omega
  have m4 : n' ≤ 4 := by omega
  have m1 : 1 ≤ n' := by omega
  have n4' := Lib.hid n4
  have m4' := Lib.hid m4
  have bG := Lib.hid (fun k => flat_take_le (f := gBytes) (l := gs) (fun x hx => gBytes_le (g4 x hx)) k)
  have bS := Lib.hid (fun k => flat_take_le (f := sBytes) (l := ss) (fun x hx => sBytes_le (g5 x hx) (hf x hx)) k)
  have hoB : oBytes ⟨gs, ss⟩ = sput n ++ (gs.flatMap gBytes ++ (sput n' ++ ss.flatMap sBytes)) := by unfold oBytes; rw [e1, e2]
  rw [hoB]
  have p1 := sput_ten (n := n) (by omega)
  have p2 := sput_ten (n := n') (by omega)
  clear g1 g2 g3
  replace hoB := Lib.hid hoB
  replace hR0 := Lib.hid hR0
  replace hA := Lib.hid hA
  replace r1 := Lib.hid r1
  replace r2 := Lib.hid r2
  replace e1 := Lib.hid e1
  replace e2 := Lib.hid e2
  replace g4 := Lib.hid g4
  replace g5 := Lib.hid g5
  replace hf := Lib.hid hf
  replace ho := Lib.hid ho
  go_enter Tryz.func56, Tryz.ntmps56
  go_wp2_with fail
  refine (hR0.out _ hA.out).mono ?_; rintro e w1 ⟨rfl, hb1⟩
  have hc1 := hb1
  simp only [World.size_alloc] at hc1
  have c0 := (hBx.out.below hb1 (by simp)).cell 0
  have c1 := (hBx.out.below hb1 (by simp)).cell 1
  have hcv := conv_sput (q := n) (by omega) (Blk.new w1 5 #[.int .u8 (n : Int)])
  have hwn : IntKind.u8.wrap (n : Int) = n := by rw [IntKind.wrap_u8]; omega
  go_wp2_with fail
  clear c0 c1 hcv
  have hs1 := hc1.size
  simp only [World.size_alloc] at hs1
  go_loopw [4, 5] (fun o i wr => ∃ k : Nat, i = .int .i64 k ∧ k ≤ n ∧ o = strL (sput n ++ (gs.take k).flatMap gBytes) ∧ Below (w.heap.size + 1) (w.alloc (.cells #[.slice A n c, .slice A' n' c'] 62)) wr) (fun _ i _ => n + 1 - (intOf i).toNat)
  case atStart => exact ⟨0, rfl, by omega, by simp, Below.alloc hc1 (by omega) _⟩
  case round =>
    obtain ⟨k, rfl, hk, rfl, hb⟩ := hrel
    have hB := Lib.hid (hA.out.trans (hb.mono (by omega)))
    have c0 := (hBx.out.below hb (by omega)).cell 0
    have c1 := (hBx.out.below hb (by omega)).cell 1
    have hws := hb.size
    simp only [World.size_alloc] at hws
    by_cases hlt : k < n
    · obtain ⟨ad, x, rfl, hadb, hx, hc⟩ := g3_at r1.out e1.out hlt
      have hgx := g4.out x (List.mem_of_getElem? hx)
      have htk := Lib.hid (flat_take (f := gBytes) hx)
      have hbl := bG.out k
      obtain ⟨k0, key, value⟩ := x
      obtain ⟨q, rfl⟩ : ∃ q : Nat, k0 = q := ⟨k0.toNat, by simp only [gRight, decide_eq_true_eq] at hgx; omega⟩
      obtain ⟨d0, d1, d2⟩ := hc _ hB.out
      have hgb : gBytes ⟨q, key, value⟩ = sput q ++ (stxt key ++ if q = 3 then stxt value else []) := by unfold gBytes; simp only [Int.toNat_natCast]; by_cases hq : q = 3 <;> simp [hq] <;> omega
      simp only [gRight, decide_eq_true_eq] at hgx
      obtain ⟨y1, y2, y3, y4, _⟩ := hgx
      rw [hgb] at htk
      replace hgb := Lib.hid hgb
      have b1 := sput_ten (n := q) (by omega)
      have b2 := stxt_le y3 (by omega)
      have b3 := stxt_le y4 (by omega)
      have hacc : (sput n ++ (gs.take k).flatMap gBytes).length ≤ 400 := by rw [List.length_append]; have := n4'.out; omega
      generalize hag : sput n ++ (gs.take k).flatMap gBytes = acc at *
      replace hag := Lib.hid hag
      have hT := Lib.hid (fun w => refPutTxt_any key (by omega) w)
      have hV := Lib.hid (fun w => refPutTxt_any value (by omega) w)
      have a1 := fun W => add_str W acc (sput q) (by omega)
      have a2 := fun W => add_str W (acc ++ sput q) (stxt key) (by rw [List.length_append]; omega)
      have a3 := fun W => add_str W (acc ++ sput q ++ stxt key) (stxt value) (by rw [List.length_append, List.length_append]; omega)
      rw [List.append_assoc] at a2 a3
      have hBy := Lib.hid (Blk.new wr 94 #[.int .i64 q, .string key, .string value])
      clear hc
      replace hx := Lib.hid hx
      have i1 : (0 : Int) ≤ (k : Int) := by omega
      have i2 : (k : Int) < (n : Int) := by omega
      have hwk : IntKind.u8.wrap (q : Int) = q := by rw [IntKind.wrap_u8]; omega
      have hcA : (convert 128 9 (.slice (some ⟨wr.heap.size + 1, 0, none⟩) 1 1)).run Tryz.prog (((wr.alloc (.cells #[.int .i64 q, .string key, .string value] 94)).alloc (.cells #[.int .u8 (q : Int)] 5)).drew) = .ok (.string (bs (sput q))) (((wr.alloc (.cells #[.int .i64 q, .string key, .string value] 94)).alloc (.cells #[.int .u8 (q : Int)] 5)).drew) := conv_sput (by omega) (Blk.drew (by simpa using Blk.new (wr.alloc (.cells #[.int .i64 q, .string key, .string value] 94)) 5 #[.int .u8 (q : Int)]))
      have hd0 : Below (wr.heap.size + 1) (wr.alloc (.cells #[.int .i64 q, .string key, .string value] 94)) (wr.alloc (.cells #[.int .i64 q, .string key, .string value] 94)).drew := (Below.refl _ _).drew
      go_wp2_with fail
      clear c0 c1 d0 d1 d2
      go_region_with (first
        | (go_at_call 80; refine (hT.out _).mono ?_; rintro e w6 ⟨rfl, hb6⟩; have hsz6 := hb6.size; have hz : Below (wr.heap.size + 1) (wr.alloc (.cells #[.int .i64 q, .string key, .string value] 94)) w6 := (by refine Below.trans ?_ (hb6.mono (by simp)); first | exact (Below.refl _ _).drew | exact ((Below.refl _ _).alloc (by simp) _).drew | exact (Below.refl _ _).alloc (by simp) _); have c3 := (hBy.out.below hz (by omega)).cell 0; have c4 := (hBy.out.below hz (by omega)).cell 1; have c5 := (hBy.out.below hz (by omega)).cell 2; have hl6 : wr.heap.size + 1 ≤ w6.heap.size := (by have := hz.size; simpa using this); have hcB := conv_sput (q := q) (by omega) (Blk.new w6 5 #[.int .u8 (q : Int)]); try (have hcC : (convert 128 9 (.slice (some ⟨wr.heap.size + 1, 0, none⟩) 1 1)).run Tryz.prog w6 = .ok (.string (bs (sput q))) w6 := conv_sput (by omega) (by simpa using Blk.below (Blk.drew (Blk.new (wr.alloc (.cells #[.int .i64 q, .string key, .string value] 94)) 5 #[.int .u8 (q : Int)])) hb6 (by simp)))))
      all_goals
        refine exit_world (fun W => Below (wr.heap.size + 1) (wr.alloc (.cells #[.int .i64 q, .string key, .string value] 94)) W) ?_ fun W hW => ?_
        · first | exact hz | exact hz.drew | exact (hz.alloc (by omega) _) | exact (hz.alloc (by omega) _).drew
        clear hz c3 c4 c5 hcB
        have c3 := (hBy.out.below hW (by omega)).cell 0
        have c4 := (hBy.out.below hW (by omega)).cell 1
        have c5 := (hBy.out.below hW (by omega)).cell 2
        clear hd0
        by_cases hq : q = 3
        · have hfin : acc ++ (sput q ++ stxt key) ++ stxt value = sput n ++ (gs.take (k + 1)).flatMap gBytes := by rw [htk.out, ← hag.out, if_pos hq]; simp
          replace hfin := Lib.hid hfin
          subst hq
          go_wp2_with fail
          refine (hV.out _).mono ?_; rintro e w7 ⟨rfl, hb7⟩
          have hz7 := nx (B := wr.heap.size + 1) (a := wr.alloc (.cells #[.int .i64 (3 : Nat), .string key, .string value] 94)) hW (by simp) hb7
          go_wp2_with fail
          go_roundw
          case rel => exact ⟨k + 1, by go_num, by omega, by first | (rw [← hfin.out]; done) | (rw [← hfin.out]; rfl) | (rw [← hfin.out]; simp; done), (Below.alloc hb (by omega) _).trans (hz7.mono (by omega))⟩
          case measure => simp [intOf]; omega
        · have hfin : acc ++ (sput q ++ stxt key) = sput n ++ (gs.take (k + 1)).flatMap gBytes := by rw [htk.out, ← hag.out, if_neg hq]; simp
          replace hfin := Lib.hid hfin
          have hqb : ((q : Int) == 3) = false := beq_eq_false_iff_ne.2 (by omega)
          go_wp2_with fail
          go_roundw
          case rel => exact ⟨k + 1, by go_num, by omega, by first | (rw [← hfin.out]; done) | (rw [← hfin.out]; rfl) | (rw [← hfin.out]; simp; done), (Below.alloc hb (by omega) _).trans (hW.mono (by omega))⟩
          case measure => simp [intOf]; omega
    · obtain rfl : k = n := by omega
      have htop : (gs.take k).flatMap gBytes = gs.flatMap gBytes := by rw [List.take_of_length_le (by have := e1.out; omega)]
      have hbl := bG.out k
      rw [htop] at *
      replace htop := Lib.hid htop
      have hgl : (gs.flatMap gBytes).length ≤ 312 := by have := n4'.out; omega
      have a1 := fun W => add_str W (sput k ++ gs.flatMap gBytes) (sput n') (by rw [List.length_append]; omega)
      have hcv := conv_sput (q := n') (by omega) (Blk.new wr 5 #[.int .u8 (n' : Int)])
      have hwn' : IntKind.u8.wrap (n' : Int) = n' := by rw [IntKind.wrap_u8]; omega
      go_wp2_with fail
      clear hcv
      go_loopw [4, 7] (fun o i wq => ∃ k' : Nat, i = .int .i64 k' ∧ k' ≤ n' ∧ o = strL (sput k ++ gs.flatMap gBytes ++ sput n' ++ (ss.take k').flatMap sBytes) ∧ Below (w.heap.size + 1) (w.alloc (.cells #[.slice A k c, .slice A' n' c'] 62)) wq) (fun _ i _ => n' + 1 - (intOf i).toNat)
      case atStart => exact ⟨0, rfl, by omega, by simp, Below.alloc hb (by omega) _⟩
      case round =>
        clear a1 c0 c1 hB hb hws
        obtain ⟨k', rfl, hk', rfl, hb⟩ := hrel
        have hB := Lib.hid (hA.out.trans (hb.mono (by omega)))
        have c0 := (hBx.out.below hb (by omega)).cell 0
        have c1 := (hBx.out.below hb (by omega)).cell 1
        by_cases hlt' : k' < n'
        · obtain ⟨ad, x, rfl, hadb, hx, hc⟩ := s5_at r2.out e2.out hlt'
          have hgx := g5.out x (List.mem_of_getElem? hx)
          have hfx := hf.out x (List.mem_of_getElem? hx)
          have htk := Lib.hid (flat_take (f := sBytes) hx)
          have hbl2 := bS.out k'
          have hws := hb.size
          simp only [World.size_alloc] at hws
          obtain ⟨k0, key, value, old, num⟩ := x
          obtain ⟨q, rfl⟩ : ∃ q : Nat, k0 = q := ⟨k0.toNat, by simp only [sRight, decide_eq_true_eq] at hgx; omega⟩
          obtain ⟨d0, d1, d2, d3, d4⟩ := hc _ hB.out
          have hgb : sBytes ⟨q, key, value, old, num⟩ = sput q ++ (stxt key ++ if q = 1 then stxt value else if q = 3 then sput (zz num) else if q = 4 then stxt old ++ stxt value else []) := by
            unfold sBytes; simp only [Int.toNat_natCast]
            by_cases h1 : q = 1
            · subst h1; rfl
            · by_cases h3 : q = 3
              · subst h3; rfl
              · by_cases h4 : q = 4
                · subst h4; rfl
                · rw [if_neg (by omega), if_neg (by omega), if_neg (by omega), if_neg h1, if_neg h3, if_neg h4]
          simp only [sRight, decide_eq_true_eq] at hgx
          obtain ⟨y1, y2, y3, y4, y5, _⟩ := hgx
          obtain ⟨f1, f2⟩ := hfx
          simp only at f1 f2
          rw [hgb] at htk
          replace hgb := Lib.hid hgb
          have b1 := sput_ten (n := q) (by omega)
          have b2 := stxt_le y3 (by omega)
          have b3 := stxt_le y4 (by omega)
          have b4 := stxt_le y5 (by omega)
          have b5 := sput_ten (zz_lt f1 f2)
          have hacc : (sput k ++ gs.flatMap gBytes ++ sput n' ++ (ss.take k').flatMap sBytes).length ≤ 900 := by rw [List.length_append, List.length_append, List.length_append]; have := m4'.out; omega
          generalize hag : sput k ++ gs.flatMap gBytes ++ sput n' ++ (ss.take k').flatMap sBytes = acc at *
          replace hag := Lib.hid hag
          have hT := Lib.hid (fun w => refPutTxt_any key (by omega) w)
          have hV := Lib.hid (fun w => refPutTxt_any value (by omega) w)
          have hO := Lib.hid (fun w => refPutTxt_any old (by omega) w)
          have hN := Lib.hid (fun w => refPutInt_any num f1 f2 w)
          have a1 := fun W => add_str W acc (sput q) (by omega)
          have a2 := fun W => add_str W (acc ++ sput q) (stxt key) (by rw [List.length_append]; omega)
          have a3 := fun W => add_str W (acc ++ sput q ++ stxt key) (stxt value) (by rw [List.length_append, List.length_append]; omega)
          have a4 := fun W => add_str W (acc ++ sput q ++ stxt key) (sput (zz num)) (by rw [List.length_append, List.length_append]; omega)
          have a5 := fun W => add_str W (acc ++ sput q ++ stxt key) (stxt old) (by rw [List.length_append, List.length_append]; omega)
          have a6 := fun W => add_str W (acc ++ sput q ++ stxt key ++ stxt old) (stxt value) (by rw [List.length_append, List.length_append, List.length_append]; omega)
          simp only [List.append_assoc] at a2 a3 a4 a5 a6
          have hBy := Lib.hid (Blk.new wr 96 #[.int .i64 q, .string key, .string value, .string old, .int .i64 num])
          clear hc
          replace hx := Lib.hid hx
          have i1 : (0 : Int) ≤ (k' : Int) := by omega
          have i2 : (k' : Int) < (n' : Int) := by omega
          have hwk : IntKind.u8.wrap (q : Int) = q := by rw [IntKind.wrap_u8]; omega
          have hcA : (convert 128 9 (.slice (some ⟨wr.heap.size + 1, 0, none⟩) 1 1)).run Tryz.prog (((wr.alloc (.cells #[.int .i64 q, .string key, .string value, .string old, .int .i64 num] 96)).alloc (.cells #[.int .u8 (q : Int)] 5)).drew) = .ok (.string (bs (sput q))) (((wr.alloc (.cells #[.int .i64 q, .string key, .string value, .string old, .int .i64 num] 96)).alloc (.cells #[.int .u8 (q : Int)] 5)).drew) := conv_sput (by omega) (Blk.drew (by simpa using Blk.new (wr.alloc (.cells #[.int .i64 q, .string key, .string value, .string old, .int .i64 num] 96)) 5 #[.int .u8 (q : Int)]))
          go_wp2_with fail
          clear c0 c1 d0 d1 d2 d3 d4
          go_region_with (first
            | (go_at_call 80; refine (hT.out _).mono ?_; rintro e w6 ⟨rfl, hb6⟩; have hz : Below (wr.heap.size + 1) (wr.alloc (.cells #[.int .i64 q, .string key, .string value, .string old, .int .i64 num] 96)) w6 := (by refine Below.trans ?_ (hb6.mono (by simp)); first | exact (Below.refl _ _).drew | exact ((Below.refl _ _).alloc (by simp) _).drew | exact (Below.refl _ _).alloc (by simp) _); have c3 := (hBy.out.below hz (by omega)).cell 0; have c4 := (hBy.out.below hz (by omega)).cell 1; have c5 := (hBy.out.below hz (by omega)).cell 2; have c6 := (hBy.out.below hz (by omega)).cell 3; have c7 := (hBy.out.below hz (by omega)).cell 4; have hl6 : wr.heap.size + 1 ≤ w6.heap.size := (by have := hz.size; simpa using this); have hcB := conv_sput (q := q) (by omega) (Blk.new w6 5 #[.int .u8 (q : Int)]); try (have hcC : (convert 128 9 (.slice (some ⟨wr.heap.size + 1, 0, none⟩) 1 1)).run Tryz.prog w6 = .ok (.string (bs (sput q))) w6 := conv_sput (by omega) (by simpa using Blk.below (Blk.drew (Blk.new (wr.alloc (.cells #[.int .i64 q, .string key, .string value, .string old, .int .i64 num] 96)) 5 #[.int .u8 (q : Int)])) hb6 (by simp)))))
          all_goals
            refine exit_world (fun W => Below (wr.heap.size + 1) (wr.alloc (.cells #[.int .i64 q, .string key, .string value, .string old, .int .i64 num] 96)) W) ?_ fun W hW => ?_
            · first | exact hz | exact hz.drew | exact (hz.alloc (by omega) _) | exact (hz.alloc (by omega) _).drew
            clear hz c3 c4 c5 c6 c7 hcB
            have c3 := (hBy.out.below hW (by omega)).cell 0
            have c4 := (hBy.out.below hW (by omega)).cell 1
            have c5 := (hBy.out.below hW (by omega)).cell 2
            have c6 := (hBy.out.below hW (by omega)).cell 3
            have c7 := (hBy.out.below hW (by omega)).cell 4
            clear a1 a2
            have hqq : q = 1 ∨ q = 2 ∨ q = 3 ∨ q = 4 := by omega
            rcases hqq with hq | hq | hq | hq
            · have hfin : acc ++ (sput q ++ stxt key) ++ stxt value = sput k ++ gs.flatMap gBytes ++ sput n' ++ (ss.take (k' + 1)).flatMap sBytes := by rw [htk.out, ← hag.out, if_pos hq]; simp
              replace hfin := Lib.hid hfin
              subst hq
              go_wp2_with fail
              refine (hV.out _).mono ?_; rintro e w7 ⟨rfl, hb7⟩
              have hz7 := nx (B := wr.heap.size + 1) (a := wr.alloc (.cells #[.int .i64 (1 : Nat), .string key, .string value, .string old, .int .i64 num] 96)) hW (by simp) hb7
              have c3 := (hBy.out.below hz7 (by omega)).cell 0
              go_wp2_with fail
              go_roundw
              case rel => exact ⟨k' + 1, by go_num, by omega, by first | (rw [← hfin.out]; done) | (rw [← hfin.out]; rfl) | (rw [← hfin.out]; simp; done), (Below.alloc hb (by omega) _).trans (hz7.mono (by omega))⟩
              case measure => simp [intOf]; omega
            · have hfin : acc ++ (sput q ++ stxt key) = sput k ++ gs.flatMap gBytes ++ sput n' ++ (ss.take (k' + 1)).flatMap sBytes := by rw [htk.out, ← hag.out, if_neg (by omega), if_neg (by omega), if_neg (by omega)]; simp
              replace hfin := Lib.hid hfin
              subst hq
              go_wp2_with fail
              go_roundw
              case rel => exact ⟨k' + 1, by go_num, by omega, by first | (rw [← hfin.out]; done) | (rw [← hfin.out]; rfl) | (rw [← hfin.out]; simp; done), (Below.alloc hb (by omega) _).trans (hW.mono (by omega))⟩
              case measure => simp [intOf]; omega
            · have hfin : acc ++ (sput q ++ stxt key) ++ sput (zz num) = sput k ++ gs.flatMap gBytes ++ sput n' ++ (ss.take (k' + 1)).flatMap sBytes := by rw [htk.out, ← hag.out, if_neg (by omega), if_pos hq]; simp
              replace hfin := Lib.hid hfin
              subst hq
              go_wp2_with fail
              refine (hN.out _).mono ?_; rintro e w7 ⟨rfl, hb7⟩
              have hz7 := nx (B := wr.heap.size + 1) (a := wr.alloc (.cells #[.int .i64 (3 : Nat), .string key, .string value, .string old, .int .i64 num] 96)) hW (by simp) hb7
              go_wp2_with fail
              go_roundw
              case rel => exact ⟨k' + 1, by go_num, by omega, by first | (rw [← hfin.out]; done) | (rw [← hfin.out]; rfl) | (rw [← hfin.out]; simp; done), (Below.alloc hb (by omega) _).trans (hz7.mono (by omega))⟩
              case measure => simp [intOf]; omega
            · have hfin : acc ++ (sput q ++ stxt key) ++ (stxt old ++ stxt value) = sput k ++ gs.flatMap gBytes ++ sput n' ++ (ss.take (k' + 1)).flatMap sBytes := by rw [htk.out, ← hag.out, if_neg (by omega), if_neg (by omega), if_pos hq]; simp
              replace hfin := Lib.hid hfin
              subst hq
              go_wp2_with fail
              refine (hO.out _).mono ?_; rintro e w7 ⟨rfl, hb7⟩
              have hz7 := nx (B := wr.heap.size + 1) (a := wr.alloc (.cells #[.int .i64 (4 : Nat), .string key, .string value, .string old, .int .i64 num] 96)) hW (by simp) hb7
              clear c3 c4 c5 c6 c7
              have c3 := (hBy.out.below hz7 (by omega)).cell 0
              have c5 := (hBy.out.below hz7 (by omega)).cell 2
              go_wp2_with fail
              refine (hV.out _).mono ?_; rintro e w8 ⟨rfl, hb8⟩
              have hz8 := nx (B := wr.heap.size + 1) (a := wr.alloc (.cells #[.int .i64 (4 : Nat), .string key, .string value, .string old, .int .i64 num] 96)) hz7 (by simp) hb8
              clear c3 c5
              have c3 := (hBy.out.below hz8 (by omega)).cell 0
              go_wp2_with fail
              go_roundw
              case rel => exact ⟨k' + 1, by go_num, by omega, by first | (rw [← hfin.out]; done) | (rw [← hfin.out]; rfl) | (rw [← hfin.out]; simp; done), (Below.alloc hb (by omega) _).trans (hz8.mono (by omega))⟩
              case measure => simp [intOf]; omega
        · obtain rfl : k' = n' := by omega
          have hfin : sput k ++ (gs.flatMap gBytes ++ (sput k' ++ ss.flatMap sBytes)) = sput k ++ gs.flatMap gBytes ++ sput k' ++ (ss.take k').flatMap sBytes := by rw [List.take_of_length_le (l := ss) (by have := e2.out; omega)]; simp
          replace hfin := Lib.hid hfin
          go_wp2_with fail
          exact bodyPost_ret (results_tmp2 Tryz.results56 _ _ _) rfl ⟨by rw [hfin.out]; rfl, hB.out⟩
end Go.Proofs.YtpkkjoiglemlgaaGreatDoor
