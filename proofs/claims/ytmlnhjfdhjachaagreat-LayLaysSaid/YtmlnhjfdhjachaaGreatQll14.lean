import Derived.Test.YtmlnhjfdhjachaaGreatQll13
/-
  The routine that lays changes (layer 30), as a whole. No condition.
-/
namespace Go.Proofs.YtmlnhjfdhjachaaGreat
set_option linter.unusedVariables false
open Go.ChangeShapes Go.WideShapes Go.ChangeAt Go.RowKit
open Go.ChangeMaps (setBlock)

structure PLay.Base (s : PLay) : Prop where
  right : s.cfg.Right
  ep : 0 ≤ s.ep ∧ s.ep ≤ 18446744073709551615
  block : 0 ≤ s.block ∧ s.block ≤ 18446744073709551615
  fs : 0 ≤ s.fs ∧ s.fs < s.cfg.shelves
  keys : ∀ ch ∈ s.l, ch.key.size ≤ 9223372036854775807 ∧ ch.value.size ≤ 1000
/-- What holds of one that goes. -/
structure PLay.Inv (s : PLay) : Prop where
  base : s.Base
  part : 1 ≤ s.part ∧ s.part ≤ 8
  ne : s.part ≤ 6 → s.l ≠ []
  laid : 0 ≤ s.laid ∧ s.laid + s.l.length ≤ 1000000 + (if 5 ≤ s.part ∧ s.part ≤ 6 then 1 else 0)
/-- A row that lies elsewhere. -/
def RowOff (lv : Value) (x : Nat) : Prop := ∀ ad n cap, lv = .slice (some ad) n cap → ad.block ≠ x
def RowIn (w : World) (Q : Nat → Prop) (b : Nat) (lv : Value) (l : List PChange) : Prop := ∃ A n cap, lv = .slice A n cap ∧ ChRow w Q b A n cap l
theorem RowIn.keep {w w' : World} {Q : Nat → Prop} {b : Nat} {lv : Value} {l : List PChange} (h : RowIn w Q b lv l) (hk : ∀ k, Q k → w'.heap[k]? = w.heap[k]?) : RowIn w' Q b lv l := by
  obtain ⟨A, n, cap, h1, h2⟩ := h
  exact ⟨A, n, cap, h1, h2.keep hk⟩
theorem RowIn.wide {w : World} {Q Q' : Nat → Prop} {b : Nat} {lv : Value} {l : List PChange} (h : RowIn w Q b lv l) (hk : ∀ k, Q k → Q' k) : RowIn w Q' b lv l := by
  obtain ⟨A, n, cap, h1, h2⟩ := h
  exact ⟨A, n, cap, h1, h2.wide hk⟩
theorem RowIn.far {w w' : World} {Q : Nat → Prop} {b : Nat} {lv : Value} {l : List PChange} (h : RowIn w Q b lv l) (hQ : In Q w) (hk : Chg (fun k => k = b) w w') : RowIn w' Q b lv l := by
  obtain ⟨A, n, cap, h1, h2⟩ := h
  exact ⟨A, n, cap, h1, h2.far hQ hk⟩
theorem RowIn.far2 {w w' : World} {Q : Nat → Prop} {b x : Nat} {lv : Value} {l : List PChange} (h : RowIn w Q b lv l) (hQ : In Q w) (hk : Chg (fun k => k = x) w w') (ho : RowOff lv x) : RowIn w' Q b lv l := by
  obtain ⟨A, n, cap, h1, h2, h3, h4⟩ := h
  refine ⟨A, n, cap, h1, h2, h3, fun hn => ?_⟩
  obtain ⟨ad, e, h5, h6, h7⟩ := h4 hn
  exact ⟨ad, e, h5, h6, fun j u hu => (World.cell?_of_block (by rw [block_of_add]; exact hk.block _ (hQ _ h5) (ho ad n cap (by rw [h1, e])))).trans (h7 j u hu)⟩
structure LnSub (w : World) (Q : Nat → Prop) (b : Nat) (s : PLay) (lv fv vv : Value) : Prop where
  row : RowIn w Q b lv s.l
  find : s.part = 1 → ∃ rb, fv = .pointer (some ⟨rb, 0, none⟩) ∧ Q rb ∧ rb ≠ b ∧ RowOff lv rb ∧ FindIn w rb s.find ∧ s.find.made = true ∧ s.find.kind = 0 ∧ s.find.cfg = s.cfg
  ver : s.part = 3 → ∃ rb ar cc, vv = .pointer (some ⟨rb, 0, none⟩) ∧ Q rb ∧ rb ≠ b ∧ Q ar ∧ RowOff lv rb ∧ VerIn w rb ar cc s.ver ∧ (∀ x ∈ s.ver.todo, x.Ok) ∧ (0 ≤ s.ver.block ∧ s.ver.block ≤ 18446744073709551615) ∧ s.ver.at_ < s.ver.todo.length
def LnIn (w : World) (Q : Nat → Prop) (b : Nat) (s : PLay) : Prop := ∃ lv fv vv, Blk w b 144 (s.cells lv fv vv) ∧ s.Inv ∧ LnSub w Q b s lv fv vv
theorem LnIn.keep {w w' : World} {Q : Nat → Prop} {b : Nat} {s : PLay} (h : LnIn w Q b s) (hs : w.heap.size ≤ w'.heap.size) (hb : Q b) (hk : ∀ k, Q k → w'.heap[k]? = w.heap[k]?) : LnIn w' Q b s := by
  obtain ⟨lv, fv, vv, h1, h2, h3⟩ := h
  refine ⟨lv, fv, vv, h1.keep (hk _ hb), h2, h3.row.keep hk, fun e => ?_, fun e => ?_⟩
  · obtain ⟨rb, k1, k2, k3, k4, k5, k6⟩ := h3.find e
    exact ⟨rb, k1, k2, k3, k4, k5.keep (hk _ k2), k6⟩
  · obtain ⟨rb, ar, cc, k1, k2, k3, k4, k5, k6, k7⟩ := h3.ver e
    exact ⟨rb, ar, cc, k1, k2, k3, k4, k5, k6.keep hs (hk _ k2) (hk _ k4), k7⟩
theorem LnIn.wide {w : World} {Q Q' : Nat → Prop} {b : Nat} {s : PLay} (h : LnIn w Q b s) (hk : ∀ k, Q k → Q' k) : LnIn w Q' b s := by
  obtain ⟨lv, fv, vv, h1, h2, h3⟩ := h
  refine ⟨lv, fv, vv, h1, h2, h3.row.wide hk, fun e => ?_, fun e => ?_⟩
  · obtain ⟨rb, k1, k2, k3⟩ := h3.find e
    exact ⟨rb, k1, hk _ k2, k3⟩
  · obtain ⟨rb, ar, cc, k1, k2, k3, k4, k5⟩ := h3.ver e
    exact ⟨rb, ar, cc, k1, hk _ k2, k3, hk _ k4, k5⟩
section
variable {w : World} {Q : Nat → Prop} {b : Nat} {c : PCfg} {ep part fk fs blk laid : Int} {l : List PChange} {find : PFind} {ver : PVer} {lv fv vv : Value} {gw : Int} {gt : ByteArray}
theorem lnNext_in (hQ : In Q w) (hQb : Q b) (hB : Blk w b 144 (PLay.cells ⟨c, ep, l, part, find, fk, fs, ver, blk, laid⟩ lv fv vv)) (hb : PLay.Base ⟨c, ep, l, part, find, fk, fs, ver, blk, laid⟩) (hla : 0 ≤ laid ∧ laid + l.length ≤ 1000000) (hrow : RowIn w Q b lv l) :
    Calls Tryz.prog 72 #[.pointer (some ⟨b, 0, none⟩)] w fun e w' => e = .returned (.tuple #[]) ∧ LnIn w' (nw Q w w') b (PLay.next ⟨c, ep, l, part, find, fk, fs, ver, blk, laid⟩) ∧ Chg (fun k => k = b) w w' := by
  have hB' := hB
  unfold PLay.cells at hB'
  simp only at hB'
  obtain ⟨A, n, cap, rfl, hR⟩ := hrow
  cases l with
  | nil =>
    obtain rfl : n = 0 := by have := hR.1; simpa using this.symm
    refine (lnNext0_any hB').mono ?_
    rintro e w' ⟨rfl, h1, h2⟩
    exact ⟨rfl, ⟨_, _, _, h1, ⟨⟨hb.right, hb.ep, hb.block, hb.fs, hb.keys⟩, by show (1 : Int) ≤ 7 ∧ (7 : Int) ≤ 8; decide, fun h => absurd h (by show ¬ (7 : Int) ≤ 6; decide), by show 0 ≤ laid ∧ laid + ((0 : Nat) : Int) ≤ 1000000 + 0; simp at hla ⊢; omega⟩, ⟨⟨A, 0, cap, rfl, ChRow.nil⟩, fun e => (by cases (show (7 : Int) = 1 from e)), fun e => (by cases (show (7 : Int) = 3 from e))⟩⟩, h2⟩
  | cons ch l' =>
    obtain ⟨hn, ad, rfl, hq, hne, h0, _, _⟩ := hR.first
    have hk := hb.keys ch (List.mem_cons_self ..)
    refine (lnNext1_any hB' hn (hQ _ hq) hne h0 hk.1).mono ?_
    rintro e w' ⟨rfl, fb, h1, h2, h3, h4⟩
    have hbl := hB'.lt
    have hql := hQ _ hq
    exact ⟨rfl, ⟨_, _, _, h1, ⟨⟨hb.right, hb.ep, hb.block, hb.fs, hb.keys⟩, by show (1 : Int) ≤ 1 ∧ (1 : Int) ≤ 8; decide, fun _ => by simp [PLay.next], by show 0 ≤ laid ∧ laid + ((ch :: l').length : Int) ≤ 1000000 + (if 5 ≤ (1 : Int) ∧ (1 : Int) ≤ 6 then 1 else 0); rw [if_neg (by decide)]; omega⟩,
      ⟨⟨_, n, cap, rfl, (hR.far hQ h4).wide fun k hk => .inl hk⟩, fun _ => ⟨fb, rfl, .inr ⟨h3, h2.blk.lt⟩, by omega, fun ad' n' cap' e => by injection e with e _ _; injection e with e; rw [← e]; omega, h2, (PCfg.right_iff c).2 hb.right, rfl, rfl⟩, fun e => (by cases (show (1 : Int) = 3 from e))⟩⟩, h4⟩
theorem lnChange_in (hQ : In Q w) (hQb : Q b) (hB : Blk w b 144 (PLay.cells ⟨c, ep, l, part, find, fk, fs, ver, blk, laid⟩ lv fv vv)) (hb : PLay.Base ⟨c, ep, l, part, find, fk, fs, ver, blk, laid⟩) (hne : l ≠ []) (hla : 0 ≤ laid ∧ laid + l.tail.length ≤ 1000000) (hrow : RowIn w Q b lv l) :
    Calls Tryz.prog 170 #[.pointer (some ⟨b, 0, none⟩)] w fun e w' => e = .returned (.tuple #[]) ∧ LnIn w' (nw Q w w') b (PLay.change ⟨c, ep, l, part, find, fk, fs, ver, blk, laid⟩) ∧ Chg (fun k => k = b) w w' := by
  have hB' := hB
  unfold PLay.cells at hB'
  simp only at hB'
  obtain ⟨A, n, cap, rfl, hR⟩ := hrow
  cases l with
  | nil => exact absurd rfl hne
  | cons ch l' =>
    obtain ⟨hn, ad, rfl, hq, hadb, _⟩ := hR.first
    obtain ⟨A2, hA2⟩ : ∃ A2, (if cap = 1 then some ad else some ⟨ad.block, ad.off + 3, none⟩ : Option Addr) = A2 := ⟨_, rfl⟩
    refine (lnChange_any hA2 hB' hn hR.2.1 (Post := fun W w' => LnIn w' (nw Q W w') b (PLay.change ⟨c, ep, ch :: l', part, find, fk, fs, ver, blk, laid⟩) ∧ Chg (fun k => k = b) W w') fun W hBW hCW => ?_).mono ?_
    · have hs := hCW.size
      have h1 : Blk W b 144 (PLay.cells ⟨c, ep, l', part, find, fk, fs, ver, blk, laid⟩ (.slice A2 (n - 1) (cap - 1)) fv vv) := hBW
      exact lnNext_in (hQ.mono hs) hQb h1 ⟨hb.right, hb.ep, hb.block, hb.fs, fun x hx => hb.keys x (List.mem_cons_of_mem _ hx)⟩ hla ⟨A2, n - 1, cap - 1, rfl, (hR.far hQ hCW).tail hA2⟩
    · rintro e w' ⟨rfl, W, hBW, hCW, h1, h2⟩
      refine ⟨rfl, h1.wide fun k hk => ?_, hCW.trans h2 fun i hi => .inl hi⟩
      rcases hk with hk | hk
      · exact .inl hk
      · have := hCW.size
        exact .inr ⟨by omega, hk.2⟩
end
theorem lnAct_any {w : World} {Q : Nat → Prop} {b : Nat} {s : PLay} (hQ : In Q w) (h : LnIn w Q b s) : Calls Tryz.prog 70 #[.pointer (some ⟨b, 0, none⟩)] w fun e w' => e = .returned (.tuple #[s.act.1.val, .bool s.act.2]) ∧ Below w.heap.size w w' := by
  obtain ⟨lv, fv, vv, hB, hI, hS⟩ := h
  obtain ⟨c, ep, l, part, find, fk, fs, ver, blk, laid⟩ := s
  have hB' := hB
  unfold PLay.cells at hB'
  have hp := hI.part
  have hc := hI.base.right
  have hfs := hI.base.fs
  simp only at hB' hp hc hfs
  have hcase : part = 1 ∨ part = 2 ∨ part = 3 ∨ part = 4 ∨ part = 5 ∨ part = 6 ∨ part = 7 ∨ part = 8 := by omega
  rcases hcase with rfl | rfl | rfl | rfl | rfl | rfl | rfl | rfl
  · obtain ⟨rb, rfl, hq, hne, _, hs, _⟩ := hS.find rfl
    have ha : PLay.act ⟨c, ep, l, 1, find, fk, fs, ver, blk, laid⟩ = find.act := rfl
    rw [ha]
    have hA := fun W (hb : Below w.heap.size w W) => findAct_any (hs.below hb)
    simp only at hA
    generalize find.act = pa at *
    obtain ⟨⟨xk, xb, xc, xo, xn, xt⟩, mo⟩ := pa
    exact lnAct1_any hB' hc hfs hA
  · exact lnAct2_any hB' hc hfs
  · obtain ⟨rb, ar, cc, rfl, hq, hne, hqa, _, hs, _⟩ := hS.ver rfl
    have ha : PLay.act ⟨c, ep, l, 3, find, fk, fs, ver, blk, laid⟩ = ver.act := rfl
    rw [ha]
    have hA := fun W (hb : Below w.heap.size w W) => verAct_any (hs.below hb)
    simp only at hA
    generalize ver.act = pa at *
    obtain ⟨⟨xk, xb, xc, xo, xn, xt⟩, mo⟩ := pa
    exact lnAct3_any hB' hc hfs hA
  · exact lnAct4_any hB' hc hfs
  · cases l with
    | nil => exact absurd rfl (hI.ne (by show (5 : Int) ≤ 6; decide))
    | cons ch l' =>
      obtain ⟨A, n, cap, rfl, hR⟩ := hS.row
      obtain ⟨hn, ad, rfl, hq, hadb, h0, _⟩ := hR.first
      exact lnAct5_any hB' hc hfs hn (hQ _ hq) h0
  · exact lnAct6_any hB' hc hfs
  · exact lnAct7_any hB' hc hfs
  · exact lnAct8_any hB' hc hfs
theorem find_take_is2 {s : PFind} (hm : s.made = true) (hk : s.kind = 0) (hs : 1 ≤ s.cfg.shelves) (g : PGot) : (s.take g).made = true ∧ (s.take g).cfg = s.cfg ∧ ((s.take g).kind ≠ 0 → (s.take g).kind ≠ 3 → 0 ≤ (s.take g).shelf ∧ (s.take g).shelf < s.cfg.shelves) := by
  have hi : s.idle = false := by simp [PFind.idle, hm, hk]
  have hpl : 0 ≤ s.place ∧ s.place < s.cfg.shelves := placeP_ok _ _ _ hs
  unfold PFind.take
  rw [if_neg (by rw [hi]; decide)]
  split
  · split
    · exact ⟨hm, rfl, fun _ _ => hpl⟩
    · exact ⟨hm, rfl, fun e => by simp [hk] at e⟩
  · split
    · exact ⟨hm, rfl, fun _ _ => hpl⟩
    · split
      · exact ⟨hm, rfl, fun _ e => by simp at e⟩
      · exact ⟨hm, rfl, fun e => by simp [hk] at e⟩
def LnTaken (w : World) (Q : Nat → Prop) (b : Nat) (s : PLay) (e : Ending) (w' : World) : Prop := e = .returned (.tuple #[]) ∧ LnIn w' (nw Q w w') b s ∧ Chg Q w w'
section
variable {w : World} {Q : Nat → Prop} {b : Nat} {c : PCfg} {ep part fk fs blk laid : Int} {l : List PChange} {find : PFind} {ver : PVer} {lv fv vv : Value} {gw : Int} {gt : ByteArray}
theorem nw_two {w W w' : World} {Q : Nat → Prop} (h : w.heap.size ≤ W.heap.size) : ∀ k, nw Q W w' k → nw Q w w' k := fun k hk => by
  rcases hk with hk | hk
  · exact .inl hk
  · exact .inr ⟨by omega, hk.2⟩
theorem lnTakeP1 (hQ : In Q w) (hQb : Q b) (hg : PGot.Ok ⟨gw, gt⟩) (hB : Blk w b 144 (PLay.cells ⟨c, ep, l, 1, find, fk, fs, ver, blk, laid⟩ lv fv vv)) (hI : PLay.Inv ⟨c, ep, l, 1, find, fk, fs, ver, blk, laid⟩) (hS : LnSub w Q b ⟨c, ep, l, 1, find, fk, fs, ver, blk, laid⟩ lv fv vv) :
    Calls Tryz.prog 169 #[.pointer (some ⟨b, 0, none⟩), .agg #[.int .u64 gw, .string gt]] w (LnTaken w Q b (PLay.take ⟨c, ep, l, 1, find, fk, fs, ver, blk, laid⟩ ⟨gw, gt⟩)) := by
  obtain ⟨rb, rfl, hq, hne, hoff, hs, hm, hk, hcf⟩ := hS.find rfl
  simp only at hs hm hk hcf
  have hb := hI.base
  have hrow := hS.row
  have hlne : l ≠ [] := hI.ne (by show (1 : Int) ≤ 6; decide)
  have hla : 0 ≤ laid ∧ laid + l.length ≤ 1000000 := hI.laid
  have hti := find_take_is2 hm hk (by rw [hcf]; exact hb.right.shelves.1) ⟨gw, gt⟩
  rw [hcf] at hti
  have ht : PLay.take ⟨c, ep, l, 1, find, fk, fs, ver, blk, laid⟩ ⟨gw, gt⟩ = PLay.look ⟨c, ep, l, 1, find.take ⟨gw, gt⟩, fk, fs, ver, blk, laid⟩ := rfl
  rw [ht]
  have hT : ∀ W : World, W.heap[rb]? = w.heap[rb]? → Calls Tryz.prog 162 #[.pointer (some ⟨rb, 0, none⟩), .agg #[.int .u64 gw, .string gt]] W fun e w' => e = .returned (.tuple #[]) ∧ FindIn w' rb (find.take ⟨gw, gt⟩) ∧ Chg (fun k => k = rb) W w' := fun W hW => findTake_any (hs.keep hW) ⟨gw, gt⟩ hg
  generalize find.take ⟨gw, gt⟩ = r at *
  have hB' := hB
  unfold PLay.cells at hB'
  simp only at hB'
  have hps := fun (W : World) (h : FindIn W rb r) => settle_find h
  obtain ⟨hm1, hc1, hr1⟩ := hti
  have hrb := hQ _ hq
  have hbl := hQ _ hQb
  by_cases h0 : r.kind = 0
  · have hst : PLay.look ⟨c, ep, l, 1, r, fk, fs, ver, blk, laid⟩ = ⟨c, ep, l, 1, r, fk, fs, ver, blk, laid⟩ := by simp [PLay.look, h0]
    rw [hst]
    refine (lnTake1_any hB' hne hrb (P := fun W => FindIn W rb r) (Post := fun W w' => Below W.heap.size W w') hT fun W hp hBW hC => ?_).mono ?_
    · have hr := hps W hp
      rw [show r.result = ((0, 0), false) from by unfold PFind.result; rw [if_pos h0]] at hr
      exact lnLookN_any hBW hr
    · rintro e w' ⟨rfl, W, hp, hBW, hC, hb2⟩
      have hC2 : Chg (fun k => k = rb) w w' := hC.next_ hb2
      exact ⟨rfl, ⟨_, _, _, hBW.below hb2 hBW.lt, ⟨⟨hb.right, hb.ep, hb.block, hb.fs, hb.keys⟩, hI.part, hI.ne, hI.laid⟩, ⟨(hrow.far2 hQ hC2 hoff).wide fun k hk => .inl hk, fun _ => ⟨rb, rfl, .inl hq, hne, hoff, hp.below hb2, hm1, h0, hc1⟩, fun e => (by cases (show (1 : Int) = 3 from e))⟩⟩, hC2.mono fun i hi => by rw [hi]; exact hq⟩
  · have hres : r.result = ((r.kind, r.shelf), true) := by unfold PFind.result; rw [if_neg h0]
    by_cases h3 : r.kind = 3
    · have hst : PLay.look ⟨c, ep, l, 1, r, fk, fs, ver, blk, laid⟩ = PLay.change ⟨c, ep, l, 1, r, fk, fs, ver, blk, laid⟩ := by simp [PLay.look, h3]
      rw [hst]
      have htl : laid + l.tail.length ≤ 1000000 := by have := List.length_tail (l := l); omega
      refine (lnTake1_any hB' hne hrb (P := fun W => FindIn W rb r) (Post := fun W w' => ∃ W2, Below W.heap.size W W2 ∧ LnIn w' (nw Q W2 w') b (PLay.change ⟨c, ep, l, 1, r, fk, fs, ver, blk, laid⟩) ∧ Chg (fun k => k = b) W2 w') hT fun W hp hBW hC => ?_).mono ?_
      · have hr := hps W hp
        rw [hres, h3] at hr
        refine (lnLookT_any (Post := fun W2 w' => LnIn w' (nw Q W2 w') b (PLay.change ⟨c, ep, l, 1, r, fk, fs, ver, blk, laid⟩) ∧ Chg (fun k => k = b) W2 w') hBW hr fun W2 hb2 => ?_)
        have hC2 : Chg (fun k => k = rb) w W2 := hC.next_ hb2
        have h1 : Blk W2 b 144 (PLay.cells ⟨c, ep, l, 1, r, fk, fs, ver, blk, laid⟩ lv (.pointer (some ⟨rb, 0, none⟩)) vv) := hBW.below hb2 hBW.lt
        exact lnChange_in (hQ.mono hC2.size) hQb h1 ⟨hb.right, hb.ep, hb.block, hb.fs, hb.keys⟩ hlne ⟨hla.1, htl⟩ (hrow.far2 hQ hC2 hoff)
      · rintro e w' ⟨rfl, W, hp, hBW, hC, W2, hb2, h1, h2⟩
        have hC2 : Chg (fun k => k = rb) w W2 := hC.next_ hb2
        exact ⟨rfl, h1.wide (nw_two hC2.size), (hC2.mono fun i hi => by rw [hi]; exact hq).trans h2 fun i hi => .inl (by rw [hi]; exact hQb)⟩
    · have hst : PLay.look ⟨c, ep, l, 1, r, fk, fs, ver, blk, laid⟩ = ⟨c, ep, l, 2, r, r.kind, r.shelf, ver, blk, laid⟩ := by simp [PLay.look, h0, h3]
      rw [hst]
      have hr1' := hr1 h0 h3
      refine (lnTake1_any hB' hne hrb (P := fun W => FindIn W rb r) (Post := fun W w' => Blk w' b 144 (PLay.cells ⟨c, ep, l, 2, r, r.kind, r.shelf, ver, blk, laid⟩ lv (.pointer (some ⟨rb, 0, none⟩)) vv) ∧ Chg (fun k => k = b) W w') hT fun W hp hBW hC => ?_).mono ?_
      · have hr := hps W hp
        rw [hres] at hr
        exact lnLookY_any hBW h3 hr
      · rintro e w' ⟨rfl, W, hp, hBW, hC, h1, h2⟩
        have hr2 := (hrow.far2 hQ hC hoff).far (hQ.mono hC.size) h2
        exact ⟨rfl, ⟨_, _, _, h1, ⟨⟨hb.right, hb.ep, hb.block, hr1', hb.keys⟩, by show (1 : Int) ≤ 2 ∧ (2 : Int) ≤ 8; decide, fun _ => hlne, by show 0 ≤ laid ∧ laid + (l.length : Int) ≤ 1000000 + (if 5 ≤ (2 : Int) ∧ (2 : Int) ≤ 6 then 1 else 0); rw [if_neg (by decide)]; omega⟩, ⟨hr2.wide fun k hk => .inl hk, fun e => (by cases (show (2 : Int) = 1 from e)), fun e => (by cases (show (2 : Int) = 3 from e))⟩⟩, (hC.mono fun i hi => by rw [hi]; exact hq).trans h2 fun i hi => .inl (by rw [hi]; exact hQb)⟩
theorem lnTakeP2 (hQ : In Q w) (hQb : Q b) (hg : PGot.Ok ⟨gw, gt⟩) (hB : Blk w b 144 (PLay.cells ⟨c, ep, l, 2, find, fk, fs, ver, blk, laid⟩ lv fv vv)) (hI : PLay.Inv ⟨c, ep, l, 2, find, fk, fs, ver, blk, laid⟩) (hS : LnSub w Q b ⟨c, ep, l, 2, find, fk, fs, ver, blk, laid⟩ lv fv vv) :
    Calls Tryz.prog 169 #[.pointer (some ⟨b, 0, none⟩), .agg #[.int .u64 gw, .string gt]] w (LnTaken w Q b (PLay.take ⟨c, ep, l, 2, find, fk, fs, ver, blk, laid⟩ ⟨gw, gt⟩)) := by
  have hb := hI.base
  have hlne : l ≠ [] := hI.ne (by show (2 : Int) ≤ 6; decide)
  have hla : 0 ≤ laid ∧ laid + l.length ≤ 1000000 := hI.laid
  cases l with
  | nil => exact absurd rfl hlne
  | cons ch l' =>
    obtain ⟨A, n, cap, rfl, hR⟩ := hS.row
    obtain ⟨hn, ad, rfl, hq, hadb, h0, h1, h2⟩ := hR.first
    have hB' := hB
    unfold PLay.cells at hB'
    simp only at hB'
    have ht : PLay.take ⟨c, ep, ch :: l', 2, find, fk, fs, ver, blk, laid⟩ ⟨gw, gt⟩ = ⟨c, ep, ch :: l', 3, find, fk, fs, newVer ep gw ch, blk, laid⟩ := rfl
    rw [ht]
    have hkv := hb.keys ch (List.mem_cons_self ..)
    have hok := verNew_ok ep gw ch hb.ep hg hkv.2
    have hql := hQ _ hq
    have hbl := hQ _ hQb
    refine (lnTake2_any hB' hn hql hadb h0 h1 h2).mono ?_
    rintro e w' ⟨rfl, vb, ar, cc, hB3, hV, hvb, har, hC⟩
    exact ⟨rfl, ⟨_, _, _, hB3, ⟨⟨hb.right, hb.ep, hb.block, hb.fs, hb.keys⟩, by show (1 : Int) ≤ 3 ∧ (3 : Int) ≤ 8; decide, fun _ => hlne, by show 0 ≤ laid ∧ laid + ((ch :: l').length : Int) ≤ 1000000 + (if 5 ≤ (3 : Int) ∧ (3 : Int) ≤ 6 then 1 else 0); rw [if_neg (by decide)]; omega⟩, ⟨⟨_, n, cap, rfl, (hR.far hQ hC).wide fun k hk => .inl hk⟩, fun e => (by cases (show (3 : Int) = 1 from e)), fun _ => ⟨vb, ar, cc, rfl, .inr ⟨hvb, hV.blk.lt⟩, by omega, .inr ⟨har, hV.lt⟩, fun ad' n' cap' e => by injection e with e _ _; injection e with e; rw [← e]; omega, hV, hok, by show (0 : Int) ≤ 0 ∧ (0 : Int) ≤ 18446744073709551615; decide, hV.pos⟩⟩⟩, hC.mono fun i hi => by rw [hi]; exact hQb⟩
theorem lnTakeP3 (hQ : In Q w) (hQb : Q b) (hg : PGot.Ok ⟨gw, gt⟩) (hB : Blk w b 144 (PLay.cells ⟨c, ep, l, 3, find, fk, fs, ver, blk, laid⟩ lv fv vv)) (hI : PLay.Inv ⟨c, ep, l, 3, find, fk, fs, ver, blk, laid⟩) (hS : LnSub w Q b ⟨c, ep, l, 3, find, fk, fs, ver, blk, laid⟩ lv fv vv) :
    Calls Tryz.prog 169 #[.pointer (some ⟨b, 0, none⟩), .agg #[.int .u64 gw, .string gt]] w (LnTaken w Q b (PLay.take ⟨c, ep, l, 3, find, fk, fs, ver, blk, laid⟩ ⟨gw, gt⟩)) := by
  have hb := hI.base
  have hlne : l ≠ [] := hI.ne (by show (3 : Int) ≤ 6; decide)
  have hla : 0 ≤ laid ∧ laid + l.length ≤ 1000000 := hI.laid
  obtain ⟨rb, ar, cc, rfl, hq, hne, hqa, hoff, hs, hok, hbr, hat⟩ := hS.ver rfl
  simp only at hs hok hbr hat
  have hrow := hS.row
  have hB' := hB
  unfold PLay.cells at hB'
  simp only at hB'
  have ht : PLay.take ⟨c, ep, l, 3, find, fk, fs, ver, blk, laid⟩ ⟨gw, gt⟩ = PLay.made ⟨c, ep, l, 3, find, fk, fs, ver.take ⟨gw, gt⟩, blk, laid⟩ := rfl
  rw [ht]
  have hz : Below w.heap.size w (w.alloc (.cells #[.int .u64 gw, .string gt] 52)).drew := (Below.more_ (Below.refl _ _) _).drew
  have hT := verTake_any (hs.below hz) ⟨gw, gt⟩
  rw [show PGot.val ⟨gw, gt⟩ = .agg #[.int .u64 gw, .string gt] from rfl] at hT
  have hok2 : ∀ x ∈ (ver.take ⟨gw, gt⟩).todo, x.Ok := by rw [PVer.take_todo]; exact hok
  have hbr2 : 0 ≤ (ver.take ⟨gw, gt⟩).block ∧ (ver.take ⟨gw, gt⟩).block ≤ 18446744073709551615 := by
    rcases PVer.take_block ver ⟨gw, gt⟩ with e | e
    · rw [e]; exact hbr
    · rw [e]; exact hg
  generalize ver.take ⟨gw, gt⟩ = r at *
  have hrb := hQ _ hq
  have hRs : ∀ W : World, VerIn W rb ar cc r → _ := fun W h => verResult_any h
  cases hd : r.result.2 with
  | true =>
    have hst : PLay.made ⟨c, ep, l, 3, find, fk, fs, r, blk, laid⟩ = ⟨c, ep, l, 4, find, fk, fs, r, r.result.1, laid⟩ := by simp [PLay.made, hd]
    rw [hst]
    simp only [hd] at hRs
    have hrr : 0 ≤ r.result.1 ∧ r.result.1 ≤ 18446744073709551615 := by
      unfold PVer.result
      split
      · exact ⟨by show (0 : Int) ≤ 0; decide, by show (0 : Int) ≤ 18446744073709551615; decide⟩
      · exact hbr2
    refine (lnTake3Y_any hB' hne hrb (P := fun W => VerIn W rb ar cc r) hT hRs).mono ?_
    rintro e w' ⟨rfl, W, hp, hC, h1, h2⟩
    have hr2 := (hrow.far2 hQ hC hoff).far (hQ.mono hC.size) h2
    exact ⟨rfl, ⟨_, _, _, h1, ⟨⟨hb.right, hb.ep, hrr, hb.fs, hb.keys⟩, by show (1 : Int) ≤ 4 ∧ (4 : Int) ≤ 8; decide, fun _ => hlne, by show 0 ≤ laid ∧ laid + (l.length : Int) ≤ 1000000 + (if 5 ≤ (4 : Int) ∧ (4 : Int) ≤ 6 then 1 else 0); rw [if_neg (by decide)]; omega⟩, ⟨hr2.wide fun k hk => .inl hk, fun e => (by cases (show (4 : Int) = 1 from e)), fun e => (by cases (show (4 : Int) = 3 from e))⟩⟩, (hC.mono fun i hi => by rw [hi]; exact hq).trans h2 fun i hi => .inl (by rw [hi]; exact hQb)⟩
  | false =>
    have hst : PLay.made ⟨c, ep, l, 3, find, fk, fs, r, blk, laid⟩ = ⟨c, ep, l, 3, find, fk, fs, r, blk, laid⟩ := by simp [PLay.made, hd]
    rw [hst]
    simp only [hd] at hRs
    have hat2 : r.at_ < r.todo.length := by
      unfold PVer.result at hd
      split at hd
      · assumption
      · cases hd
    refine (lnTake3N_any hB' hne hrb (P := fun W => VerIn W rb ar cc r) hT hRs).mono ?_
    rintro e w' ⟨rfl, W, hp, hBW, hC, hb2⟩
    have hC2 : Chg (fun k => k = rb) w w' := hC.next_ hb2
    exact ⟨rfl, ⟨_, _, _, hBW.below hb2 hBW.lt, ⟨⟨hb.right, hb.ep, hb.block, hb.fs, hb.keys⟩, hI.part, hI.ne, hI.laid⟩, ⟨(hrow.far2 hQ hC2 hoff).wide fun k hk => .inl hk, fun e => (by cases (show (3 : Int) = 1 from e)), fun _ => ⟨rb, ar, cc, rfl, .inl hq, hne, .inl hqa, hoff, hp.below hb2, hok2, hbr2, hat2⟩⟩⟩, hC2.mono fun i hi => by rw [hi]; exact hq⟩
theorem lnTakeP4 (hQ : In Q w) (hQb : Q b) (hB : Blk w b 144 (PLay.cells ⟨c, ep, l, 4, find, fk, fs, ver, blk, laid⟩ lv fv vv)) (hI : PLay.Inv ⟨c, ep, l, 4, find, fk, fs, ver, blk, laid⟩) (hS : LnSub w Q b ⟨c, ep, l, 4, find, fk, fs, ver, blk, laid⟩ lv fv vv) :
    Calls Tryz.prog 169 #[.pointer (some ⟨b, 0, none⟩), .agg #[.int .u64 gw, .string gt]] w (LnTaken w Q b (PLay.take ⟨c, ep, l, 4, find, fk, fs, ver, blk, laid⟩ ⟨gw, gt⟩)) := by
  have hb := hI.base
  have hrow := hS.row
  have hlne : l ≠ [] := hI.ne (by show (4 : Int) ≤ 6; decide)
  have hla : 0 ≤ laid ∧ laid + l.length ≤ 1000000 := hI.laid
  have hlp : 0 < l.length := List.length_pos_iff.2 hlne
  have htl : laid + 1 + l.tail.length ≤ 1000000 := by have := List.length_tail (l := l); omega
  have hB' := hB
  unfold PLay.cells at hB'
  simp only at hB'
  by_cases hfk : fk = 1
  · have ht : PLay.take ⟨c, ep, l, 4, find, fk, fs, ver, blk, laid⟩ ⟨gw, gt⟩ = PLay.change ⟨c, ep, l, 5, find, fk, fs, ver, blk, laid + 1⟩ := by
      show (if fk = 1 then _ else _) = _
      rw [if_pos hfk]
    rw [ht]
    refine (lnTake4Y_any hB' hfk ⟨hla.1, by omega⟩ (Post := fun W w' => LnIn w' (nw Q W w') b (PLay.change ⟨c, ep, l, 5, find, fk, fs, ver, blk, laid + 1⟩) ∧ Chg (fun k => k = b) W w') fun W hBW hCW => ?_).mono ?_
    · exact lnChange_in (hQ.mono hCW.size) hQb hBW ⟨hb.right, hb.ep, hb.block, hb.fs, hb.keys⟩ hlne ⟨by omega, htl⟩ (hrow.far hQ hCW)
    · rintro e w' ⟨rfl, W, hBW, hCW, h1, h2⟩
      exact ⟨rfl, h1.wide (nw_two hCW.size), (hCW.trans h2 fun i hi => .inl hi).mono fun i hi => by rw [hi]; exact hQb⟩
  · have ht : PLay.take ⟨c, ep, l, 4, find, fk, fs, ver, blk, laid⟩ ⟨gw, gt⟩ = ⟨c, ep, l, 5, find, fk, fs, ver, blk, laid + 1⟩ := by
      show (if fk = 1 then _ else _) = _
      rw [if_neg hfk]
    rw [ht]
    refine (lnTake4N_any hB' hfk ⟨hla.1, by omega⟩).mono ?_
    rintro e w' ⟨rfl, h1, h2⟩
    exact ⟨rfl, ⟨_, _, _, h1, ⟨⟨hb.right, hb.ep, hb.block, hb.fs, hb.keys⟩, by show (1 : Int) ≤ 5 ∧ (5 : Int) ≤ 8; decide, fun _ => hlne, by show 0 ≤ (laid + 1) ∧ (laid + 1) + (l.length : Int) ≤ 1000000 + (if 5 ≤ (5 : Int) ∧ (5 : Int) ≤ 6 then 1 else 0); rw [if_pos (by decide)]; omega⟩, ⟨(hrow.far hQ h2).wide fun k hk => .inl hk, fun e => (by cases (show (5 : Int) = 1 from e)), fun e => (by cases (show (5 : Int) = 3 from e))⟩⟩, h2.mono fun i hi => by rw [hi]; exact hQb⟩
theorem lnTakeP5 (hQ : In Q w) (hQb : Q b) (hg : PGot.Ok ⟨gw, gt⟩) (hB : Blk w b 144 (PLay.cells ⟨c, ep, l, 5, find, fk, fs, ver, blk, laid⟩ lv fv vv)) (hI : PLay.Inv ⟨c, ep, l, 5, find, fk, fs, ver, blk, laid⟩) (hS : LnSub w Q b ⟨c, ep, l, 5, find, fk, fs, ver, blk, laid⟩ lv fv vv) :
    Calls Tryz.prog 169 #[.pointer (some ⟨b, 0, none⟩), .agg #[.int .u64 gw, .string gt]] w (LnTaken w Q b (PLay.take ⟨c, ep, l, 5, find, fk, fs, ver, blk, laid⟩ ⟨gw, gt⟩)) := by
  have hb := hI.base
  have hlne : l ≠ [] := hI.ne (by show (5 : Int) ≤ 6; decide)
  have hla : 0 ≤ laid ∧ laid + l.length ≤ 1000000 + 1 := hI.laid
  have hB' := hB
  unfold PLay.cells at hB'
  simp only at hB'
  refine (lnTake5_any hB').mono ?_
  rintro e w' ⟨rfl, h1, h2⟩
  exact ⟨rfl, ⟨_, _, _, h1, ⟨⟨hb.right, hb.ep, hg, hb.fs, hb.keys⟩, by show (1 : Int) ≤ 6 ∧ (6 : Int) ≤ 8; decide, fun _ => hlne, by show 0 ≤ laid ∧ laid + (l.length : Int) ≤ 1000000 + (if 5 ≤ (6 : Int) ∧ (6 : Int) ≤ 6 then 1 else 0); rw [if_pos (by decide)]; omega⟩, ⟨(hS.row.far hQ h2).wide fun k hk => .inl hk, fun e => (by cases (show (6 : Int) = 1 from e)), fun e => (by cases (show (6 : Int) = 3 from e))⟩⟩, h2.mono fun i hi => by rw [hi]; exact hQb⟩
theorem lnTakeP6 (hQ : In Q w) (hQb : Q b) (hB : Blk w b 144 (PLay.cells ⟨c, ep, l, 6, find, fk, fs, ver, blk, laid⟩ lv fv vv)) (hI : PLay.Inv ⟨c, ep, l, 6, find, fk, fs, ver, blk, laid⟩) (hS : LnSub w Q b ⟨c, ep, l, 6, find, fk, fs, ver, blk, laid⟩ lv fv vv) :
    Calls Tryz.prog 169 #[.pointer (some ⟨b, 0, none⟩), .agg #[.int .u64 gw, .string gt]] w (LnTaken w Q b (PLay.take ⟨c, ep, l, 6, find, fk, fs, ver, blk, laid⟩ ⟨gw, gt⟩)) := by
  have hb := hI.base
  have hlne : l ≠ [] := hI.ne (by show (6 : Int) ≤ 6; decide)
  have hla : 0 ≤ laid ∧ laid + l.length ≤ 1000000 + 1 := hI.laid
  have hlp : 0 < l.length := List.length_pos_iff.2 hlne
  have htl : laid + l.tail.length ≤ 1000000 := by have := List.length_tail (l := l); omega
  have hB' := hB
  unfold PLay.cells at hB'
  simp only at hB'
  have ht : PLay.take ⟨c, ep, l, 6, find, fk, fs, ver, blk, laid⟩ ⟨gw, gt⟩ = PLay.change ⟨c, ep, l, 6, find, fk, fs, ver, blk, laid⟩ := rfl
  rw [ht]
  refine (lnTake6_any hB' (Post := fun W w' => LnIn w' (nw Q W w') b (PLay.change ⟨c, ep, l, 6, find, fk, fs, ver, blk, laid⟩) ∧ Chg (fun k => k = b) W w') fun W hb2 => ?_).mono ?_
  · have hCW := Chg.of_below hb2 (fun k => k = b)
    have h1 : Blk W b 144 (PLay.cells ⟨c, ep, l, 6, find, fk, fs, ver, blk, laid⟩ lv fv vv) := hB.below hb2 hB.lt
    exact lnChange_in (hQ.mono hb2.size) hQb h1 hb hlne ⟨hla.1, htl⟩ (hS.row.far hQ hCW)
  · rintro e w' ⟨rfl, W, hb2, h1, h2⟩
    have hCW := Chg.of_below hb2 (fun k => k = b)
    exact ⟨rfl, h1.wide (nw_two hb2.size), (hCW.trans h2 fun i hi => .inl hi).mono fun i hi => by rw [hi]; exact hQb⟩
theorem lnTakeP7 (hQ : In Q w) (hQb : Q b) (hB : Blk w b 144 (PLay.cells ⟨c, ep, l, 7, find, fk, fs, ver, blk, laid⟩ lv fv vv)) (hI : PLay.Inv ⟨c, ep, l, 7, find, fk, fs, ver, blk, laid⟩) (hS : LnSub w Q b ⟨c, ep, l, 7, find, fk, fs, ver, blk, laid⟩ lv fv vv) :
    Calls Tryz.prog 169 #[.pointer (some ⟨b, 0, none⟩), .agg #[.int .u64 gw, .string gt]] w (LnTaken w Q b (PLay.take ⟨c, ep, l, 7, find, fk, fs, ver, blk, laid⟩ ⟨gw, gt⟩)) := by
  have hb := hI.base
  have hla : 0 ≤ laid ∧ laid + l.length ≤ 1000000 := hI.laid
  have hB' := hB
  unfold PLay.cells at hB'
  simp only at hB'
  refine (lnTake7_any hB').mono ?_
  rintro e w' ⟨rfl, h1, h2⟩
  exact ⟨rfl, ⟨_, _, _, h1, ⟨⟨hb.right, hb.ep, hb.block, hb.fs, hb.keys⟩, by show (1 : Int) ≤ 8 ∧ (8 : Int) ≤ 8; decide, fun h => absurd h (by show ¬ (8 : Int) ≤ 6; decide), by show 0 ≤ laid ∧ laid + (l.length : Int) ≤ 1000000 + (if 5 ≤ (8 : Int) ∧ (8 : Int) ≤ 6 then 1 else 0); rw [if_neg (by decide)]; omega⟩, ⟨(hS.row.far hQ h2).wide fun k hk => .inl hk, fun e => (by cases (show (8 : Int) = 1 from e)), fun e => (by cases (show (8 : Int) = 3 from e))⟩⟩, h2.mono fun i hi => by rw [hi]; exact hQb⟩
end
theorem lnTake_any {w : World} {Q : Nat → Prop} {b : Nat} {s : PLay} (hQ : In Q w) (hQb : Q b) (h : LnIn w Q b s) (hmo : s.act.2 = true) (g : PGot) (hg : g.Ok) : Calls Tryz.prog 169 #[.pointer (some ⟨b, 0, none⟩), g.val] w (LnTaken w Q b (s.take g)) := by
  obtain ⟨lv, fv, vv, hB, hI, hS⟩ := h
  obtain ⟨gw, gt⟩ := g
  rw [show PGot.val ⟨gw, gt⟩ = .agg #[.int .u64 gw, .string gt] from rfl]
  obtain ⟨c, ep, l, part, find, fk, fs, ver, blk, laid⟩ := s
  have hp := hI.part
  simp only at hp
  have hcase : part = 1 ∨ part = 2 ∨ part = 3 ∨ part = 4 ∨ part = 5 ∨ part = 6 ∨ part = 7 ∨ part = 8 := by omega
  rcases hcase with rfl | rfl | rfl | rfl | rfl | rfl | rfl | rfl
  · exact lnTakeP1 hQ hQb hg hB hI hS
  · exact lnTakeP2 hQ hQb hg hB hI hS
  · exact lnTakeP3 hQ hQb hg hB hI hS
  · exact lnTakeP4 hQ hQb hB hI hS
  · exact lnTakeP5 hQ hQb hg hB hI hS
  · exact lnTakeP6 hQ hQb hB hI hS
  · exact lnTakeP7 hQ hQb hB hI hS
  · cases hmo
theorem lnAct_ok {w : World} {Q : Nat → Prop} {b : Nat} {s : PLay} (h : LnIn w Q b s) : (s.act).1.Ok := by
  have k0 : (-9223372036854775808 : Int) ≤ 0 ∧ (0 : Int) ≤ 9223372036854775807 := by decide
  have k1 : (-9223372036854775808 : Int) ≤ 1 ∧ (1 : Int) ≤ 9223372036854775807 := by decide
  have k2 : (-9223372036854775808 : Int) ≤ 2 ∧ (2 : Int) ≤ 9223372036854775807 := by decide
  have k5 : (-9223372036854775808 : Int) ≤ 5 ∧ (5 : Int) ≤ 9223372036854775807 := by decide
  have z : (0 : Int) ≤ 0 ∧ (0 : Int) ≤ 18446744073709551615 := by decide
  have z1 : (0 : Int) ≤ 1 ∧ (1 : Int) ≤ 18446744073709551615 := by decide
  have hE : ByteArray.empty.size ≤ 9223372036854775807 := by decide
  obtain ⟨lv, fv, vv, hB, hI, hS⟩ := h
  have h4 := hI.base.fs
  have h5 := hI.base.right.pins
  have h6 := hI.base.right.cap
  have h7 := hI.base.right.shelves
  have hbk := hI.base.block
  unfold PLay.act
  split
  · rename_i hp
    obtain ⟨rb, _, _, _, _, hs, _⟩ := hS.find hp
    exact findAct_ok hs
  split
  · exact ⟨k1, z1, by show -9223372036854775808 ≤ 3 + s.cfg.pins + s.cfg.cap + 2 * s.fs + 1 ∧ 3 + s.cfg.pins + s.cfg.cap + 2 * s.fs + 1 ≤ 9223372036854775807; omega, z, z, hE⟩
  split
  · rename_i hp
    obtain ⟨rb, ar, cc, _, hq, _, hqa, _, hs, hok, hbr, hat⟩ := hS.ver hp
    unfold PVer.act
    cases hx : s.ver.todo[s.ver.at_]? with
    | none => exact noAct_ok
    | some x =>
      have := hok x (List.mem_of_getElem? hx)
      by_cases h0 : 0 < s.ver.at_
      · simp only [h0, if_true]
        exact ⟨this.kind, hbr, this.cell, this.old, this.new, this.text⟩
      · simp only [h0, if_false]
        exact this
  split
  · exact ⟨k2, z1, by show -9223372036854775808 ≤ 3 + s.cfg.pins + s.cfg.cap + 2 * s.fs + 1 ∧ 3 + s.cfg.pins + s.cfg.cap + 2 * s.fs + 1 ≤ 9223372036854775807; omega, z, hbk, hE⟩
  split
  · rename_i hp
    refine ⟨k5, z, k0, z, z, ?_⟩
    have hne := hI.ne (by omega)
    show s.ch.key.size ≤ 9223372036854775807
    unfold PLay.ch
    cases hl : s.l with
    | nil => exact absurd hl hne
    | cons ch l' => exact (hI.base.keys ch (by rw [hl]; exact List.mem_cons_self ..)).1
  split
  · exact ⟨k2, z1, by show -9223372036854775808 ≤ 3 + s.cfg.pins + s.cfg.cap + 2 * s.fs ∧ 3 + s.cfg.pins + s.cfg.cap + 2 * s.fs ≤ 9223372036854775807; omega, z, hbk, hE⟩
  split
  · exact ⟨k2, z1, k0, z, hI.base.ep, hE⟩
  · exact ⟨k0, z, k0, z, z, hE⟩
def LnR (w : World) (Q : Nat → Prop) (b : Nat) (s : PLay) : Prop := In Q w ∧ Q b ∧ LnIn w Q b s
def layRout : Rout PLay where
  T := 83
  fAct := 70
  fTake := 169
  mAct := fun _ _ => by kernel_rfl
  mTake := fun _ _ => by kernel_rfl
  nAct := fun _ _ => by kernel_rfl
  nTake := fun _ _ => by kernel_rfl
  eAct := fun _ _ => by kernel_rfl
  eTake := fun _ _ => by kernel_rfl
  R := LnR
  own := fun h => h.1
  hG := fun h => h.2.1
  keep := fun ⟨h1, h2, h3⟩ hs hk => ⟨h1.mono hs, h2, h3.keep hs h2 hk⟩
  act := PLay.act
  take := PLay.take
  okA := fun h => lnAct_ok h.2.2
  cAct := fun ⟨h1, _, h⟩ => lnAct_any h1 h
  cTake := fun {w G b s} g ⟨h1, h2, h3⟩ hg hmo => (lnTake_any h1 h2 h3 hmo g hg).mono fun e w' ⟨he, hv, hc⟩ => ⟨he, ⟨h1.nw hc.size, .inl h2, hv⟩, hc⟩
end Go.Proofs.YtmlnhjfdhjachaaGreat

/-
  Laying changes alone (layer 30): the plain law, step by step. No condition.
-/
namespace Go.Proofs.YtmlnhjfdhjachaaGreat
set_option linter.unusedVariables false
open Go.ChangeShapes Go.WideShapes Go.ChangeAt Go.RowKit
open Go.ChangeMaps (setBlock)

/-- Where a look for a key ends. -/
def LookIs (c : PCfg) (key : ByteArray) (tx : Nat → Option ByteArray) (kd : Int) (p : Nat) : Prop := (lookP key (plN c key) tx c.shelves.toNat 0).1 = kd ∧ (lookP key (plN c key) tx c.shelves.toNat 0).2.1 = p
/-- What holds of keys and versions while changes are laid: the changes left, the shelf whose key lacks, how many are laid. -/
structure LawJ (c : PCfg) (ep : Int) (J : List PChange → Option Nat → Int → (Nat → Option ByteArray) → (Nat → List PVersion) → Prop) : Prop where
  one : ∀ {ch l n tx st p} (b : Int), J (ch :: l) none n tx st → tx p = some ch.key → LookIs c ch.key tx 1 p → J l none (n + 1) tx (putS st p ⟨b, ep, ch.has, ch.value⟩)
  two : ∀ {ch l n tx st p} (b : Int), J (ch :: l) none n tx st → tx p = none → LookIs c ch.key tx 2 p → J (ch :: l) (some p) (n + 1) tx (putS st p ⟨b, ep, ch.has, ch.value⟩)
  name : ∀ {ch l n tx st p}, J (ch :: l) (some p) n tx st → tx p = none → LookIs c ch.key tx 2 p → J l none n (putT tx p ch.key) st
  full : ∀ {ch l n tx st}, J (ch :: l) none n tx st → LookIs c ch.key tx 3 0 → J l none n tx st
/-- One block more that no shelf knows. -/
theorem Laid.ver {S S1 : PHeap} {c : PCfg} {tx : Nat → Option ByteArray} {st : Nat → List PVersion} {pn : Nat → Int} {e : Int} {r : Nat} {cells : List Int} {t : ByteArray} (h : Laid S c tx st pn e) (hVS : VS S S1 (S.last + 1) r cells t) : Laid S1 c tx st pn e := by
  have hone := h.shelved.one
  have hold : ∀ k y, 2 ≤ k → S.find k = some y → S1.find k = some y := fun k y h2 hy => by
    rw [hVS.old k (fun e => by
      have hm := find_mem hy
      have := h.shelved.keys y hm.1
      rw [hm.2] at this
      omega)]
    exact hy
  have hne : S.last + 1 ≠ 1 := by omega
  refine ⟨⟨fun j hj => ?_, hVS.keys, by rw [hVS.last]; omega⟩, fun j hj => ?_, fun j hj => hVS.ctl hne (h.pins j hj), hVS.ctl hne h.epoch, by rw [hVS.faults]; exact h.faults⟩
  · obtain ⟨y, k1, k2, k3⟩ := h.shelved.at_ j hj
    refine ⟨y, hVS.ctl hne k1, k2, fun t ht => ?_⟩
    obtain ⟨k4, b, k5, k6⟩ := k3 t ht
    exact ⟨k4, b, hold _ _ k4 k5, k6⟩
  · obtain ⟨y, k1, k2, k3⟩ := h.stack j hj
    exact ⟨y, hVS.ctl hne k1, Chained.mono hold k2, k3⟩
/-- The stores that make a version. -/
def vsts (ep x : Int) (ch : PChange) : List (Nat × Int) := (0, ep) :: ((if x = 0 then [] else [(1, x)]) ++ (if ch.has then [(2, 1)] else []))
theorem vsts_todo (ep x : Int) (ch : PChange) : (verTodo ep x ch).drop 1 = (vsts ep x ch).map (fun y => stA y.1 y.2) := by
  unfold verTodo vsts
  by_cases hx : x = 0 <;> cases ch.has <;> simp [hx, stA]
theorem vsts_lt (ep x : Int) (ch : PChange) : ∀ y ∈ vsts ep x ch, y.1 < 3 := by
  unfold vsts
  by_cases hx : x = 0 <;> cases ch.has <;> simp [hx]
theorem vsts_len (ep x : Int) (ch : PChange) : (vsts ep x ch).length ≤ 3 := by
  unfold vsts
  by_cases hx : x = 0 <;> cases ch.has <;> simp [hx]
theorem vsts_fold (ep x : Int) (ch : PChange) : (vsts ep x ch).foldl (fun c y => c.set y.1 y.2) (List.replicate 3 0) = [ep, x, if ch.has then 1 else 0] := by
  unfold vsts
  by_cases hx : x = 0 <;> cases ch.has <;> simp [hx, List.replicate]
def LOk (l : List PChange) : Prop := ∀ ch ∈ l, ch.key.size ≤ 4096 ∧ ch.value.size ≤ 1000
/-- Where the routine is; how many acts it takes from there at most. -/
inductive LSt (c : PCfg) (ep : Int) (S : PHeap) (tx : Nat → Option ByteArray) (st : Nat → List PVersion) (pn : Nat → Int) (e : Int) : PLay → Option Nat → Int → Prop
  | f0 {ch : PChange} {l : List PChange} {fk fs blk laid : Int} {ver : PVer} (k d : Nat) : (d : Int) = c.shelves - k → 0 < d → LookIs c ch.key tx (lookP ch.key (plN c ch.key) tx d k).1 (lookP ch.key (plN c ch.key) tx d k).2.1.toNat → 0 ≤ (lookP ch.key (plN c ch.key) tx d k).2.1 → LOk (ch :: l) → S.last + 2 * l.length ≤ 900000 →
      LSt c ep S tx st pn e ⟨c, ep, ch :: l, 1, findAt c ch.key k 0, fk, fs, ver, blk, laid⟩ none (2 * d + 10 + 140 * l.length)
  | f1 {ch : PChange} {l : List PChange} {fk fs blk laid : Int} {ver : PVer} (k d : Nat) (v : Int) (t : ByteArray) (y : PBlk) : ((d + 1 : Nat) : Int) = c.shelves - k → LookIs c ch.key tx (lookP ch.key (plN c ch.key) tx (d + 1) k).1 (lookP ch.key (plN c ch.key) tx (d + 1) k).2.1.toNat → 0 ≤ (lookP ch.key (plN c ch.key) tx (d + 1) k).2.1 → 2 ≤ v → S.find v = some y → y.text = t → tx (plN c ch.key k) = some t → LOk (ch :: l) → S.last + 2 * l.length ≤ 900000 →
      LSt c ep S tx st pn e ⟨c, ep, ch :: l, 1, findAt c ch.key k v, fk, fs, ver, blk, laid⟩ none (2 * d + 11 + 140 * l.length)
  | hd {ch : PChange} {l : List PChange} {fk blk laid : Int} {fd : PFind} {ver : PVer} (p : Nat) : (p : Int) < c.shelves → LookIs c ch.key tx fk p → (fk = 1 ∧ tx p = some ch.key ∨ fk = 2 ∧ tx p = none) → LOk (ch :: l) → S.last + 2 * l.length ≤ 900000 →
      LSt c ep S tx st pn e ⟨c, ep, ch :: l, 2, fd, fk, (p : Int), ver, blk, laid⟩ none (9 + 140 * l.length)
  | mk {ch : PChange} {l : List PChange} {fk blk laid : Int} {fd : PFind} (p : Nat) (x : Int) : (p : Int) < c.shelves → LookIs c ch.key tx fk p → (fk = 1 ∧ tx p = some ch.key ∨ fk = 2 ∧ tx p = none) → CtlAt S (kcell c p + 1) x → Chained S x (st p) → LOk (ch :: l) → S.last + 2 * l.length ≤ 900000 →
      LSt c ep S tx st pn e ⟨c, ep, ch :: l, 3, fd, fk, (p : Int), newVer ep x ch, blk, laid⟩ none (8 + 140 * l.length)
  | sv {ch : PChange} {l : List PChange} {fk blk laid : Int} {fd : PFind} (p : Nat) (x : Int) (S0 : PHeap) (r at_ : Nat) (todo : List PAct) (cells : List Int) (y : Nat × Int) (sts : List (Nat × Int)) : (p : Int) < c.shelves → LookIs c ch.key tx fk p → (fk = 1 ∧ tx p = some ch.key ∨ fk = 2 ∧ tx p = none) → Laid S0 c tx st pn e → CtlAt S0 (kcell c p + 1) x → Chained S0 x (st p) →
      VS S0 S (S0.last + 1) r cells (verText ch) → cells.length = 3 → (∀ z ∈ y :: sts, z.1 < 3) → todo.drop at_ = (y :: sts).map (fun z => stA z.1 z.2) → 0 < at_ → (y :: sts).foldl (fun c z => c.set z.1 z.2) cells = [ep, x, if ch.has then 1 else 0] → LOk (ch :: l) → S0.last + 2 * l.length ≤ 900000 →
      LSt c ep S tx st pn e ⟨c, ep, ch :: l, 3, fd, fk, (p : Int), ⟨todo, at_, S0.last + 1⟩, blk, laid⟩ none (5 + sts.length + 140 * l.length)
  | lk {ch : PChange} {l : List PChange} {fk laid : Int} {fd : PFind} {ver : PVer} (p : Nat) (x : Int) (S0 : PHeap) (r : Nat) : (p : Int) < c.shelves → LookIs c ch.key tx fk p → (fk = 1 ∧ tx p = some ch.key ∨ fk = 2 ∧ tx p = none) → Laid S0 c tx st pn e → CtlAt S0 (kcell c p + 1) x → Chained S0 x (st p) →
      VS S0 S (S0.last + 1) r [ep, x, if ch.has then 1 else 0] (verText ch) → LOk (ch :: l) → S0.last + 2 * l.length ≤ 900000 →
      LSt c ep S tx st pn e ⟨c, ep, ch :: l, 4, fd, fk, (p : Int), ver, S0.last + 1, laid⟩ none (4 + 140 * l.length)
  | nm {ch : PChange} {l : List PChange} {blk laid : Int} {fd : PFind} {ver : PVer} (p : Nat) : (p : Int) < c.shelves → LookIs c ch.key tx 2 p → tx p = none → LOk (ch :: l) → S.last + 2 * l.length ≤ 900001 →
      LSt c ep S tx st pn e ⟨c, ep, ch :: l, 5, fd, 2, (p : Int), ver, blk, laid⟩ (some p) (3 + 140 * l.length)
  | kp {ch : PChange} {l : List PChange} {laid : Int} {fd : PFind} {ver : PVer} (p : Nat) (S0 : PHeap) (r : Nat) : (p : Int) < c.shelves → LookIs c ch.key tx 2 p → tx p = none → Laid S0 c tx st pn e → S = S0.more r ch.key → LOk (ch :: l) → S0.last + 2 * l.length ≤ 900001 →
      LSt c ep S tx st pn e ⟨c, ep, ch :: l, 6, fd, 2, (p : Int), ver, S0.last + 1, laid⟩ (some p) (2 + 140 * l.length)
  | es {fk fs blk laid : Int} {fd : PFind} {ver : PVer} : LSt c ep S tx st pn e ⟨c, ep, [], 7, fd, fk, fs, ver, blk, laid⟩ none 1
  | dn {fk fs blk laid : Int} {fd : PFind} {ver : PVer} : LSt c ep S tx st pn e ⟨c, ep, [], 8, fd, fk, fs, ver, blk, laid⟩ none 0
variable {c : PCfg} {ep : Int} {S : PHeap} {tx : Nat → Option ByteArray} {st : Nat → List PVersion} {pn : Nat → Int} {e : Int} {s : PLay} {half : Option Nat} {n : Int}
theorem LSt.pos (h : LSt c ep S tx st pn e s half n) : 0 ≤ n := by
  cases h <;> omega
/-- On to the next change. -/
theorem lst_next (hc : c.Right) {l : List PChange} {part fk fs blk laid : Int} {fd : PFind} {ver : PVer} (hok : LOk l) (hl : S.last + 2 * l.length ≤ 900002) : ∃ n, LSt c ep S tx st pn e (PLay.next ⟨c, ep, l, part, fd, fk, fs, ver, blk, laid⟩) none n ∧ n ≤ 1 + 140 * l.length ∧ (PLay.next ⟨c, ep, l, part, fd, fk, fs, ver, blk, laid⟩).laid = laid ∧ (PLay.next ⟨c, ep, l, part, fd, fk, fs, ver, blk, laid⟩).l = l := by
  have hsh := hc.shelves
  cases l with
  | nil => exact ⟨1, .es, by simp, rfl, rfl⟩
  | cons ch l =>
    refine ⟨2 * c.shelves.toNat + 10 + 140 * l.length, ?_, ?_, rfl, rfl⟩
    · show LSt c ep S tx st pn e ⟨c, ep, ch :: l, 1, newFind c ch.key, fk, fs, ver, blk, laid⟩ none _
      rw [newFind_at c hc]
      have h0 : 0 ≤ (lookP ch.key (plN c ch.key) tx c.shelves.toNat 0).2.1 := by
        rcases look_kind (key := ch.key) (pl := plN c ch.key) (tx := tx) c.shelves.toNat 0 with ⟨_, p, h, _⟩ | h | ⟨_, h, _⟩
        · rw [h]; omega
        · obtain ⟨p, h, _⟩ := look_put _ _ h
          rw [h]; omega
        · rw [h]; exact Int.le_refl _
      simp only [List.length_cons] at hl
      exact .f0 0 c.shelves.toNat (by omega) (by omega) ⟨rfl, by omega⟩ h0 hok (by omega)
    · simp only [List.length_cons]
      omega
/-- One step of it. -/
structure LStep (c : PCfg) (ep : Int) (J : List PChange → Option Nat → Int → (Nat → Option ByteArray) → (Nat → List PVersion) → Prop) (S : PHeap) (pn : Nat → Int) (e : Int) (s : PLay) (n : Int) (x : PAct) : Prop where
  act : s.act = (x, true)
  ready : S.ready x = true
  kind : x.kind ≠ 8
  next : ∀ r, ∃ tx' st' half' n', Laid (S.act x r).2 c tx' st' pn (if s.part = 7 then ep else e) ∧ J (s.take (S.act x r).1).l half' (s.take (S.act x r).1).laid tx' st' ∧ LSt c ep (S.act x r).2 tx' st' pn (if s.part = 7 then ep else e) (s.take (S.act x r).1) half' n' ∧ n' + 1 ≤ n
theorem look_here {key : ByteArray} {k d : Nat} {t : ByteArray} (h : tx (plN c key k) = some t) : lookP key (plN c key) tx (d + 1) k = if t = key then ((1 : Int), ((plN c key k : Nat) : Int), 2) else ((lookP key (plN c key) tx d (k + 1)).1, (lookP key (plN c key) tx d (k + 1)).2.1, (lookP key (plN c key) tx d (k + 1)).2.2 + 2) := by
  show (match tx (plN c key k) with | none => _ | some t => _) = _
  rw [h]
theorem look_free {key : ByteArray} {k d : Nat} (h : tx (plN c key k) = none) : lookP key (plN c key) tx (d + 1) k = ((2 : Int), ((plN c key k : Nat) : Int), 1) := by
  show (match tx (plN c key k) with | none => _ | some t => _) = _
  rw [h]
theorem lst_f0 (hc : c.Right) {J : List PChange → Option Nat → Int → (Nat → Option ByteArray) → (Nat → List PVersion) → Prop} (hL : Laid S c tx st pn e) {ch : PChange} {l : List PChange} {fk fs blk laid : Int} {ver : PVer} (k d : Nat) (h1 : (d : Int) = c.shelves - k) (h2 : 0 < d) (h3 : LookIs c ch.key tx (lookP ch.key (plN c ch.key) tx d k).1 (lookP ch.key (plN c ch.key) tx d k).2.1.toNat) (h4 : 0 ≤ (lookP ch.key (plN c ch.key) tx d k).2.1) (h5 : LOk (ch :: l)) (h6 : S.last + 2 * l.length ≤ 900000) (hj : J (ch :: l) none laid tx st) :
    ∃ x, LStep c ep J S pn e ⟨c, ep, ch :: l, 1, findAt c ch.key k 0, fk, fs, ver, blk, laid⟩ (2 * d + 10 + 140 * l.length) x := by
  obtain ⟨d, rfl⟩ : ∃ d', d = d' + 1 := ⟨d - 1, by omega⟩
  obtain ⟨hpl, hpl2⟩ := plN_eq hc ch.key k
  obtain ⟨v, hv, hv0, hv1⟩ := hL.shelved.at_ (plN c ch.key k) hpl2
  have ha := findAt_act0 c ch.key k
  rw [hpl, ← kcell_eq hc] at ha
  refine ⟨_, ha, ready_load S _, by simp, fun r => ?_⟩
  rw [hv.load r]
  have ht : PLay.take ⟨c, ep, ch :: l, 1, findAt c ch.key k 0, fk, fs, ver, blk, laid⟩ ⟨v, ByteArray.empty⟩ = PLay.look ⟨c, ep, ch :: l, 1, if v = 0 then findEnd c ch.key k 0 2 (plN c ch.key k : Nat) else findAt c ch.key k v, fk, fs, ver, blk, laid⟩ := by
    rw [← hpl]
    show PLay.look ⟨c, ep, ch :: l, 1, (findAt c ch.key k 0).take ⟨v, ByteArray.empty⟩, fk, fs, ver, blk, laid⟩ = _
    rw [findAt_take0]
  rw [ht]
  cases htx : tx (plN c ch.key k) with
  | none =>
    rw [if_pos (hv0 htx)]
    rw [look_free htx] at h3
    exact ⟨tx, st, none, _, hL, hj, .hd (plN c ch.key k) hpl2 (by show LookIs c ch.key tx 2 _; simpa using h3) (.inr ⟨rfl, htx⟩) h5 h6, by omega⟩
  | some t =>
    obtain ⟨hv2, y, hy, hyt⟩ := hv1 t htx
    rw [if_neg (show ¬ v = 0 by omega)]
    exact ⟨tx, st, none, _, hL, hj, .f1 k d v t y h1 h3 h4 hv2 hy hyt htx h5 h6, by omega⟩
theorem lst_f1 (hc : c.Right) {J : List PChange → Option Nat → Int → (Nat → Option ByteArray) → (Nat → List PVersion) → Prop} (hJ : LawJ c ep J) (hL : Laid S c tx st pn e) {ch : PChange} {l : List PChange} {fk fs blk laid : Int} {ver : PVer} (k d : Nat) (v : Int) (t : ByteArray) (y : PBlk) (h1 : ((d + 1 : Nat) : Int) = c.shelves - k) (h3 : LookIs c ch.key tx (lookP ch.key (plN c ch.key) tx (d + 1) k).1 (lookP ch.key (plN c ch.key) tx (d + 1) k).2.1.toNat) (h4 : 0 ≤ (lookP ch.key (plN c ch.key) tx (d + 1) k).2.1) (hv : 2 ≤ v) (hy : S.find v = some y) (hyt : y.text = t) (htx : tx (plN c ch.key k) = some t) (h5 : LOk (ch :: l)) (h6 : S.last + 2 * l.length ≤ 900000) (hj : J (ch :: l) none laid tx st) :
    ∃ x, LStep c ep J S pn e ⟨c, ep, ch :: l, 1, findAt c ch.key k v, fk, fs, ver, blk, laid⟩ (2 * d + 11 + 140 * l.length) x := by
  have hvn : v ≠ 0 := by omega
  have hsh := hc.shelves
  obtain ⟨hpl, hpl2⟩ := plN_eq hc ch.key k
  refine ⟨_, findAt_act c ch.key k v hvn, ready_words S v, by simp, fun r => ?_⟩
  rw [act_words hy, hyt]
  have ht : PLay.take ⟨c, ep, ch :: l, 1, findAt c ch.key k v, fk, fs, ver, blk, laid⟩ ⟨0, t⟩ = PLay.look ⟨c, ep, ch :: l, 1, if t = ch.key then findEnd c ch.key k v 1 (plN c ch.key k : Nat) else if (k : Int) + 1 = c.shelves then findEnd c ch.key (k + 1) 0 3 0 else findAt c ch.key (k + 1) 0, fk, fs, ver, blk, laid⟩ := by
    rw [← hpl]
    show PLay.look ⟨c, ep, ch :: l, 1, (findAt c ch.key k v).take ⟨0, t⟩, fk, fs, ver, blk, laid⟩ = _
    rw [findAt_take _ _ _ _ hvn]
  rw [ht]
  rw [look_here htx] at h3 h4
  by_cases htk : t = ch.key
  · rw [if_pos htk]
    rw [if_pos htk] at h3
    exact ⟨tx, st, none, _, hL, hj, .hd (plN c ch.key k) hpl2 (by show LookIs c ch.key tx 1 _; simpa using h3) (.inl ⟨rfl, by rw [htx, htk]⟩) h5 h6, by omega⟩
  · rw [if_neg htk]
    rw [if_neg htk] at h3 h4
    simp only at h3 h4
    by_cases hke : (k : Int) + 1 = c.shelves
    · rw [if_pos hke]
      obtain rfl : d = 0 := by omega
      obtain ⟨n', k1, k2, k3, k4⟩ := lst_next (ep := ep) (S := S) (tx := tx) (st := st) (pn := pn) (e := e) (part := 1) (fk := fk) (fs := fs) (blk := blk) (laid := laid) (fd := findEnd c ch.key (k + 1) 0 3 0) (ver := ver) hc (fun x hx => h5 x (List.mem_cons_of_mem _ hx)) (by omega)
      exact ⟨tx, st, none, n', hL, by
        show J (PLay.next ⟨c, ep, l, 1, findEnd c ch.key (k + 1) 0 3 0, fk, fs, ver, blk, laid⟩).l none (PLay.next ⟨c, ep, l, 1, findEnd c ch.key (k + 1) 0 3 0, fk, fs, ver, blk, laid⟩).laid tx st
        rw [k3, k4]
        exact hJ.full hj h3, k1, by omega⟩
    · rw [if_neg hke]
      exact ⟨tx, st, none, _, hL, hj, .f0 (k + 1) d (by omega) (by omega) h3 h4 h5 h6, by omega⟩
theorem lst_hd (hc : c.Right) {J : List PChange → Option Nat → Int → (Nat → Option ByteArray) → (Nat → List PVersion) → Prop} (hL : Laid S c tx st pn e) {ch : PChange} {l : List PChange} {fk blk laid : Int} {fd : PFind} {ver : PVer} (p : Nat) (h1 : (p : Int) < c.shelves) (h2 : LookIs c ch.key tx fk p) (h3 : fk = 1 ∧ tx p = some ch.key ∨ fk = 2 ∧ tx p = none) (h5 : LOk (ch :: l)) (h6 : S.last + 2 * l.length ≤ 900000) (hj : J (ch :: l) none laid tx st) :
    ∃ x, LStep c ep J S pn e ⟨c, ep, ch :: l, 2, fd, fk, (p : Int), ver, blk, laid⟩ (9 + 140 * l.length) x := by
  obtain ⟨x, hx1, hx2, hx3⟩ := hL.stack p h1
  have hk := kcell_eq hc p
  refine ⟨⟨1, 1, ((kcell c p + 1 : Nat) : Int), 0, 0, ByteArray.empty⟩, ?_, ready_load S _, by simp, fun r => ?_⟩
  · show ((⟨1, 1, 3 + c.pins + c.cap + 2 * (p : Int) + 1, 0, 0, ByteArray.empty⟩ : PAct), true) = _
    rw [show 3 + c.pins + c.cap + 2 * (p : Int) + 1 = ((kcell c p + 1 : Nat) : Int) by omega]
  rw [hx1.load r]
  exact ⟨tx, st, none, _, hL, hj, .mk p x h1 h2 h3 hx1 hx2 h5 h6, by omega⟩
theorem lst_mk {J : List PChange → Option Nat → Int → (Nat → Option ByteArray) → (Nat → List PVersion) → Prop} (hL : Laid S c tx st pn e) {ch : PChange} {l : List PChange} {fk blk laid : Int} {fd : PFind} (p : Nat) (x : Int) (h1 : (p : Int) < c.shelves) (h2 : LookIs c ch.key tx fk p) (h3 : fk = 1 ∧ tx p = some ch.key ∨ fk = 2 ∧ tx p = none) (hx1 : CtlAt S (kcell c p + 1) x) (hx2 : Chained S x (st p)) (h5 : LOk (ch :: l)) (h6 : S.last + 2 * l.length ≤ 900000) (hj : J (ch :: l) none laid tx st) :
    ∃ x', LStep c ep J S pn e ⟨c, ep, ch :: l, 3, fd, fk, (p : Int), newVer ep x ch, blk, laid⟩ (8 + 140 * l.length) x' := by
  have hone := hL.shelved.one
  have hts : (verText ch).size ≤ 4096 := by
    unfold verText
    split
    · have := (h5 ch (List.mem_cons_self ..)).2; omega
    · decide
  have hr5 : PAct.right ⟨5, 0, 3, 0, 0, verText ch⟩ = true := by simp [PAct.right, PAct.fit, hts]
  refine ⟨⟨5, 0, 3, 0, 0, verText ch⟩, rfl, by simp [PHeap.ready, hr5], by simp, fun r => ?_⟩
  have e1 : S.act ⟨5, 0, 3, 0, 0, verText ch⟩ r = (⟨S.last + 1, ByteArray.empty⟩, { S with blocks := S.blocks ++ [⟨S.last + 1, r, List.replicate 3 0, verText ch⟩], last := S.last + 1 }) := by
    simp [PHeap.act, hr5, PHeap.make]
  rw [e1]
  have hnb : S.last + 1 ≠ 0 := by omega
  have hv : (newVer ep x ch).take ⟨S.last + 1, ByteArray.empty⟩ = ⟨verTodo ep x ch, 1, S.last + 1⟩ := by
    unfold PVer.take newVer
    rw [if_neg (by simp [verTodo])]
    simp [hnb]
  have hlen : 1 < (verTodo ep x ch).length := by simp [verTodo]
  have ht : PLay.take ⟨c, ep, ch :: l, 3, fd, fk, (p : Int), newVer ep x ch, blk, laid⟩ ⟨S.last + 1, ByteArray.empty⟩ = ⟨c, ep, ch :: l, 3, fd, fk, (p : Int), ⟨verTodo ep x ch, 1, S.last + 1⟩, blk, laid⟩ := by
    show PLay.made ⟨c, ep, ch :: l, 3, fd, fk, (p : Int), (newVer ep x ch).take ⟨S.last + 1, ByteArray.empty⟩, blk, laid⟩ = _
    rw [hv]
    simp [PLay.made, PVer.result, hlen]
  rw [ht]
  have hVS := VS.make hL.shelved.keys r 3 (verText ch)
  obtain ⟨y, sts, hys⟩ : ∃ y sts, vsts ep x ch = y :: sts := ⟨_, _, rfl⟩
  have hln := vsts_len ep x ch
  rw [hys] at hln
  simp only [List.length_cons] at hln
  exact ⟨tx, st, none, _, hL.ver hVS, hj, .sv p x S r 1 (verTodo ep x ch) (List.replicate 3 0) y sts h1 h2 h3 hL hx1 hx2 hVS rfl (by rw [← hys]; exact vsts_lt ep x ch) (by rw [← hys]; exact vsts_todo ep x ch) (by decide) (by rw [← hys]; exact vsts_fold ep x ch) h5 h6, by omega⟩
theorem lst_sv {J : List PChange → Option Nat → Int → (Nat → Option ByteArray) → (Nat → List PVersion) → Prop} {ch : PChange} {l : List PChange} {fk blk laid : Int} {fd : PFind} (p : Nat) (x : Int) (S0 : PHeap) (r at_ : Nat) (todo : List PAct) (cells : List Int) (y : Nat × Int) (sts : List (Nat × Int)) (h1 : (p : Int) < c.shelves) (h2 : LookIs c ch.key tx fk p) (h3 : fk = 1 ∧ tx p = some ch.key ∨ fk = 2 ∧ tx p = none) (hL : Laid S0 c tx st pn e) (hx1 : CtlAt S0 (kcell c p + 1) x) (hx2 : Chained S0 x (st p))
    (hVS : VS S0 S (S0.last + 1) r cells (verText ch)) (hcl : cells.length = 3) (hlt : ∀ z ∈ y :: sts, z.1 < 3) (hd : todo.drop at_ = (y :: sts).map (fun z => stA z.1 z.2)) (h0 : 0 < at_) (hf : (y :: sts).foldl (fun c z => c.set z.1 z.2) cells = [ep, x, if ch.has then 1 else 0]) (h5 : LOk (ch :: l)) (h6 : S0.last + 2 * l.length ≤ 900000) (hj : J (ch :: l) none laid tx st) :
    ∃ x', LStep c ep J S pn e ⟨c, ep, ch :: l, 3, fd, fk, (p : Int), ⟨todo, at_, S0.last + 1⟩, blk, laid⟩ (5 + sts.length + 140 * l.length) x' := by
  have hone := hL.shelved.one
  have hnb : S0.last + 1 ≠ 0 := by omega
  have hln : at_ + (sts.length + 1) = todo.length := by
    have := congrArg List.length hd
    simp at this
    omega
  have hat : todo[at_]? = some (stA y.1 y.2) := by
    have e : (todo.drop at_)[0]? = todo[at_]? := by rw [List.getElem?_drop, Nat.add_zero]
    rw [← e, hd]
    rfl
  have hy := hlt y (List.mem_cons_self ..)
  refine ⟨⟨2, S0.last + 1, (y.1 : Nat), 0, y.2, ByteArray.empty⟩, ?_, ready_storeB S _ _ _, by simp, fun r2 => ?_⟩
  · show PVer.act ⟨todo, at_, S0.last + 1⟩ = _
    unfold PVer.act
    simp only
    rw [hat]
    simp [h0, stA]
  rw [show S.act ⟨2, S0.last + 1, (y.1 : Nat), 0, y.2, ByteArray.empty⟩ r2 = _ from act_storeB hVS.new y.1 (by show y.1 < cells.length; omega) y.2 r2]
  have hv : PVer.take ⟨todo, at_, S0.last + 1⟩ ⟨0, ByteArray.empty⟩ = ⟨todo, at_ + 1, S0.last + 1⟩ := by
    unfold PVer.take
    have h00 : ¬ at_ = 0 := by omega
    rw [if_neg (by show ¬ at_ = todo.length; omega)]
    simp only [h00, if_false, hnb]
  have hVS2 := hVS.store y.1 y.2
  have hd2 : todo.drop (at_ + 1) = sts.map (fun z => stA z.1 z.2) := by
    rw [← List.drop_drop, hd]
    rfl
  have hlL := hL.ver hVS2
  cases sts with
  | nil =>
    have ht : PLay.take ⟨c, ep, ch :: l, 3, fd, fk, (p : Int), ⟨todo, at_, S0.last + 1⟩, blk, laid⟩ ⟨0, ByteArray.empty⟩ = ⟨c, ep, ch :: l, 4, fd, fk, (p : Int), ⟨todo, at_ + 1, S0.last + 1⟩, S0.last + 1, laid⟩ := by
      show PLay.made ⟨c, ep, ch :: l, 3, fd, fk, (p : Int), PVer.take ⟨todo, at_, S0.last + 1⟩ ⟨0, ByteArray.empty⟩, blk, laid⟩ = _
      rw [hv]
      have : ¬ at_ + 1 < todo.length := by simp at hln; omega
      simp [PLay.made, PVer.result, this]
    rw [ht]
    exact ⟨tx, st, none, _, hlL, hj, .lk p x S0 r h1 h2 h3 hL hx1 hx2 (by rw [← hf]; exact hVS2) h5 h6, by simp only [List.length_nil]; omega⟩
  | cons z sts =>
    have ht : PLay.take ⟨c, ep, ch :: l, 3, fd, fk, (p : Int), ⟨todo, at_, S0.last + 1⟩, blk, laid⟩ ⟨0, ByteArray.empty⟩ = ⟨c, ep, ch :: l, 3, fd, fk, (p : Int), ⟨todo, at_ + 1, S0.last + 1⟩, blk, laid⟩ := by
      show PLay.made ⟨c, ep, ch :: l, 3, fd, fk, (p : Int), PVer.take ⟨todo, at_, S0.last + 1⟩ ⟨0, ByteArray.empty⟩, blk, laid⟩ = _
      rw [hv]
      have : at_ + 1 < todo.length := by simp at hln; omega
      simp [PLay.made, PVer.result, this]
    rw [ht]
    exact ⟨tx, st, none, _, hlL, hj, .sv p x S0 r (at_ + 1) todo (cells.set y.1 y.2) z sts h1 h2 h3 hL hx1 hx2 hVS2 (by simpa using hcl) (fun q hq => hlt q (List.mem_cons_of_mem _ hq)) hd2 (by omega) hf h5 h6, by simp only [List.length_cons]; omega⟩
theorem lst_lk (hc : c.Right) {J : List PChange → Option Nat → Int → (Nat → Option ByteArray) → (Nat → List PVersion) → Prop} (hJ : LawJ c ep J) {ch : PChange} {l : List PChange} {fk laid : Int} {fd : PFind} {ver : PVer} (p : Nat) (x : Int) (S0 : PHeap) (r : Nat) (h1 : (p : Int) < c.shelves) (h2 : LookIs c ch.key tx fk p) (h3 : fk = 1 ∧ tx p = some ch.key ∨ fk = 2 ∧ tx p = none) (hL : Laid S0 c tx st pn e) (hx1 : CtlAt S0 (kcell c p + 1) x) (hx2 : Chained S0 x (st p))
    (hVS : VS S0 S (S0.last + 1) r [ep, x, if ch.has then 1 else 0] (verText ch)) (h5 : LOk (ch :: l)) (h6 : S0.last + 2 * l.length ≤ 900000) (hj : J (ch :: l) none laid tx st) :
    ∃ x', LStep c ep J S pn e ⟨c, ep, ch :: l, 4, fd, fk, (p : Int), ver, S0.last + 1, laid⟩ (4 + 140 * l.length) x' := by
  have hone := hL.shelved.one
  have hk := kcell_eq hc p
  have hx1' := hVS.ctl (by omega) hx1
  refine ⟨⟨2, 1, ((kcell c p + 1 : Nat) : Int), 0, S0.last + 1, ByteArray.empty⟩, ?_, ready_store S _ _, by simp, fun r2 => ?_⟩
  · show ((⟨2, 1, 3 + c.pins + c.cap + 2 * (p : Int) + 1, 0, S0.last + 1, ByteArray.empty⟩ : PAct), true) = _
    rw [show 3 + c.pins + c.cap + 2 * (p : Int) + 1 = ((kcell c p + 1 : Nat) : Int) by omega]
  rw [hx1'.store _ r2]
  have hL2 := hL.push hc p h1 (by omega) hx1 hx2 hVS
  have hlast : (S.set 1 (kcell c p + 1) (S0.last + 1)).last = S0.last + 1 := hVS.last
  rcases h3 with ⟨rfl, htx⟩ | ⟨rfl, htx⟩
  · obtain ⟨n', k1, k2, k3, k4⟩ := lst_next (ep := ep) (S := S.set 1 (kcell c p + 1) (S0.last + 1)) (tx := tx) (st := putS st p ⟨S0.last + 1, ep, ch.has, ch.value⟩) (pn := pn) (e := e) (part := 5) (fk := 1) (fs := p) (blk := S0.last + 1) (laid := laid + 1) (fd := fd) (ver := ver) hc (l := l) (fun x hx => h5 x (List.mem_cons_of_mem _ hx)) (by omega)
    exact ⟨tx, _, none, n', hL2, by
      show J (PLay.next ⟨c, ep, l, 5, fd, 1, p, ver, S0.last + 1, laid + 1⟩).l none (PLay.next ⟨c, ep, l, 5, fd, 1, p, ver, S0.last + 1, laid + 1⟩).laid tx _
      rw [k3, k4]
      exact hJ.one _ hj htx h2, k1, by omega⟩
  · exact ⟨tx, _, some p, _, hL2, hJ.two _ hj htx h2, .nm p h1 h2 htx h5 (by show (S.set 1 (kcell c p + 1) (S0.last + 1)).last + _ ≤ _; omega), by omega⟩
theorem lst_nm {J : List PChange → Option Nat → Int → (Nat → Option ByteArray) → (Nat → List PVersion) → Prop} (hL : Laid S c tx st pn e) {ch : PChange} {l : List PChange} {blk laid : Int} {fd : PFind} {ver : PVer} (p : Nat) (h1 : (p : Int) < c.shelves) (h2 : LookIs c ch.key tx 2 p) (htx : tx p = none) (h5 : LOk (ch :: l)) (h6 : S.last + 2 * l.length ≤ 900001) (hj : J (ch :: l) (some p) laid tx st) :
    ∃ x', LStep c ep J S pn e ⟨c, ep, ch :: l, 5, fd, 2, (p : Int), ver, blk, laid⟩ (3 + 140 * l.length) x' := by
  have hks := (h5 ch (List.mem_cons_self ..)).1
  have hr5 : PAct.right ⟨5, 0, 0, 0, 0, ch.key⟩ = true := by simp [PAct.right, PAct.fit, hks]
  refine ⟨⟨5, 0, 0, 0, 0, ch.key⟩, rfl, by simp [PHeap.ready, hr5], by simp, fun r => ?_⟩
  have e1 : S.act ⟨5, 0, 0, 0, 0, ch.key⟩ r = (⟨S.last + 1, ByteArray.empty⟩, S.more r ch.key) := by
    simp [PHeap.act, hr5, PHeap.make, PHeap.more]
  rw [e1]
  exact ⟨tx, st, some p, _, hL.ver (VS.make hL.shelved.keys r 0 ch.key), hj, .kp p S r h1 h2 htx hL rfl h5 h6, by omega⟩
theorem lst_kp (hc : c.Right) {J : List PChange → Option Nat → Int → (Nat → Option ByteArray) → (Nat → List PVersion) → Prop} (hJ : LawJ c ep J) {ch : PChange} {l : List PChange} {laid : Int} {fd : PFind} {ver : PVer} (p : Nat) (S0 : PHeap) (r : Nat) (h1 : (p : Int) < c.shelves) (h2 : LookIs c ch.key tx 2 p) (htx : tx p = none) (hL : Laid S0 c tx st pn e) (h5 : LOk (ch :: l)) (h6 : S0.last + 2 * l.length ≤ 900001) (hj : J (ch :: l) (some p) laid tx st) :
    ∃ x', LStep c ep J (S0.more r ch.key) pn e ⟨c, ep, ch :: l, 6, fd, 2, (p : Int), ver, S0.last + 1, laid⟩ (2 + 140 * l.length) x' := by
  obtain ⟨v, hv, _⟩ := hL.shelved.at_ p h1
  have hk := kcell_eq hc p
  refine ⟨⟨2, 1, ((kcell c p : Nat) : Int), 0, S0.last + 1, ByteArray.empty⟩, ?_, ready_store _ _ _, by simp, fun r2 => ?_⟩
  · show ((⟨2, 1, 3 + c.pins + c.cap + 2 * (p : Int), 0, S0.last + 1, ByteArray.empty⟩ : PAct), true) = _
    rw [show 3 + c.pins + c.cap + 2 * (p : Int) = ((kcell c p : Nat) : Int) by omega]
  rw [(hv.more r ch.key).store _ r2]
  have hlast : ((S0.more r ch.key).set 1 (kcell c p) (S0.last + 1)).last = S0.last + 1 := rfl
  obtain ⟨n', k1, k2, k3, k4⟩ := lst_next (ep := ep) (S := (S0.more r ch.key).set 1 (kcell c p) (S0.last + 1)) (tx := putT tx p ch.key) (st := st) (pn := pn) (e := e) (part := 6) (fk := 2) (fs := p) (blk := S0.last + 1) (laid := laid) (fd := fd) (ver := ver) hc (l := l) (fun x hx => h5 x (List.mem_cons_of_mem _ hx)) (by omega)
  exact ⟨_, st, none, n', hL.put hc p h1 r ch.key, by
    show J (PLay.next ⟨c, ep, l, 6, fd, 2, p, ver, S0.last + 1, laid⟩).l none (PLay.next ⟨c, ep, l, 6, fd, 2, p, ver, S0.last + 1, laid⟩).laid _ _
    rw [k3, k4]
    exact hJ.name hj htx h2, k1, by omega⟩
theorem lst_es (hc : c.Right) {J : List PChange → Option Nat → Int → (Nat → Option ByteArray) → (Nat → List PVersion) → Prop} (hL : Laid S c tx st pn e) {fk fs blk laid : Int} {fd : PFind} {ver : PVer} (hj : J [] none laid tx st) :
    ∃ x', LStep c ep J S pn e ⟨c, ep, [], 7, fd, fk, fs, ver, blk, laid⟩ 1 x' := by
  refine ⟨⟨2, 1, ((0 : Nat) : Int), 0, ep, ByteArray.empty⟩, rfl, ready_store S 0 _, by simp, fun r => ?_⟩
  rw [hL.epoch.store ep r]
  exact ⟨tx, st, none, 0, hL.at_epoch hc ep, hj, .dn, by omega⟩
theorem lst_step (hc : c.Right) {J : List PChange → Option Nat → Int → (Nat → Option ByteArray) → (Nat → List PVersion) → Prop} (hJ : LawJ c ep J) (hL : Laid S c tx st pn e) (hj : J s.l half s.laid tx st) (h : LSt c ep S tx st pn e s half n) (hne : s.part ≠ 8) : ∃ x, LStep c ep J S pn e s n x := by
  cases h with
  | f0 k d h1 h2 h3 h4 h5 h6 => exact lst_f0 hc hL k d h1 h2 h3 h4 h5 h6 hj
  | f1 k d v t y h1 h2 h3 h4 h5 h6 h7 h8 h9 => exact lst_f1 hc hJ hL k d v t y h1 h2 h3 h4 h5 h6 h7 h8 h9 hj
  | hd p h1 h2 h3 h4 h5 => exact lst_hd hc hL p h1 h2 h3 h4 h5 hj
  | mk p x h1 h2 h3 h4 h5 h6 h7 => exact lst_mk hL p x h1 h2 h3 h4 h5 h6 h7 hj
  | sv p x S0 r at_ todo cells y sts h1 h2 h3 h4 h5 h6 h7 h8 h9 h10 h11 h12 h13 h14 => exact lst_sv p x S0 r at_ todo cells y sts h1 h2 h3 h4 h5 h6 h7 h8 h9 h10 h11 h12 h13 h14 hj
  | lk p x S0 r h1 h2 h3 h4 h5 h6 h7 h8 h9 => exact lst_lk hc hJ p x S0 r h1 h2 h3 h4 h5 h6 h7 h8 h9 hj
  | nm p h1 h2 h3 h4 h5 => exact lst_nm hL p h1 h2 h3 h4 h5 hj
  | kp p S0 r h1 h2 h3 h4 h5 h6 h7 =>
    subst h5
    exact lst_kp hc hJ p S0 r h1 h2 h3 h4 h6 h7 hj
  | es => exact lst_es hc hL hj
  | dn => exact absurd rfl hne
theorem next_eight (s : PLay) (h : (PLay.next s).part = 8) : False := by
  unfold PLay.next at h
  split at h <;> simp at h
theorem take_eight {s : PLay} {g : PGot} (h : (s.take g).part = 8) : s.part = 7 ∨ s.part = 8 := by
  unfold PLay.take at h
  split at h
  · rename_i h1
    unfold PLay.look at h
    split at h
    · have h : s.part = 8 := h
      omega
    split at h
    · exact (next_eight _ h).elim
    · simp at h
  split at h
  · simp at h
  split at h
  · rename_i h1
    unfold PLay.made at h
    split at h
    · simp at h
    · have h : s.part = 8 := h
      omega
  split at h
  · split at h
    · exact (next_eight _ h).elim
    · simp at h
  split at h
  · simp at h
  split at h
  · exact (next_eight _ h).elim
  split at h
  · rename_i h1
    exact .inl h1
  · exact .inr h
/-- A run of it. -/
theorem lst_run (hc : c.Right) {J : List PChange → Option Nat → Int → (Nat → Option ByteArray) → (Nat → List PVersion) → Prop} (hJ : LawJ c ep J) : ∀ (xs : List (PAct × PGot)) {S S' : PHeap} {tx : Nat → Option ByteArray} {st : Nat → List PVersion} {e : Int} {s s' : PLay} {half : Option Nat} {n m : Int}, Laid S c tx st pn e → J s.l half s.laid tx st → (s.part = 8 → e = ep) → LSt c ep S tx st pn e s half n → Runs layRout S s xs S' s' → (m ≤ (xs.length : Nat) ∨ layRout.can S' s' = false) → n + 1 ≤ m →
    ∃ tx' st', Laid S' c tx' st' pn ep ∧ J [] none s'.laid tx' st' ∧ s'.part = 8 ∧ (xs.length : Int) ≤ n
  | [], S, S', tx, st, e, s, s', half, n, m, hL, hj, he, h, hr, hst, hm => by
    obtain ⟨rfl, rfl⟩ := hr
    have hp := h.pos
    have h8 : s.part = 8 := by
      rcases Classical.em (s.part = 8) with h5 | h5
      · exact h5
      · obtain ⟨y, hy⟩ := lst_step hc hJ hL hj h h5
        have e : layRout.act s = (y, true) := hy.act
        rcases hst with h1 | h1
        · simp at h1; omega
        · unfold Rout.can at h1
          rw [e, show S.ready (y, true).1 = true from hy.ready] at h1
          cases h1
    have he := he h8
    subst he
    cases h with
    | dn => exact ⟨tx, st, hL, hj, rfl, by simp⟩
    | _ => simp at h8
  | x :: xs, S, S', tx, st, e, s, s', half, n, m, hL, hj, he, h, hr, hst, hm => by
    obtain ⟨hcan, r, hx, hr⟩ := hr
    have hne : s.part ≠ 8 := fun h5 => by
      have e : layRout.act s = (noAct, false) := by show PLay.act s = _; simp [PLay.act, h5]
      unfold Rout.can at hcan
      rw [e] at hcan
      cases hcan
    obtain ⟨y, hy⟩ := lst_step hc hJ hL hj h hne
    have e : layRout.act s = (y, true) := hy.act
    rw [e] at hr
    obtain ⟨tx1, st1, half1, n1, k1, k2, k3, k4⟩ := hy.next r
    have hst2 : m - 1 ≤ (xs.length : Nat) ∨ layRout.can S' s' = false := hst.imp (fun q => by simp only [List.length_cons] at q; omega) id
    have hfin := lst_run hc hJ xs k1 k2 (fun h8 => ?_) k3 hr hst2 (by omega)
    · obtain ⟨tx2, st2, j1, j2, j3, j4⟩ := hfin
      exact ⟨tx2, st2, j1, j2, j3, by simp only [List.length_cons]; omega⟩
    by_cases h7 : s.part = 7
    · rw [if_pos h7]
    · rcases take_eight h8 with h | h
      · exact absurd h h7
      · exact absurd h hne
end Go.Proofs.YtmlnhjfdhjachaaGreat
