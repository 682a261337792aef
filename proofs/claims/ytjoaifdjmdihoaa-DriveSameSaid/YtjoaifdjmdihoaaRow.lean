/-
  The routine that is a row of acts (layer 19). No condition.
-/
import Derived.Test.YtjoaifdjmdihoaaDrive
import Derived.Test.YtjoaifdjmdihoaaLexH
import Derived.Deep.RegionLaw
import Derived.Deep.Cut
import Derived.StillTailTactics
namespace Go.Proofs.Ytjoaifdjmdihoaa
set_option linter.unusedVariables false
open Go.ChangeShapes Go.WideShapes Go.ChangeAt Go.RowKit
open Go.ChangeMaps (setBlock)

def actC (a : PAct) : List Value := [.int .i64 a.kind, .int .u64 a.block, .int .i64 a.cell, .int .u64 a.old, .int .u64 a.new, .string a.text]
def gotC (g : PGot) : List Value := [.int .u64 g.word, .string g.text]
theorem actC_at : ∀ (l : List PAct) (k : Nat) (a : PAct), l[k]? = some a → ∀ i : Nat, i < 6 → (l.flatMap actC)[k * 6 + i]? = (actC a)[i]?
  | [], k, a, h, i, hi => by simp at h
  | d :: l, 0, a, h, i, hi => by
    have e : d = a := by simpa using h
    subst e
    show (actC d ++ l.flatMap actC)[0 * 6 + i]? = _
    rw [List.getElem?_append_left (by show _ < 6; omega)]
    rw [show 0 * 6 + i = i by omega]
  | d :: l, k + 1, a, h, i, hi => by
    have h2 := actC_at l k a (by simpa using h) i hi
    show (actC d ++ l.flatMap actC)[(k + 1) * 6 + i]? = _
    rw [List.getElem?_append_right (by show 6 ≤ _; omega), show (k + 1) * 6 + i - (actC d).length = k * 6 + i from by show (k + 1) * 6 + i - 6 = _; omega]
    exact h2
structure PRow where
  l : List PAct
  n : Nat
  got : List PGot
def PRow.act (s : PRow) : PAct × Bool := match s.l[s.n]? with
  | some a => (a, true)
  | none => (noAct, false)
def PRow.take (s : PRow) (g : PGot) : PRow := ⟨s.l, s.n + 1, s.got ++ [g]⟩
/-- The row lies at b, its answers in a row of its own. -/
structure RowIn (w : World) (G : Nat → Prop) (b : Nat) (s : PRow) (A : Option Addr) (cap : Nat) (o : Option Obj) (gv : Value) : Prop where
  blk : Blk w b 50 #[.slice A s.l.length cap, .int .i64 s.n, gv]
  len : s.l.length ≤ 1000
  n : s.n ≤ s.l.length
  got : s.got.length = s.n
  ok : ∀ a ∈ s.l, a.Ok
  args : 0 < s.l.length → ∃ ad, A = some ad ∧ G ad.block ∧ ad.block ≠ b ∧ w.heap[ad.block]? = o ∧ ∀ j u, (s.l.flatMap actC)[j]? = some u → w.cell? (ad.add j) = some u
  own : w.ownsRow 0 61 2 gv s.n (s.got.flatMap gotC)
  row : ∀ g, gv.ownBlock = some g → G g ∧ g ≠ b ∧ ∀ ad, A = some ad → 0 < s.l.length → ad.block ≠ g
def RowR (A : Option Addr) (cap : Nat) (o : Option Obj) (w : World) (G : Nat → Prop) (b : Nat) (s : PRow) : Prop := In G w ∧ G b ∧ ∃ gv, RowIn w G b s A cap o gv
theorem reads_one (W : World) (t : TypeId) (cs : Array Value) (size : Nat) (h : cs.size = 1 * size) : Reads (W.alloc (.cells cs t)) (W.heap.size + 1) size (some ⟨W.heap.size, 0, none⟩) 1 cs.toList := by
  refine ⟨by simpa using h, fun _ => ⟨_, rfl, Nat.lt_succ_self _, fun j u hu => ?_⟩⟩
  have e : (⟨W.heap.size, 0, none⟩ : Addr).add j = ⟨W.heap.size, j, none⟩ := by unfold Addr.add; split <;> simp_all
  rw [e, (Blk.new W t cs).cell j]
  simpa using hu
theorem own_lt {w : World} {base : Nat} {e : TypeId} {size : Nat} {v : Value} {n : Nat} {xs : List Value} (h : w.ownsRow base e size v n xs) {g : Nat} (hg : v.ownBlock = some g) : base ≤ g ∧ g < w.heap.size := by
  rcases h.2 with ⟨rfl, _⟩ | ⟨g', cap, cur, rfl, e1, e2, _⟩
  · cases hg
  · have e3 : g' = g := by injection hg
    subst e3
    exact ⟨e1, (Array.getElem?_eq_some_iff.1 e2).1⟩
theorem own_succ {w : World} {base : Nat} {e : TypeId} {size n : Nat} {v : Value} {xs : List Value} (h : w.ownsRow base e size v (n + 1) xs) : ∃ g c, v = .slice (some ⟨g, 0, none⟩) (n + 1) c := by
  rcases h.2 with ⟨_, h0⟩ | ⟨g, cap, cur, rfl, _⟩
  · omega
  · exact ⟨g, cap, rfl⟩
theorem ownsRow_keep {w w' : World} {base : Nat} {e : TypeId} {size : Nat} {v : Value} {n : Nat} {xs : List Value} (h : w.ownsRow base e size v n xs) (hk : ∀ g, v.ownBlock = some g → w'.heap[g]? = w.heap[g]?) : w'.ownsRow base e size v n xs := by
  refine ⟨h.1, h.2.imp id ?_⟩
  rintro ⟨g, cap, cur, rfl, e2, e3, e4⟩
  exact ⟨g, cap, cur, rfl, e2, (hk g rfl).trans e3, e4⟩
theorem RowIn.keep {w w' : World} {G : Nat → Prop} {b : Nat} {s : PRow} {A : Option Addr} {cap : Nat} {o : Option Obj} {gv : Value} (h : RowIn w G b s A cap o gv) (hb : G b) (hk : ∀ k, G k → w'.heap[k]? = w.heap[k]?) : RowIn w' G b s A cap o gv :=
  ⟨h.blk.keep (hk _ hb), h.len, h.n, h.got, h.ok, fun h0 => by
    obtain ⟨ad, e, h1, h2, h4, h3⟩ := h.args h0
    exact ⟨ad, e, h1, h2, (hk _ h1).trans h4, fun j u hu => by
      have hbl : (ad.add j).block = ad.block := by unfold Addr.add; split <;> rfl
      exact (World.cell?_of_block (by rw [hbl]; exact hk _ h1)).trans (h3 j u hu)⟩, ownsRow_keep h.own fun g hg => hk _ (h.row g hg).1, h.row⟩
theorem RowIn.wide {w : World} {G G' : Nat → Prop} {b : Nat} {s : PRow} {A : Option Addr} {cap : Nat} {o : Option Obj} {gv : Value} (h : RowIn w G b s A cap o gv) (hG : ∀ k, G k → G' k) : RowIn w G' b s A cap o gv :=
  ⟨h.blk, h.len, h.n, h.got, h.ok, fun h0 => by
    obtain ⟨ad, e, h1, h3⟩ := h.args h0
    exact ⟨ad, e, hG _ h1, h3⟩, h.own, fun g hg => ⟨hG _ (h.row g hg).1, (h.row g hg).2⟩⟩
theorem rowAct_ok {w : World} {G : Nat → Prop} {b : Nat} {s : PRow} {A : Option Addr} {cap : Nat} {o : Option Obj} {gv : Value} (h : RowIn w G b s A cap o gv) : (s.act).1.Ok := by
  unfold PRow.act
  cases hx : s.l[s.n]? with
  | none => exact ⟨by decide, by decide, by decide, by decide, by decide, by decide⟩
  | some a => exact h.ok a (List.mem_of_getElem? hx)
theorem genW19 {α : World → Prop} (Pw : World → Prop) {W : World} (h : Pw W) (k : ∀ W', Pw W' → α W') : α W := k W h
set_option maxRecDepth 100000 in
set_option maxHeartbeats 4000000 in
/-- The row's next act is there. -/
theorem rowAct_some {w : World} {b : Nat} {ad : Addr} {len cap n : Nat} {ak ab ac ao an : Int} {at_ : ByteArray} (hlt : n < len) (hl : len ≤ 1000) (hF : ∀ W, Below w.heap.size w W → (fun W : World => W.cell? ⟨b, 0, none⟩ = some (.slice (some ad) len cap) ∧ W.cell? ⟨b, 1, none⟩ = some (.int .i64 n) ∧ W.cell? (ad.add (n * 6)) = some (.int .i64 ak) ∧ W.cell? ⟨(ad.add (n * 6)).block, (ad.add (n * 6)).off + 1, none⟩ = some (.int .u64 ab) ∧ W.cell? ⟨(ad.add (n * 6)).block, (ad.add (n * 6)).off + 2, none⟩ = some (.int .i64 ac) ∧ W.cell? ⟨(ad.add (n * 6)).block, (ad.add (n * 6)).off + 3, none⟩ = some (.int .u64 ao) ∧ W.cell? ⟨(ad.add (n * 6)).block, (ad.add (n * 6)).off + 4, none⟩ = some (.int .u64 an) ∧ W.cell? ⟨(ad.add (n * 6)).block, (ad.add (n * 6)).off + 5, none⟩ = some (.string at_)) W) :
    Calls Try.prog 94 #[.pointer (some ⟨b, 0, none⟩)] w fun e w' => e = .returned (.tuple #[.agg #[.int .i64 ak, .int .u64 ab, .int .i64 ac, .int .u64 ao, .int .u64 an, .string at_], .bool true]) ∧ Below w.heap.size w w' := by
  have d1 : decide ((n : Int) < (len : Int)) = true := by simp; omega
  have d2 : (0 : Int) ≤ (n : Int) := by omega
  have d3 : (n : Int) < (len : Int) := by omega
  have d4 : decide ((len : Int) ≤ (n : Int)) = false := by simp; omega
  replace hF := Lib.hid hF
  go_enter Try.func94, Try.ntmps94
  go_upto_region 1 with fail
  refine genW19 (α := fun W' => Code.wp _ _ _ _ W') (fun W' => Blk W' w.heap.size 59 #[.int .i64 0, .int .u64 0, .int .i64 0, .int .u64 0, .int .u64 0, .string ⟨#[]⟩] ∧ Below w.heap.size w W') ⟨Blk.new w _ _, Below.more_ (Below.refl _ _) _⟩ ?_
  rintro W1 ⟨a1, hz1⟩
  have hf1 := hF.out _ hz1.drew
  refine wp_region_lex [(true, 0), (true, 1), (true, 2), (true, 3), (true, 4), (true, 5), (true, 6), (true, 7), (true, 8), (true, 9)] (fun W : World => W.cell? ⟨b, 0, none⟩ = some (.slice (some ad) len cap) ∧ W.cell? ⟨b, 1, none⟩ = some (.int .i64 n)) (by kernel_rfl) (by kernel_rfl) (fun R hR => ?_)
  have hHeld : (fun W : World => W.cell? ⟨b, 0, none⟩ = some (.slice (some ad) len cap) ∧ W.cell? ⟨b, 1, none⟩ = some (.int .i64 n)) W1.drew := ⟨hf1.1, hf1.2.1⟩
  replace a1 := Lib.hid a1
  replace hz1 := Lib.hid hz1
  clear hf1
  repeat (refine lex_take (v := ?_) rfl (by rfl) (by assumption) ?_ ?_; rotate_left 1; (focus (intro w hSw; (try dsimp only at hSw); go_simp; (try with_reducible rfl))); (try simp only [Act.put, List.setIfInBounds_toArray, List.set_cons_zero, List.set_cons_succ]))
  refine lex_end ?_
  refine hR.out _ _ ?_
  clear hR R hHeld
  go_upto_region 3 with fail
  have a2 : Blk W1.drew.drew w.heap.size 59 #[.int .i64 0, .int .u64 0, .int .i64 0, .int .u64 0, .int .u64 0, .string ⟨#[]⟩] := a1.out
  have hz2 : Below w.heap.size w W1.drew.drew := hz1.out.drew.drew
  refine wp_region_lex [(true, 0), (true, 1), (true, 2), (true, 3), (true, 4), (true, 5), (true, 6), (true, 7), (true, 8), (true, 9), (false, 10), (true, 11)] (fun W : World => W.cell? ⟨b, 0, none⟩ = some (.slice (some ad) len cap) ∧ W.cell? ⟨b, 1, none⟩ = some (.int .i64 n) ∧ W.cell? (ad.add (n * 6)) = some (.int .i64 ak) ∧ W.cell? ⟨(ad.add (n * 6)).block, (ad.add (n * 6)).off + 1, none⟩ = some (.int .u64 ab) ∧ W.cell? ⟨(ad.add (n * 6)).block, (ad.add (n * 6)).off + 2, none⟩ = some (.int .i64 ac) ∧ W.cell? ⟨(ad.add (n * 6)).block, (ad.add (n * 6)).off + 3, none⟩ = some (.int .u64 ao) ∧ W.cell? ⟨(ad.add (n * 6)).block, (ad.add (n * 6)).off + 4, none⟩ = some (.int .u64 an) ∧ W.cell? ⟨(ad.add (n * 6)).block, (ad.add (n * 6)).off + 5, none⟩ = some (.string at_)) (by kernel_rfl) (by kernel_rfl) (fun R hR => ?_)
  have hHeld : (fun W : World => W.cell? ⟨b, 0, none⟩ = some (.slice (some ad) len cap) ∧ W.cell? ⟨b, 1, none⟩ = some (.int .i64 n) ∧ W.cell? (ad.add (n * 6)) = some (.int .i64 ak) ∧ W.cell? ⟨(ad.add (n * 6)).block, (ad.add (n * 6)).off + 1, none⟩ = some (.int .u64 ab) ∧ W.cell? ⟨(ad.add (n * 6)).block, (ad.add (n * 6)).off + 2, none⟩ = some (.int .i64 ac) ∧ W.cell? ⟨(ad.add (n * 6)).block, (ad.add (n * 6)).off + 3, none⟩ = some (.int .u64 ao) ∧ W.cell? ⟨(ad.add (n * 6)).block, (ad.add (n * 6)).off + 4, none⟩ = some (.int .u64 an) ∧ W.cell? ⟨(ad.add (n * 6)).block, (ad.add (n * 6)).off + 5, none⟩ = some (.string at_)) W1.drew.drew := hF.out _ hz2
  generalize W1.drew.drew = W2 at *
  clear a1 hz1
  have y0 := a2.cell 0
  have y1 := a2.cell 1
  have y2 := a2.cell 2
  have y3 := a2.cell 3
  have y4 := a2.cell 4
  have y5 := a2.cell 5
  have g0 := a2.frozen 0
  have g1 := a2.frozen 1
  have g2 := a2.frozen 2
  have g3 := a2.frozen 3
  have g4 := a2.frozen 4
  have g5 := a2.frozen 5
  replace a2 := Lib.hid a2
  replace hz2 := Lib.hid hz2
  repeat (refine lex_take (v := ?_) rfl (by rfl) (by assumption) ?_ ?_; rotate_left 1; (focus (intro w hSw; (try dsimp only at hSw); go_simp; (try with_reducible rfl))); (try simp only [Act.put, List.setIfInBounds_toArray, List.set_cons_zero, List.set_cons_succ]))
  (refine lex_call rfl (by rfl) (fun K hq => ?_); go_simp)
  refine genW19 (α := fun W' => K _ W') (fun W' => Blk W' w.heap.size 59 #[.int .i64 ak, .int .u64 ab, .int .i64 ac, .int .u64 ao, .int .u64 an, .string at_] ∧ Below w.heap.size w W') ⟨Blk.eq_cs ((((((a2.out.set_ 0 _).set_ 1 _).set_ 2 _).set_ 3 _).set_ 4 _).set_ 5 _) rfl, ?_⟩ ?_
  · repeat (refine Below.setCell ?_ (by exact Nat.le_refl _) _)
    exact hz2.out
  clear y0 y1 y2 y3 y4 y5 g0 g1 g2 g3 g4 g5 hHeld
  rintro W3 ⟨v1, v2⟩
  have hHeld : (fun W : World => W.cell? ⟨b, 0, none⟩ = some (.slice (some ad) len cap) ∧ W.cell? ⟨b, 1, none⟩ = some (.int .i64 n) ∧ W.cell? (ad.add (n * 6)) = some (.int .i64 ak) ∧ W.cell? ⟨(ad.add (n * 6)).block, (ad.add (n * 6)).off + 1, none⟩ = some (.int .u64 ab) ∧ W.cell? ⟨(ad.add (n * 6)).block, (ad.add (n * 6)).off + 2, none⟩ = some (.int .i64 ac) ∧ W.cell? ⟨(ad.add (n * 6)).block, (ad.add (n * 6)).off + 3, none⟩ = some (.int .u64 ao) ∧ W.cell? ⟨(ad.add (n * 6)).block, (ad.add (n * 6)).off + 4, none⟩ = some (.int .u64 an) ∧ W.cell? ⟨(ad.add (n * 6)).block, (ad.add (n * 6)).off + 5, none⟩ = some (.string at_)) W3 := hF.out _ v2
  (refine hq.out _ _ (fun W : World => W.cell? ⟨b, 0, none⟩ = some (.slice (some ad) len cap) ∧ W.cell? ⟨b, 1, none⟩ = some (.int .i64 n) ∧ W.cell? (ad.add (n * 6)) = some (.int .i64 ak) ∧ W.cell? ⟨(ad.add (n * 6)).block, (ad.add (n * 6)).off + 1, none⟩ = some (.int .u64 ab) ∧ W.cell? ⟨(ad.add (n * 6)).block, (ad.add (n * 6)).off + 2, none⟩ = some (.int .i64 ac) ∧ W.cell? ⟨(ad.add (n * 6)).block, (ad.add (n * 6)).off + 3, none⟩ = some (.int .u64 ao) ∧ W.cell? ⟨(ad.add (n * 6)).block, (ad.add (n * 6)).off + 4, none⟩ = some (.int .u64 an) ∧ W.cell? ⟨(ad.add (n * 6)).block, (ad.add (n * 6)).off + 5, none⟩ = some (.string at_)) (fun _ h => h) hHeld ?_; clear hq K; (try simp only [Act.put, List.setIfInBounds_toArray, List.set_cons_zero, List.set_cons_succ]))
  repeat (refine lex_take (v := ?_) rfl (by rfl) (by assumption) ?_ ?_; rotate_left 1; (focus (intro w hSw; (try dsimp only at hSw); go_simp; (try with_reducible rfl))); (try simp only [Act.put, List.setIfInBounds_toArray, List.set_cons_zero, List.set_cons_succ]))
  refine lex_end ?_
  refine hR.out _ _ ?_
  clear hR R hHeld
  have e0 := v1.cell 0
  have e1 := v1.cell 1
  have e2 := v1.cell 2
  have e3 := v1.cell 3
  have e4 := v1.cell 4
  have e5 := v1.cell 5
  replace v1 := Lib.hid v1
  replace v2 := Lib.hid v2
  go_wp2_with fail
  exact bodyPost_ret (v := .tuple #[.agg #[.int .i64 ak, .int .u64 ab, .int .i64 ac, .int .u64 ao, .int .u64 an, .string at_], .bool true]) (by simp [results, Try.results94, go_sem, e0, e1, e2, e3, e4, e5]) rfl ⟨rfl, v2.out⟩
set_option maxRecDepth 100000 in
set_option maxHeartbeats 4000000 in
/-- There is none any more. -/
theorem rowAct_none {w : World} {b : Nat} {A : Option Addr} {len cap n : Nat} (hge : len ≤ n) (hF : ∀ W, Below w.heap.size w W → (fun W : World => W.cell? ⟨b, 0, none⟩ = some (.slice A len cap) ∧ W.cell? ⟨b, 1, none⟩ = some (.int .i64 n)) W) :
    Calls Try.prog 94 #[.pointer (some ⟨b, 0, none⟩)] w fun e w' => e = .returned (.tuple #[.agg #[.int .i64 0, .int .u64 0, .int .i64 0, .int .u64 0, .int .u64 0, .string ⟨#[]⟩], .bool false]) ∧ Below w.heap.size w w' := by
  have d4 : decide ((len : Int) ≤ (n : Int)) = true := by simp; omega
  replace hF := Lib.hid hF
  go_enter Try.func94, Try.ntmps94
  go_upto_region 1 with fail
  refine genW19 (α := fun W' => Code.wp _ _ _ _ W') (fun W' => Blk W' w.heap.size 59 #[.int .i64 0, .int .u64 0, .int .i64 0, .int .u64 0, .int .u64 0, .string ⟨#[]⟩] ∧ Below w.heap.size w W') ⟨Blk.new w _ _, Below.more_ (Below.refl _ _) _⟩ ?_
  rintro W1 ⟨a1, hz1⟩
  have hf1 := hF.out _ hz1.drew
  refine wp_region_lex [(true, 0), (true, 1), (true, 2), (true, 3), (true, 4), (true, 5), (true, 6), (true, 7), (true, 8), (true, 9)] (fun W : World => W.cell? ⟨b, 0, none⟩ = some (.slice A len cap) ∧ W.cell? ⟨b, 1, none⟩ = some (.int .i64 n)) (by kernel_rfl) (by kernel_rfl) (fun R hR => ?_)
  have hHeld : (fun W : World => W.cell? ⟨b, 0, none⟩ = some (.slice A len cap) ∧ W.cell? ⟨b, 1, none⟩ = some (.int .i64 n)) W1.drew := hf1
  have a2 : Blk W1.drew w.heap.size 59 #[.int .i64 0, .int .u64 0, .int .i64 0, .int .u64 0, .int .u64 0, .string ⟨#[]⟩] := a1
  have hz2 : Below w.heap.size w W1.drew := hz1.drew
  clear hf1 a1 hz1
  generalize W1.drew = W2 at *
  have g0 := a2.frozen 0
  have g1 := a2.frozen 1
  have g2 := a2.frozen 2
  have g3 := a2.frozen 3
  have g4 := a2.frozen 4
  have g5 := a2.frozen 5
  have y0 := a2.cell 0
  have y1 := a2.cell 1
  have y2 := a2.cell 2
  have y3 := a2.cell 3
  have y4 := a2.cell 4
  have y5 := a2.cell 5
  replace a2 := Lib.hid a2
  replace hz2 := Lib.hid hz2
  repeat (refine lex_take (v := ?_) rfl (by rfl) (by assumption) ?_ ?_; rotate_left 1; (focus (intro w hSw; (try dsimp only at hSw); go_simp; (try with_reducible rfl))); (try simp only [Act.put, List.setIfInBounds_toArray, List.set_cons_zero, List.set_cons_succ]))
  refine lex_end ?_
  refine hR.out _ _ ?_
  clear hR R hHeld
  go_wp2_with fail
  refine genW19 (α := fun W' => bodyPost _ _ _ _ _ W') (fun W' => Blk W' w.heap.size 59 #[.int .i64 0, .int .u64 0, .int .i64 0, .int .u64 0, .int .u64 0, .string ⟨#[]⟩] ∧ Below w.heap.size w W') ⟨Blk.eq_cs ((((((a2.out.set_ 0 _).set_ 1 _).set_ 2 _).set_ 3 _).set_ 4 _).set_ 5 _) rfl, ?_⟩ ?_
  · repeat (refine Below.setCell ?_ (by exact Nat.le_refl _) _)
    exact hz2.out
  rintro W' ⟨v1, v2⟩
  have e0 := v1.cell 0
  have e1 := v1.cell 1
  have e2 := v1.cell 2
  have e3 := v1.cell 3
  have e4 := v1.cell 4
  have e5 := v1.cell 5
  exact bodyPost_ret (v := .tuple #[.agg #[.int .i64 0, .int .u64 0, .int .i64 0, .int .u64 0, .int .u64 0, .string ⟨#[]⟩], .bool false]) (by simp [results, Try.results94, go_sem, e0, e1, e2, e3, e4, e5]) rfl ⟨rfl, v2⟩
theorem rowAct_any {w : World} {G : Nat → Prop} {b : Nat} {s : PRow} {A : Option Addr} {cap : Nat} {o : Option Obj} {gv : Value} (hIn : In G w) (hb : G b) (h : RowIn w G b s A cap o gv) : Calls Try.prog 94 #[.pointer (some ⟨b, 0, none⟩)] w fun e w' => e = .returned (.tuple #[s.act.1.val, .bool s.act.2]) ∧ Below w.heap.size w w' := by
  have hk : ∀ W, Below w.heap.size w W → RowIn W G b s A cap o gv := fun W hW => h.keep hb fun k hk => hW.block k (hIn k hk)
  rcases Nat.lt_or_ge s.n s.l.length with hlt | hge
  · obtain ⟨ad, rfl, _⟩ := h.args (by omega)
    obtain ⟨⟨ak, ab, ac, ao, an, at_⟩, ha⟩ : ∃ a, s.l[s.n]? = some a := ⟨_, List.getElem?_eq_getElem hlt⟩
    rw [show s.act = (⟨ak, ab, ac, ao, an, at_⟩, true) from by unfold PRow.act; rw [ha]]
    refine rowAct_some (ad := ad) (cap := cap) hlt h.len fun W hW => ?_
    have h1 := hk W hW
    obtain ⟨ad', e, _, _, _, hc⟩ := h1.args (by omega)
    cases e
    have hat := actC_at s.l s.n _ ha
    have fld : ∀ j, (⟨(ad.add (s.n * 6)).block, (ad.add (s.n * 6)).off + (j + 1), none⟩ : Addr) = ad.add (s.n * 6 + (j + 1)) := fun j => by
      rw [← add_of_add]
      rfl
    refine ⟨h1.blk.cell 0, h1.blk.cell 1, hc _ _ ((hat 0 (by omega)).trans rfl), ?_, ?_, ?_, ?_, ?_⟩
    · exact (congrArg W.cell? (fld 0)).trans (hc _ _ ((hat 1 (by omega)).trans rfl))
    · exact (congrArg W.cell? (fld 1)).trans (hc _ _ ((hat 2 (by omega)).trans rfl))
    · exact (congrArg W.cell? (fld 2)).trans (hc _ _ ((hat 3 (by omega)).trans rfl))
    · exact (congrArg W.cell? (fld 3)).trans (hc _ _ ((hat 4 (by omega)).trans rfl))
    · exact (congrArg W.cell? (fld 4)).trans (hc _ _ ((hat 5 (by omega)).trans rfl))
  · rw [show s.act = (noAct, false) from by unfold PRow.act; rw [List.getElem?_eq_none hge]]
    exact rowAct_none (A := A) (cap := cap) hge fun W hW => ⟨(hk W hW).blk.cell 0, (hk W hW).blk.cell 1⟩
theorem row_fin {w W w5 w6 : World} {G : Nat → Prop} {b : Nat} {s : PRow} {A : Option Addr} {cap : Nat} {o : Option Obj} {gv v' : Value} (hIn : In G w) (hb : G b) (h : RowIn w G b s A cap o gv) (hlt : s.n < s.l.length) (hW : Below w.heap.size w W) (g : PGot)
    (hown : w5.ownsRow 0 61 2 v' (s.n + 1) (s.got.flatMap gotC ++ gotC g)) (hgr : W.grownBy w5 gv.ownBlock) (hloc : v'.ownBlock = gv.ownBlock ∨ v'.ownBlock = some W.heap.size) (hc : Chg (fun k => k = b) w5 w6) (hB : Blk w6 b 50 #[.slice A s.l.length cap, .int .i64 ((s.n : Int) + 1), v']) :
    (In (nw G w w6) w6 ∧ nw G w w6 b ∧ RowIn w6 (nw G w w6) b (s.take g) A cap o v') ∧ Chg G w w6 := by
  have hsz : w.heap.size ≤ w6.heap.size := Nat.le_trans hW.size (Nat.le_trans hgr.size hc.size)
  have hlt' : ∀ g, v'.ownBlock = some g → g < w5.heap.size := fun g hg => by
    rcases hown.2 with ⟨rfl, _⟩ | ⟨g', cap, cur, rfl, _, e, _⟩
    · cases hg
    · have e2 : g' = g := by injection hg
      subst e2
      exact (Array.getElem?_eq_some_iff.1 e).1
  have keep : ∀ k, k < w.heap.size → k ≠ b → (∀ g, gv.ownBlock = some g → k ≠ g) → w6.heap[k]? = w.heap[k]? := fun k h1 h2 h3 =>
    (hc.block k (Nat.lt_of_lt_of_le h1 (Nat.le_trans hW.size hgr.size)) h2).trans ((hgr.block k (Nat.lt_of_lt_of_le h1 hW.size) (fun e => h3 k e.symm rfl)).trans (hW.block k h1))
  have hv' : ∀ g, v'.ownBlock = some g → gv.ownBlock = some g ∨ (w.heap.size ≤ g ∧ g < w6.heap.size) := fun g hg => by
    rcases hloc with e | e
    · exact .inl (e ▸ hg)
    · have := hlt' g hg
      rw [hg] at e
      have e2 : g = W.heap.size := by injection e
      have := hW.size
      have := hc.size
      exact .inr ⟨by omega, by omega⟩
  have hnb : ∀ g, v'.ownBlock = some g → g ≠ b := fun g hg => by
    rcases hv' g hg with e | e
    · exact (h.row g e).2.1
    · have := hIn b hb
      omega
  refine ⟨⟨hIn.nw hsz, .inl hb, ⟨hB, h.len, hlt, ?_, h.ok, fun h0 => ?_, ?_, fun g hg => ⟨?_, hnb g hg, fun ad ha h0 => ?_⟩⟩⟩, ?_⟩
  · show (s.got ++ [g]).length = s.n + 1
    rw [List.length_append, h.got]
    rfl
  · obtain ⟨ad, e, h1, h2, h3, h4⟩ := h.args h0
    have hk := keep ad.block (hIn _ h1) h2 (fun g hg => (h.row g hg).2.2 ad e h0)
    refine ⟨ad, e, .inl h1, h2, hk.trans h3, fun j u hu => ?_⟩
    have hbl : (ad.add j).block = ad.block := by unfold Addr.add; split <;> rfl
    exact (World.cell?_of_block (by rw [hbl]; exact hk)).trans (h4 j u hu)
  · show w6.ownsRow 0 61 2 v' (s.n + 1) ((s.got ++ [g]).flatMap gotC)
    rw [List.flatMap_append, List.flatMap_singleton]
    exact ownsRow_keep hown fun g hg => hc.block g (hlt' g hg) (hnb g hg)
  · rcases hv' g hg with e | e
    · exact .inl (h.row g e).1
    · exact .inr e
  · rcases hv' g hg with e | e
    · exact (h.row g e).2.2 ad ha h0
    · obtain ⟨ad', e1, h1, _⟩ := h.args h0
      rw [ha] at e1
      have e2 : ad = ad' := by injection e1
      subst e2
      have := hIn _ h1
      omega
  · exact ⟨hc.os.trans (hgr.os.trans hW.os), hc.tape.trans (hgr.tape.trans hW.tape), hc.output.trans (hgr.output.trans hW.output), hsz, fun k hk hn => keep k hk (fun e => hn (e ▸ hb)) (fun g hg e => hn (e ▸ (h.row g hg).1))⟩
set_option maxRecDepth 100000 in
set_option maxHeartbeats 4000000 in
theorem rowTake_any {w : World} {G : Nat → Prop} {b : Nat} {s : PRow} {A : Option Addr} {cap : Nat} {o : Option Obj} {gv : Value} (hIn : In G w) (hb : G b) (h : RowIn w G b s A cap o gv) (g : PGot) (hlt : s.n < s.l.length) :
    Calls Try.prog 95 #[.pointer (some ⟨b, 0, none⟩), g.val] w fun e w' => e = .returned (.tuple #[]) ∧ RowR A cap o w' (nw G w w') b (s.take g) ∧ Chg G w w' := by
  obtain ⟨i0, hi, hz0', hz1', hz2'⟩ : ∃ i, Try.prog.info? 61 = some i ∧ i.zero = some (.agg #[.int .u64 0, .string ⟨#[]⟩]) ∧ i.size = 2 ∧ i.bytes = 24 := ⟨_, rfl, rfl, rfl, rfl⟩
  have hfin : ∀ (W w5 w6 : World) (v' : Value), _ := fun W w5 w6 v' => row_fin (w := w) (W := W) (w5 := w5) (w6 := w6) (v' := v') hIn hb h hlt
  have hbl := hIn b hb
  have hown0 : ∀ W, Below w.heap.size w W → W.ownsRow 0 61 2 gv s.n (s.got.flatMap gotC) := fun W hW => ownsRow_keep h.own fun g hg => hW.block g (hIn _ (h.row g hg).1)
  have hblk : ∀ W, Below w.heap.size w W → Blk W b 50 #[.slice A s.l.length cap, .int .i64 s.n, gv] := fun W hW => h.blk.below hW hbl
  have hne : some b ≠ gv.ownBlock := fun e => (h.row b e.symm).2.1 rfl
  have c1 := h.blk.cell 1
  have c2 := h.blk.cell 2
  have hl := h.len
  have hgot := h.got
  obtain ⟨gw, gt⟩ := g
  have hrd : ∀ W : World, W.heap.size = w.heap.size + 1 → Reads (W.alloc (.cells #[.int .u64 gw, .string gt] 61)) (w.heap.size + 2) 2 (some ⟨w.heap.size + 1, 0, none⟩) 1 [.int .u64 gw, .string gt] := fun W hW => by
    have h1 := reads_one W 61 #[.int .u64 gw, .string gt] 2 rfl
    rw [hW] at h1
    exact h1
  replace hrd := Lib.hid hrd
  rw [show PGot.val ⟨gw, gt⟩ = .agg #[.int .u64 gw, .string gt] from rfl]
  replace hfin := Lib.hid hfin
  replace hown0 := Lib.hid hown0
  replace hblk := Lib.hid hblk
  replace hne := Lib.hid hne
  replace hi := Lib.hid hi
  replace hz0' := Lib.hid hz0'
  replace hz1' := Lib.hid hz1'
  replace hz2' := Lib.hid hz2'
  go_enter Try.func95, Try.ntmps95
  go_wp2_with fail
  go_region_law (refine step_append_any _ rfl (.tmp 8) (.tmp 10) 48 rfl 0 61 i0 (.agg #[.int .u64 0, .string ⟨#[]⟩]) 2 24 Try.underlying48 hi.out hz0'.out hz1'.out hz2'.out rfl (by decide) gv s.n (s.got.flatMap gotC) (by simp [Act.eval]) (hown0.out _ (by (repeat first | exact Below.refl _ _ | assumption | refine Below.drew ?_ | refine below_drewN ?_ _ | refine Below.more_ ?_ _ | refine Below.setCell ?_ (by first | exact Nat.le_refl _ | (simp; done) | (simp; omega)) _))) (w.heap.size + 2) (some ⟨w.heap.size + 1, 0, none⟩) 1 1 [.int .u64 gw, .string gt] (by simp [Act.eval]) (hrd.out _ (by simp)) (by simp [Value.oneCell']) (by unfold maxLen; omega) (by omega) (by simp) ?_; intro v' w5 hown5 hgrow hloc; obtain ⟨gg, cp, rfl⟩ := own_succ hown5; have B5 := Blk.grown (hblk.out _ (by (repeat first | exact Below.refl _ _ | assumption | refine Below.drew ?_ | refine below_drewN ?_ _ | refine Below.more_ ?_ _ | refine Below.setCell ?_ (by first | exact Nat.le_refl _ | (simp; done) | (simp; omega)) _))) hgrow hne.out; have c2' := B5.cell 2; have f2' := B5.frozen 2; have c1' := B5.cell 1; have f1' := B5.frozen 1; replace B5 := Lib.hid B5; replace hown5 := Lib.hid hown5; replace hgrow := Lib.hid hgrow; replace hloc := Lib.hid hloc)
  all_goals
    as_aux_lemma =>
      go_wp2_with fail
      have hR : ∀ w6, Chg (fun k => k = b) w5 w6 → Blk w6 b 50 #[.slice A s.l.length cap, .int .i64 ((s.n : Int) + 1), .slice (some ⟨gg, 0, none⟩) (s.n + 1) cp] → RowR A cap o w6 (nw G w w6) b (s.take ⟨gw, gt⟩) ∧ Chg G w w6 := fun w6 hc hB => by
        obtain ⟨⟨k1, k2, k3⟩, k4⟩ := hfin.out _ w5 w6 _ (by (repeat first | exact Below.refl _ _ | assumption | refine Below.drew ?_ | refine below_drewN ?_ _ | refine Below.more_ ?_ _ | refine Below.setCell ?_ (by first | exact Nat.le_refl _ | (simp; done) | (simp; omega)) _)) ⟨gw, gt⟩ hown5.out hgrow.out hloc.out hc hB
        exact ⟨⟨k1, k2, _, k3⟩, k4⟩
      refine bodyPost_end (v := .tuple #[]) (results_none (by kernel_rfl) _ _ _) rfl ⟨rfl, ?_⟩
      exact hR _ (by (repeat first | exact Chg.refl _ _ | assumption | refine Chg.drew ?_ | refine Chg.drewN ?_ _ | refine Chg.alloc ?_ _ | refine Chg.setCell ?_ (by first | (left; rfl) | (left; assumption) | (right; exact Nat.le_refl _) | (right; simp; done) | (right; simp; omega)) _ | refine Chg.setBlock ?_ (by first | (left; rfl) | (left; assumption) | (right; exact Nat.le_refl _) | (right; simp; done) | (right; simp; omega)) _)) (Blk.eq_cs ((B5.out.set_ 2 _).set_ 1 _) rfl)
def rowRout (A : Option Addr) (cap : Nat) (o : Option Obj) : Rout PRow where
  T := 47
  fAct := 94
  fTake := 95
  mAct := fun _ _ => by kernel_rfl
  mTake := fun _ _ => by kernel_rfl
  nAct := fun _ _ => by kernel_rfl
  nTake := fun _ _ => by kernel_rfl
  eAct := fun _ _ => by kernel_rfl
  eTake := fun _ _ => by kernel_rfl
  R := RowR A cap o
  own := fun h => h.1
  hG := fun h => h.2.1
  keep := fun ⟨h1, h2, gv, h3⟩ hs hk => ⟨h1.mono hs, h2, gv, h3.keep h2 hk⟩
  act := PRow.act
  take := PRow.take
  okA := fun ⟨_, _, _, h3⟩ => rowAct_ok h3
  cAct := fun ⟨h1, h2, _, h3⟩ => rowAct_any h1 h2 h3
  cTake := fun {w G b s} g ⟨h1, h2, gv, h3⟩ hg hy => by
    refine rowTake_any h1 h2 h3 g ?_
    rcases Nat.lt_or_ge s.n s.l.length with h | h
    · exact h
    · have e : s.act = (noAct, false) := by unfold PRow.act; rw [List.getElem?_eq_none h]
      rw [e] at hy
      cases hy
end Go.Proofs.Ytjoaifdjmdihoaa
