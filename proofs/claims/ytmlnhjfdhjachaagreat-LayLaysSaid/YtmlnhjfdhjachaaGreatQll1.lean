import Derived.WalkKit
import Derived.ProofKit
import Derived.OpenShut
import Derived.WalkLawsBesides
import Derived.WalkSpells
import Derived.Laws.BitsAllLaws
import Derived.Laws.BitsLemmas
import Derived.Laws.StructEq
import Derived.Lib.Hide
import Derived.Below
import Derived.OwnWalk
import Derived.Laws.OwnMore
import Derived.Laws.Rows
import Derived.Laws.AppendOwn
import Derived.Laws.MakeOwn
import Derived.Deep.AppendLies
import Derived.Deep.Draws
import Derived.Deep.OwnRows
import Derived.Deep.QuietTactic
import Derived.BigQuiet
import Derived.Maps.AppendAt
import Derived.RegionTactic
import Derived.LaidEqlPtr
import Derived.KernelRfl
import Derived.ChangeMaps5
import Derived.WideLaws
import Derived.Laws.IdiomRangeMap
import Derived.Maps.RangeRun
import Derived.Maps.RangeWalk
import Derived.Test.YtmlnhjfdhjachaaGreatRows
import Derived.Deep.RegionWith
/-
  Lemmas of one's own beside the library's: slices that read as lists, blocks that are known whole, frames, small laws on integers and on comparing arrays. No condition.
-/
namespace Go.Proofs.YtmlnhjfdhjachaaGreat
set_option linter.unusedVariables false
open Go.ChangeShapes Go.WideShapes Go.ChangeAt Go.RowKit

theorem block_of_add (a : Addr) (n : Nat) : (a.add n).block = a.block := by unfold Addr.add; split <;> rfl
theorem add_of_add (a : Addr) (i j : Nat) : (a.add i).add j = a.add (i + j) := by
  unfold Addr.add
  by_cases hi : i = 0 <;> by_cases hj : j = 0 <;> simp [hi, hj, Nat.add_assoc]

def Reads (w : World) (B size : Nat) (A : Option Addr) (n : Nat) (xs : List Value) : Prop :=
  xs.length = n * size ∧ (0 < n → ∃ ad, A = some ad ∧ ad.block < B ∧ ∀ j u, xs[j]? = some u → w.cell? (ad.add j) = some u)

section
variable {w w' : World} {B B' size n : Nat} {A : Option Addr} {xs : List Value}
theorem Reads.none_ : Reads w B size A 0 [] := ⟨by simp, fun h => absurd h (by omega)⟩
theorem Reads.at_ {k : Nat} (h : Reads w B 1 A n xs) (hk : k < n) : ∃ ad u, A = some ad ∧ ad.block < B ∧ xs[k]? = some u ∧ w.cell? (ad.add k) = some u := by
  obtain ⟨ad, e, hb, hc⟩ := h.2 (by omega)
  have hl : k < xs.length := by have := h.1; omega
  exact ⟨ad, xs[k], e, hb, List.getElem?_eq_getElem hl, hc k _ (List.getElem?_eq_getElem hl)⟩
theorem Reads.keep (h : Reads w B size A n xs) (hk : ∀ p : Addr, p.block < B → w'.cell? p = w.cell? p) : Reads w' B size A n xs :=
  ⟨h.1, fun hn => by
    obtain ⟨ad, e, hb, hc⟩ := h.2 hn
    exact ⟨ad, e, hb, fun j u hu => (hk _ (by rw [block_of_add]; exact hb)).trans (hc j u hu)⟩⟩
theorem Reads.more (h : Reads w B size A n xs) (hB : B ≤ B') : Reads w B' size A n xs :=
  ⟨h.1, fun hn => by
    obtain ⟨ad, e, hb, hc⟩ := h.2 hn
    exact ⟨ad, e, by omega, hc⟩⟩
theorem Reads.below (h : Reads w B size A n xs) (hb : Below B w w') : Reads w' B size A n xs := h.keep fun _ hp => hb.cell hp
theorem Reads.drew (h : Reads w B size A n xs) : Reads w.drew B size A n xs := h
theorem Reads.drewN (h : Reads w B size A n xs) (k : Nat) : Reads (w.drewN k) B size A n xs := h
theorem Reads.alloc (h : Reads w B size A n xs) (hB : B ≤ w.heap.size) (o : Obj) : Reads (w.alloc o) B size A n xs := h.keep fun p hp => World.cell?_alloc_lt w o p (by omega)
theorem Reads.setCell (h : Reads w B size A n xs) {p : Addr} (hB : B ≤ p.block) (u : Value) : Reads (w.setCell p u) B size A n xs :=
  h.keep fun q hq => World.cell?_setCell_other w p q u (fun e => by subst e; omega)
theorem Reads.grown (h : Reads w B size A n xs) {row : Option Nat} (hg : w.grownBy w' row) (hB : B ≤ w.heap.size) (hr : ∀ g, row = some g → B ≤ g) : Reads w' B size A n xs :=
  h.keep fun p hp => World.cell?_of_block (hg.block p.block (by omega) (fun e => by have := hr _ e.symm; omega))
theorem Reads.of_own {base : Nat} {e : TypeId} {c : Nat} (h : w.ownsRow base e size (.slice A n c) n xs) : Reads w w.heap.size size A n xs := by
  refine ⟨h.1, fun hn => ?_⟩
  obtain ⟨g, cap, hv, _, hlt⟩ := h.form hn
  have hA : A = some ⟨g, 0, none⟩ := by injection hv
  subst hA
  exact ⟨_, rfl, hlt, h.cells (g := g) rfl⟩
end

def Blk (w : World) (g : Nat) (t : TypeId) (cs : Array Value) : Prop := w.heap[g]? = some (.cells cs t (0, 0))

section
variable {w w' : World} {g : Nat} {t : TypeId} {cs : Array Value}
theorem Blk.lt (h : Blk w g t cs) : g < w.heap.size := by
  rcases Nat.lt_or_ge g w.heap.size with hlt | hge
  · exact hlt
  · unfold Blk at h; rw [Array.getElem?_eq_none hge] at h; cases h
theorem Blk.cell (h : Blk w g t cs) (i : Nat) : w.cell? ⟨g, i, none⟩ = cs[i]? := cell_of_row w g i cs t (0, 0) h
theorem Blk.frozen (h : Blk w g t cs) (i : Nat) : w.frozen? ⟨g, i, none⟩ = false := by
  unfold Blk at h
  simp [World.frozen?, h]
theorem Blk.new (w : World) (t : TypeId) (cs : Array Value) : Blk (w.alloc (.cells cs t)) w.heap.size t cs := heap_alloc_new w _
theorem Blk.drew (h : Blk w g t cs) : Blk w.drew g t cs := h
theorem Blk.drewN (h : Blk w g t cs) (n : Nat) : Blk (w.drewN n) g t cs := h
theorem Blk.alloc (h : Blk w g t cs) (o : Obj) : Blk (w.alloc o) g t cs := (Below.heap_alloc w o g h.lt).trans h
theorem Blk.set_ (h : Blk w g t cs) (i : Nat) (u : Value) : Blk (w.setCell ⟨g, i, none⟩ u) g t (cs.setIfInBounds i u) := by
  unfold Blk at h ⊢
  simp [World.setCell, Array.getElem?_modify, h]
theorem Blk.far (h : Blk w g t cs) {p : Addr} (hp : g ≠ p.block) (u : Value) : Blk (w.setCell p u) g t cs := (Below.heap_setCell w p u g hp).trans h
theorem Blk.below {B : Nat} (h : Blk w g t cs) (hb : Below B w w') (hg : g < B) : Blk w' g t cs := (hb.block g hg).trans h
theorem Blk.grown {row : Option Nat} (h : Blk w g t cs) (hb : w.grownBy w' row) (hg : some g ≠ row) : Blk w' g t cs := (hb.block g h.lt hg).trans h
theorem Blk.ne_ {g' : Nat} {t' : TypeId} {cs' : Array Value} (h : Blk w g t cs) (h' : Blk w g' t' cs') (hne : t ≠ t') : g ≠ g' := by
  rintro rfl
  unfold Blk at h h'
  rw [h] at h'
  injection h' with h'
  injection h' with _ ht
  exact hne ht
theorem own_blk_ne {base : Nat} {e : TypeId} {size n : Nat} {v : Value} {xs : List Value} (h : w.ownsRow base e size v n xs) (hg : Blk w g t cs) (hne : e ≠ t) : v.ownBlock ≠ some g := by
  rcases h.2 with ⟨rfl, _⟩ | ⟨g', cap, cur, rfl, _, hh, _⟩
  · simp [Value.ownBlock]
  · intro he
    have : g' = g := by simpa [Value.ownBlock] using he
    subst this
    exact Blk.ne_ (t := e) hh hg hne rfl
end

section
variable {P : Program} (w : World)

theorem run_append_of_nil (base : Nat) (t ty e : TypeId) (i : TypeInfo) (size : Nat) (ht : P.underlying t = some (.slice e)) (hi : P.info? e = some i)
    (v : Value) (n : Nat) (xs : List Value) (hown : w.ownsRow base e size v n xs) (c : Nat) : (Builtin.append_ #[t, t] ty #[v, .slice none 0 c]).run P w = .ok v w := by
  rcases hown.2 with ⟨rfl, rfl⟩ | ⟨g, cap, cur, rfl, _, _, hnc, _⟩
  · simp [Builtin.append_, run_underlying ht, sizeOf, typeInfo, hi, Builtin.lenOf, Builtin.firstCells]
  · simp [Builtin.append_, run_underlying ht, sizeOf, typeInfo, hi, Builtin.lenOf, Builtin.firstCells, hnc, storeCells]

theorem run_append_any (base : Nat) (t ty e : TypeId) (i : TypeInfo) (z : Value) (size bytes : Nat) (ht : P.underlying t = some (.slice e)) (hi : P.info? e = some i) (hz : i.zero = some z)
    (hsize : i.size = size) (hby : i.bytes = bytes) (hzs : z.cells.size = size) (hsz : 0 < size)
    (v : Value) (n : Nat) (xs : List Value) (hown : w.ownsRow base e size v n xs)
    (B : Nat) (A : Option Addr) (m c : Nat) (news : List Value) (hr : Reads w B size A m news) (h1 : ∀ u ∈ news, u.oneCell' = true)
    (h63 : n + m ≤ maxLen) (hbytes : (n + m) * bytes ≤ 140737488355328) (hbase : base ≤ w.heap.size) :
    ∃ v' w', (Builtin.append_ #[t, t] ty #[v, .slice A m c]).run P w = .ok v' w' ∧ w'.ownsRow base e size v' (n + m) (xs ++ news) ∧ w.grownBy w' v.ownBlock ∧
      (v'.ownBlock = v.ownBlock ∨ v'.ownBlock = some w.heap.size) := by
  rcases A with _ | ad
  · have hm : m = 0 := by
      rcases Nat.eq_zero_or_pos m with h0 | h0
      · exact h0
      · obtain ⟨ad, h, _⟩ := hr.2 h0
        cases h
    subst hm
    have hn : news = [] := List.eq_nil_of_length_eq_zero (by simpa using hr.1)
    subst hn
    exact ⟨v, w, run_append_of_nil w base t ty e i size ht hi v n xs hown c, by simpa using hown, World.grownBy.refl w _, .inl rfl⟩
  · have hcells : ∀ j u, news[j]? = some u → w.cell? (ad.add j) = some u := by
      intro j u hu
      rcases Nat.eq_zero_or_pos m with h0 | h0
      · subst h0
        have hn : news = [] := List.eq_nil_of_length_eq_zero (by simpa using hr.1)
        subst hn
        simp at hu
      · obtain ⟨ad', h, _, hc⟩ := hr.2 h0
        injection h with h
        subst h
        exact hc j u hu
    obtain ⟨v', w', hrun, h2, h3, _, h5⟩ := run_append_own_at (P := P) w base t ty e i z size bytes ht hi hz hsize hby hzs hsz v n xs hown ad m c news hr.1 hcells h1 h63 hbytes hbase
    exact ⟨v', w', hrun, h2, h3, h5⟩

theorem wp_append_any {o : Oper} {a : Act} {K : Act → World → Prop} {Q : Exit → Act → World → Prop} (s x : Operand) (t : TypeId)
    (ho : o.op = .call { callee := .builtin .append, args := #[s, x], argTypes := #[t, t] })
    (base : Nat) (e : TypeId) (i : TypeInfo) (z : Value) (size bytes : Nat) (ht : P.underlying t = some (.slice e)) (hi : P.info? e = some i) (hz : i.zero = some z)
    (hsize : i.size = size) (hby : i.bytes = bytes) (hzs : z.cells.size = size) (hsz : 0 < size)
    (v : Value) (n : Nat) (xs : List Value) (hs : a.eval s = v) (hown : w.ownsRow base e size v n xs)
    (B : Nat) (A : Option Addr) (m c : Nat) (news : List Value) (hx : a.eval x = .slice A m c) (hr : Reads w B size A m news) (h1 : ∀ u ∈ news, u.oneCell' = true)
    (h63 : n + m ≤ maxLen) (hbytes : (n + m) * bytes ≤ 140737488355328) (hbase : base ≤ w.heap.size)
    (h : ∀ v' w', w'.ownsRow base e size v' (n + m) (xs ++ news) → w.grownBy w' v.ownBlock → (v'.ownBlock = v.ownBlock ∨ v'.ownBlock = some w.heap.size) → K (a.put o.dst v') w') : o.wp P a w K Q := by
  obtain ⟨v', w', hrun, h2, h3, h4⟩ := run_append_any (P := P) w base t o.type e i z size bytes ht hi hz hsize hby hzs hsz v n xs hown B A m c news hr h1 h63 hbytes hbase
  unfold Oper.wp execOp
  simp only [ho, resolve, invoke, builtin, Sem.run_bind, Sem.run_pure, Result.andThen_ok, List.map_toArray, List.map_cons, List.map_nil, hs, hx, hrun]
  exact h v' w' h2 h3 h4

theorem wpList_append_any {ops : Array Oper} {rest : List Oper} {o : Oper} {a : Act} {Q : Exit → Act → World → Prop} (hgd : o.guard = none) (s x : Operand) (t : TypeId)
    (ho : o.op = .call { callee := .builtin .append, args := #[s, x], argTypes := #[t, t] })
    (base : Nat) (e : TypeId) (i : TypeInfo) (z : Value) (size bytes : Nat) (ht : P.underlying t = some (.slice e)) (hi : P.info? e = some i) (hz : i.zero = some z)
    (hsize : i.size = size) (hby : i.bytes = bytes) (hzs : z.cells.size = size) (hsz : 0 < size)
    (v : Value) (n : Nat) (xs : List Value) (hs : a.eval s = v) (hown : w.ownsRow base e size v n xs)
    (B : Nat) (A : Option Addr) (m c : Nat) (news : List Value) (hx : a.eval x = .slice A m c) (hr : Reads w B size A m news) (h1 : ∀ u ∈ news, u.oneCell' = true)
    (h63 : n + m ≤ maxLen) (hbytes : (n + m) * bytes ≤ 140737488355328) (hbase : base ≤ w.heap.size)
    (h : ∀ v' w', w'.ownsRow base e size v' (n + m) (xs ++ news) → w.grownBy w' v.ownBlock → (v'.ownBlock = v.ownBlock ∨ v'.ownBlock = some w.heap.size) → wpList P ops Q rest (a.put o.dst v') w') : wpList P ops Q (o :: rest) a w :=
  wpList_plain hgd fun _ hK => wp_append_any w s x t ho base e i z size bytes ht hi hz hsize hby hzs hsz v n xs hs hown B A m c news hx hr h1 h63 hbytes hbase fun v' w' h2 h3 h4 => hK _ _ (h v' w' h2 h3 h4)

end

theorem below_drewN {B : Nat} {a w : World} (h : Below B a w) (n : Nat) : Below B a (w.drewN n) := ⟨h.os, h.tape, h.output, h.size, h.block⟩
theorem run_make_rowN {P : Program} (t e : TypeId) (i : TypeInfo) (z : Value) (ht : P.underlying t = some (.slice e)) (hi : P.info? e = some i) (hz : i.zero = some z)
    (kl kc : IntKind) (n c : Nat) (hnc : n ≤ c) (hbytes : i.bytes * c ≤ 281474976710656) (h63 : c ≤ 9223372036854775807) (w : World) :
    (Instr.makeSlice t (.int kl (n : Int)) (.int kc (c : Int))).run P w = .ok (.slice (some ⟨w.heap.size, 0, none⟩) n c) (w.alloc (.cells (madeCells z.cells (c * i.size)) e)) := by
  have hb : (i.bytes : Int) * (c : Int) ≤ 281474976710656 := by
    have h : ((i.bytes * c : Nat) : Int) ≤ 281474976710656 := by omega
    rwa [Int.natCast_mul] at h
  have hr := run_make (P := P) w t e i z ht hi hz kl kc n c (by omega) (by omega) hb (by omega)
  simp only [Int.toNat_natCast] at hr
  exact hr
section
variable {H : Type} {enc : TypeId × Value → H} {P : Program}
theorem post_of_below {f : Func} {s : ChangeSpec} {apart fresh handsOn again : Bool} {W W' : World} {args : Array Value} {v : Value} {ds gs : List (DataW H)} {before pa pv : List MemPlace}
    (hW : DataW.Whole enc P f.params.toList s.vars apart W args.toList ds gs before)
    (hres : ∀ (b : Nat) (sp : Nat → Bool) (hd : Bool), DataW.TrodAll enc P W' b sp hd f.resultTypes.toList (v.resultList f.resultTypes.size) (s.fn H (ds ++ gs)).results [])
    (hargs : ∀ sp : Nat → Bool, (∀ p ∈ before, sp p.block = true) → DataW.TrodAll enc P W' 0 sp true f.params.toList args.toList (s.fn H (ds ++ gs)).args pa)
    (hvars : ∀ sp : Nat → Bool, (∀ p ∈ before, sp p.block = true) → DataW.TrodVars enc P W' sp s.vars (s.fn H (ds ++ gs)).vars pv)
    (hps : before = pa ++ pv) (hb : Below W.heap.size W W')
    (hok : ∀ (j : Nat) (t : TypeId) (r : Value), f.resultTypes[j]? = some t → (v.resultList f.resultTypes.size)[j]? = some r → Value.okWide P W' .any 0 t r) :
    s.post enc P f apart fresh handsOn again W args v W' := by
  have hlt : ∀ p ∈ before, p.block < W.heap.size := fun p hp => hW.lt p hp
  have hold : ∀ p ∈ before, (fun b => decide (b < W.heap.size)) p.block = true := fun p hp => by simpa using hlt p hp
  refine ⟨ds, gs, before, [], pa, pv, hW, hres _ _ _, hargs _ hold, hvars _ hold, World.keptBut_mono (fun p hp => ⟨hp, ?_⟩) (hb.frame (· ∈ before)), fun _ => ?_⟩
  · rw [hps, List.mem_append] at hp
    exact Or.inr hp
  · obtain ⟨_, _, _, _, _, hz, hn⟩ := hW
    refine ⟨hok, _, _, ([] ++ pa) ++ pv, ⟨[] ++ pa, pv, trodAll_append (hargs _ (fun _ _ => rfl)) (hres _ _ _), hvars _ (fun _ _ => rfl), rfl, ?_, ?_⟩, ?_⟩
    · intro b off hp
      have hin : MemPlace.cell b off ∈ before := by rw [hps]; simpa using hp
      rw [hb.frozen (hlt _ hin)]
      exact hz b off hin
    · intro ha
      have := hn ha
      rw [hps] at this
      simpa using this
    · intro p hp _
      rw [hps]
      simpa using hp
end

section
variable {P : Program} (w : World)
end
theorem Below.next_ {w w1 w2 : World} (h1 : Below w.heap.size w w1) (h2 : Below w1.heap.size w1 w2) : Below w.heap.size w w2 := h1.trans (h2.mono h1.size)
theorem Below.more_ {w w1 : World} (h1 : Below w.heap.size w w1) (o : Obj) : Below w.heap.size w (w1.alloc o) := h1.alloc h1.size o
theorem keepc {B : Nat} {w w' : World} {ad : Addr} {k : Nat} {v : Value} (h : Below B w w') (hb : ad.block < B) (hc : w.cell? (ad.add k) = some v) : w'.cell? (ad.add k) = some v :=
  (h.cell (p := ad.add k) (by rw [block_of_add]; exact hb)).trans hc
theorem flat_get {α : Type} (mk : α → List Value) (k : Nat) (hk : ∀ x, (mk x).length = k) : ∀ (xs : List α) (i j : Nat), j < k → (xs.flatMap mk)[i * k + j]? = (xs[i]?).bind fun x => (mk x)[j]?
  | [], i, j, _ => by simp
  | x :: xs, 0, j, hj => by
    simp only [List.flatMap_cons, Nat.zero_mul, Nat.zero_add, List.getElem?_cons_zero, Option.bind_some]
    rw [List.getElem?_append_left (by rw [hk]; exact hj)]
  | x :: xs, i + 1, j, hj => by
    simp only [List.flatMap_cons, List.getElem?_cons_succ]
    rw [List.getElem?_append_right (by rw [hk, Nat.succ_mul]; omega), hk]
    rw [show (i + 1) * k + j - k = i * k + j by rw [Nat.succ_mul]; omega]
    exact flat_get mk k hk xs i j hj
/-- A field of an element of a slice of structs that reads as a list. -/
theorem Reads.fld {α : Type} {w : World} {B k n : Nat} {A : Option Addr} {xs : List α} {mk : α → List Value} (hk : ∀ x, (mk x).length = k) (h : Reads w B k A n (xs.flatMap mk)) {i : Nat} (hi : i < n) (hn : xs.length = n) :
    ∃ ad x, A = some ad ∧ ad.block < B ∧ xs[i]? = some x ∧ ∀ j v, (mk x)[j]? = some v → w.cell? (ad.add (i * k + j)) = some v := by
  obtain ⟨ad, e, hb, hc⟩ := h.2 (by omega)
  have hx : xs[i]? = some xs[i] := List.getElem?_eq_getElem (by omega)
  refine ⟨ad, xs[i], e, hb, hx, fun j v hv => hc _ v ?_⟩
  have hj : j < k := by have := (List.getElem?_eq_some_iff.1 hv).1; rwa [hk] at this
  rw [flat_get mk k hk xs i j hj, hx]
  exact hv
theorem ret_b {p q : Bool} (h : p = q) : Ending.returned (.bool p) = .returned (.bool q) := by rw [h]
end Go.Proofs.YtmlnhjfdhjachaaGreat

/-
  Maps keyed by 64-bit words, whatever the elements: what a look-up, a store of a new key, a deletion, a clearing and a range do to the block's entries. No condition.
-/
namespace Go.Proofs.YtmlnhjfdhjachaaGreat
set_option linter.unusedVariables false
open Go.ChangeShapes Go.WideShapes Go.ChangeAt Go.RowKit
open Go.ChangeMaps (setBlock)

/-- The entries of a map, as keys and values. -/
def kvs (es : Array MapEntry) : List (Value × Value) := es.toList.map fun e => (e.key, e.val)
/-- A row of words and values as keys and values. -/
def kvOf (l : List (Int × Value)) : List (Value × Value) := l.map fun p => (.int .u64 p.1, p.2)
def look (l : List (Int × Value)) (k : Int) : Option Value := (l.find? fun p => p.1 == k).map (·.2)

/-- Block m is a map that holds just l, in some order of its own. -/
structure MapIs (w : World) (m : Nat) (l : List (Int × Value)) : Prop where
  some_ : ∃ es clock, w.heap[m]? = some (.map es clock) ∧ kvs es = kvOf l ∧ MapKept.Stamped es clock
theorem MapIs.keep {w w' : World} {m : Nat} {l : List (Int × Value)} (h : MapIs w m l) (hk : w'.heap[m]? = w.heap[m]?) : MapIs w' m l := by
  obtain ⟨es, c, h1, h2⟩ := h.some_
  exact ⟨es, c, hk.trans h1, h2⟩
theorem MapIs.lt {w : World} {m : Nat} {l : List (Int × Value)} (h : MapIs w m l) : m < w.heap.size := by
  obtain ⟨es, c, h1, _⟩ := h.some_
  exact (Array.getElem?_eq_some_iff.1 h1).1

section
variable {P : Program} (w : World)

theorem findNow_kv (k : Int) : ∀ (es : List MapEntry) (l : List (Int × Value)) (i : Nat), es.map (fun e => (e.key, e.val)) = kvOf l →
    Instr.findNow (.int .u64) (.int .u64 k) es i = some ((l.findIdx? fun p => p.1 == k).bind fun j => (l[j]?).map fun p => (i + j, p.2))
  | [], l, i, h => by
    cases l with
    | nil => simp [Instr.findNow]
    | cons p l => simp [kvOf] at h
  | e :: es, l, i, h => by
    cases l with
    | nil => simp [kvOf] at h
    | cons p l =>
      simp only [List.map_cons, kvOf, List.cons.injEq, Prod.mk.injEq] at h
      obtain ⟨⟨h1, h2⟩, h3⟩ := h
      have ih := findNow_kv k es l (i + 1) h3
      by_cases hk : p.1 = k
      · subst hk
        simp [Instr.findNow, h1, Instr.sameNow, h2, List.findIdx?_cons]
      · have hk' : ¬ k = p.1 := fun e => hk e.symm
        simp only [Instr.findNow, h1, Instr.sameNow, if_true, beq_eq_false_iff_ne.2 hk', ih, List.findIdx?_cons, beq_eq_false_iff_ne.2 hk]
        cases hf : l.findIdx? fun p => p.1 == k with
        | none => simp
        | some j => simp [Nat.add_assoc, Nat.add_comm 1 j]

theorem look_idx (l : List (Int × Value)) (k : Int) : ((l.findIdx? fun p => p.1 == k).bind fun j => (l[j]?).map fun p => p.2) = look l k := by
  unfold look
  induction l with
  | nil => rfl
  | cons p l ih =>
    by_cases hk : p.1 = k
    · simp [List.findIdx?_cons, hk]
    · simp only [List.findIdx?_cons, beq_eq_false_iff_ne.2 hk, Bool.false_eq_true, if_false, List.find?_cons]
      rw [← ih]
      cases hf : l.findIdx? fun p => p.1 == k <;> simp

theorem find_none (l : List (Int × Value)) (k : Int) (h : look l k = none) : (l.findIdx? fun p => p.1 == k) = none := by
  unfold look at h
  rw [Option.map_eq_none_iff] at h
  rw [List.findIdx?_eq_none_iff]
  intro x hx
  exact Bool.eq_false_iff.2 (fun hc => by simpa [hc] using List.find?_eq_none.1 h x hx)

theorem run_findKey (kt : TypeId) (hk : P.underlying kt = some (.int .u64)) (k : Int) (es : Array MapEntry) (l : List (Int × Value)) (h : kvs es = kvOf l) :
    (Instr.findKey kt (.int .u64 k) es.toList).run P w = .ok ((l.findIdx? fun p => p.1 == k).bind fun j => (l[j]?).map fun p => (j, p.2)) w := by
  have := findNow_kv k es.toList l 0 h
  simp only [Nat.zero_add] at this
  simp [Instr.findKey, run_underlying hk, this]

theorem run_checkKey_u64 (kt : TypeId) (hk : P.underlying kt = some (.int .u64)) (k : Int) (b : Bool) : (Instr.checkKey b 10000 kt (.int .u64 k)).run P w = .ok () w := by
  exact MapKept.run_checkKey hk (by simp [MapKept.IsKey]) b 9999

theorem run_look (t kt e : TypeId) (ht : P.underlying t = some (.map kt e)) (hk : P.underlying kt = some (.int .u64)) (z : Value) (hz : ∀ w, (zeroValue e).run P w = .ok z w) (m : Nat) (l : List (Int × Value)) (h : MapIs w m l) (k : Int) (c : Bool) :
    (Instr.lookup t (.map (some m)) (.int .u64 k) c).run P w = .ok (if c then .tuple #[(look l k).getD z, .bool (look l k).isSome] else (look l k).getD z) w := by
  obtain ⟨es, cl, h1, h2, _⟩ := h.some_
  simp only [Instr.lookup, Sem.run_bind, run_underlying ht, Result.andThen_ok, run_getObj_map w m es cl h1, Sem.run_pure, run_checkKey_u64 w kt hk, run_findKey w kt hk k es l h2]
  rw [← look_idx]
  cases hf : l.findIdx? fun p => p.1 == k with
  | none => simp [hz]
  | some j =>
    have hj := (List.findIdx?_eq_some_iff_getElem.1 hf).1
    simp [List.getElem?_eq_getElem hj]

theorem run_put (t kt e : TypeId) (ht : P.underlying t = some (.map kt e)) (hk : P.underlying kt = some (.int .u64)) (m : Nat) (l : List (Int × Value)) (h : MapIs w m l) (k : Int) (hn : look l k = none) (v : Value) :
    ∃ ob, (∀ W : World, W.heap[m]? = w.heap[m]? → (Instr.mapUpdate t (.map (some m)) (.int .u64 k) v).run P W = .ok () (setBlock W m ob)) ∧ (∀ W : World, m < W.heap.size → MapIs (setBlock W m ob) m (l ++ [(k, v)])) := by
  obtain ⟨es, cl, h1, h2, h3⟩ := h.some_
  refine ⟨.map (es.push { key := .int .u64 k, val := v, born := cl }) (cl + 1), fun W hW => ?_, fun W hlt => ⟨?_⟩⟩
  · have h1' := hW.trans h1
    simp only [Instr.mapUpdate, Sem.run_bind, run_underlying ht, Result.andThen_ok, run_getObj_map W m es cl h1', run_checkKey_u64 W kt hk, run_findKey W kt hk k es l h2, find_none l k hn, Option.bind_none]
    exact MapKept.run_setObj_map _ h1'
  · refine ⟨es.push { key := .int .u64 k, val := v, born := cl }, cl + 1, by simp [setBlock, hlt], by simp [kvs, kvOf] at h2 ⊢; exact h2, MapKept.stamped_push h3 ?_⟩
    intro x hx he
    have hm : (x.key, x.val) ∈ kvs es := List.mem_map.2 ⟨x, hx, rfl⟩
    rw [h2] at hm
    obtain ⟨p, hp, hpe⟩ := List.mem_map.1 hm
    simp only [Prod.mk.injEq] at hpe
    rw [he] at hpe
    have hpk : p.1 = k := by simpa using hpe.1
    unfold look at hn
    rw [Option.map_eq_none_iff] at hn
    simpa [hpk] using List.find?_eq_none.1 hn p hp

theorem erase_idx (l : List (Int × Value)) (k : Int) (hn : (l.map (·.1)).Nodup) (j : Nat) (hf : (l.findIdx? fun p => p.1 == k) = some j) : l.eraseIdx j = l.filter (fun p => p.1 != k) := by
  induction l generalizing j with
  | nil => simp at hf
  | cons p l ih =>
    simp only [List.map_cons, List.nodup_cons] at hn
    by_cases hk : p.1 = k
    · subst hk
      have : j = 0 := by simpa [List.findIdx?_cons] using hf.symm
      subst this
      simp only [List.eraseIdx_cons_zero, List.filter_cons, bne_self_eq_false, Bool.false_eq_true, if_false]
      symm
      rw [List.filter_eq_self]
      intro x hx
      simp only [bne_iff_ne, ne_eq]
      intro he
      exact hn.1 (he ▸ List.mem_map.2 ⟨x, hx, rfl⟩)
    · simp only [List.findIdx?_cons, beq_eq_false_iff_ne.2 hk, Bool.false_eq_true, if_false] at hf
      obtain ⟨i, hi, rfl⟩ := Option.map_eq_some_iff.1 hf
      simp [bne_iff_ne.2 hk, ih hn.2 i hi]

theorem run_del (t kt e ty : TypeId) (ht : P.underlying t = some (.map kt e)) (hk : P.underlying kt = some (.int .u64)) (m : Nat) (l : List (Int × Value)) (h : MapIs w m l) (hn : (l.map (·.1)).Nodup) (k : Int) :
    ∃ ob, (∀ W : World, W.heap[m]? = w.heap[m]? → (Builtin.delete_ #[t, kt] ty #[.map (some m), .int .u64 k]).run P W = .ok (.tuple #[]) (setBlock W m ob)) ∧ (∀ W : World, m < W.heap.size → MapIs (setBlock W m ob) m (l.filter fun p => p.1 != k)) := by
  obtain ⟨es, cl, h1, h2, h3⟩ := h.some_
  cases hf : l.findIdx? fun p => p.1 == k with
  | none =>
    refine ⟨.map es cl, fun W hW => ?_, fun W hlt => ⟨?_⟩⟩
    · have h1' := hW.trans h1
      simp only [Builtin.delete_, Sem.run_bind, run_underlying ht, Result.andThen_ok, run_getObj_map W m es cl h1', run_checkKey_u64 W kt hk, run_findKey W kt hk k es l h2, hf, Option.bind_none, MapKept.run_setObj_map _ h1', List.getElem?_toArray, List.getElem?_cons_zero, List.getElem?_cons_succ, Sem.run_pure]
      rfl
    · refine ⟨es, cl, by simp [setBlock, hlt], h2.trans ?_, h3⟩
      congr 1
      symm
      rw [List.filter_eq_self]
      intro x hx
      have := (List.findIdx?_eq_none_iff.1 hf) x hx
      simpa using this
  | some j =>
    have hj := (List.findIdx?_eq_some_iff_getElem.1 hf).1
    refine ⟨.map (es.eraseIdxIfInBounds j) cl, fun W hW => ?_, fun W hlt => ⟨?_⟩⟩
    · have h1' := hW.trans h1
      simp only [Builtin.delete_, Sem.run_bind, run_underlying ht, Result.andThen_ok, run_getObj_map W m es cl h1', run_checkKey_u64 W kt hk, run_findKey W kt hk k es l h2, hf, Option.bind_some, List.getElem?_eq_getElem hj, Option.map_some, MapKept.run_setObj_map _ h1', List.getElem?_toArray, List.getElem?_cons_zero, List.getElem?_cons_succ, Sem.run_pure]
      rfl
    · have hs : es.size = l.length := by have := congrArg List.length h2; simpa [kvs, kvOf] using this
      refine ⟨_, cl, by simp [setBlock, hlt], ?_, MapKept.stamped_erase h3 j⟩
      unfold kvs kvOf at h2 ⊢
      rw [← erase_idx l k hn j hf]
      have e1 : (es.eraseIdxIfInBounds j).toList = es.toList.eraseIdx j := by
        unfold Array.eraseIdxIfInBounds
        rw [dif_pos (by omega)]
        simp
      rw [e1, ChangeMaps.map_eraseIdx, ChangeMaps.map_eraseIdx, h2]

theorem run_clear_map (t kt e ty : TypeId) (ht : P.underlying t = some (.map kt e)) (m : Nat) (l : List (Int × Value)) (h : MapIs w m l) :
    ∃ ob, (∀ W : World, W.heap[m]? = w.heap[m]? → (Builtin.clear_ #[t] ty #[.map (some m)]).run P W = .ok (.tuple #[]) (setBlock W m ob)) ∧ (∀ W : World, m < W.heap.size → MapIs (setBlock W m ob) m []) := by
  obtain ⟨es, cl, h1, h2, h3⟩ := h.some_
  refine ⟨.map #[] cl, fun W hW => ?_, fun W hlt => ⟨#[], cl, by simp [setBlock, hlt], rfl, MapKept.stamped_empty cl⟩⟩
  have h1' := hW.trans h1
  simp only [Builtin.clear_, Sem.run_bind, run_underlying ht, Result.andThen_ok, run_getObj_map W m es cl h1', MapKept.run_setObj_map _ h1', List.getElem?_toArray, List.getElem?_cons_zero, Sem.run_pure]
  rfl
theorem MapIs.made : MapIs (w.alloc (.map #[] 0)) w.heap.size [] := ⟨#[], 0, (MapKept.heap_alloc w _).1, rfl, MapKept.stamped_empty 0⟩
end
end Go.Proofs.YtmlnhjfdhjachaaGreat

/-
  Frames: 'only the blocks in F, and new ones, have turned'. And blocks that are known whole. No condition.
-/
namespace Go.Proofs.YtmlnhjfdhjachaaGreat
set_option linter.unusedVariables false
open Go.ChangeShapes Go.WideShapes Go.ChangeAt Go.RowKit
open Go.ChangeMaps (setBlock)

/-- Of what was there only blocks in F have turned. -/
structure Chg (F : Nat → Prop) (w w' : World) : Prop where
  os : w'.os = w.os
  tape : w'.tape = w.tape
  output : w'.output = w.output
  size : w.heap.size ≤ w'.heap.size
  block : ∀ k, k < w.heap.size → ¬ F k → w'.heap[k]? = w.heap[k]?

/-- F, and what is new between two worlds. -/
def nw (F : Nat → Prop) (w w' : World) : Nat → Prop := fun k => F k ∨ (w.heap.size ≤ k ∧ k < w'.heap.size)
/-- All of F lies in the world. -/
def In (F : Nat → Prop) (w : World) : Prop := ∀ k, F k → k < w.heap.size
def Off (F G : Nat → Prop) : Prop := ∀ k, F k → G k → False

section
variable {F G : Nat → Prop} {a b c w w' : World}
theorem Off.symm (h : Off F G) : Off G F := fun k g f => h k f g
theorem Chg.refl (F : Nat → Prop) (w : World) : Chg F w w := ⟨rfl, rfl, rfl, Nat.le_refl _, fun _ _ _ => rfl⟩
theorem Chg.trans (h : Chg F a b) (k : Chg G b c) (hG : ∀ i, G i → F i ∨ a.heap.size ≤ i) : Chg F a c :=
  ⟨k.os.trans h.os, k.tape.trans h.tape, k.output.trans h.output, Nat.le_trans h.size k.size, fun i hi hn =>
    (k.block i (Nat.lt_of_lt_of_le hi h.size) (fun hg => by
      rcases hG i hg with h1 | h1
      · exact hn h1
      · omega)).trans (h.block i hi hn)⟩
theorem Chg.then_ (h : Chg F a b) (k : Chg (nw F a b) b c) : Chg F a c := h.trans k fun i hi => by
  rcases hi with h1 | h1
  · exact .inl h1
  · exact .inr h1.1
theorem Chg.mono (h : Chg F a b) (hF : ∀ i, F i → G i) : Chg G a b := ⟨h.os, h.tape, h.output, h.size, fun i hi hn => h.block i hi fun hf => hn (hF i hf)⟩
theorem Chg.drew (h : Chg F a w) : Chg F a w.drew := ⟨h.os, h.tape, h.output, h.size, h.block⟩
theorem Chg.drewN (h : Chg F a w) (n : Nat) : Chg F a (w.drewN n) := ⟨h.os, h.tape, h.output, h.size, h.block⟩
theorem Chg.alloc (h : Chg F a w) (o : Obj) : Chg F a (w.alloc o) :=
  ⟨h.os, h.tape, h.output, Nat.le_trans h.size (by simp), fun i hi hn => (Below.heap_alloc w o i (Nat.lt_of_lt_of_le hi h.size)).trans (h.block i hi hn)⟩
theorem Chg.setCell (h : Chg F a w) {p : Addr} (hp : F p.block ∨ a.heap.size ≤ p.block) (u : Value) : Chg F a (w.setCell p u) :=
  ⟨h.os, h.tape, h.output, by simpa [World.setCell] using h.size, fun i hi hn => (Below.heap_setCell w p u i (by
    rintro rfl
    rcases hp with hp | hp
    · exact hn hp
    · omega)).trans (h.block i hi hn)⟩
theorem heap_setBlock (w : World) (m : Nat) (o : Obj) (i : Nat) (h : i ≠ m) : (setBlock w m o).heap[i]? = w.heap[i]? := by
  simp only [setBlock, Array.getElem?_setIfInBounds]
  rw [if_neg (by omega)]
theorem heap_setBlock_at (w : World) (m : Nat) (o : Obj) (h : m < w.heap.size) : (setBlock w m o).heap[m]? = some o := by
  simp [setBlock, h]
theorem size_setBlock (w : World) (m : Nat) (o : Obj) : (setBlock w m o).heap.size = w.heap.size := by simp [setBlock]
theorem size_setCell (w : World) (p : Addr) (u : Value) : (w.setCell p u).heap.size = w.heap.size := by simp [World.setCell]
theorem cell_setBlock {m : Nat} (W : World) (o : Obj) (p : Addr) (h : p.block ≠ m) : (ChangeMaps.setBlock W m o).cell? p = W.cell? p := World.cell?_of_block (heap_setBlock W m o p.block h)
theorem Chg.setBlock (h : Chg F a w) {m : Nat} (hm : F m ∨ a.heap.size ≤ m) (o : Obj) : Chg F a (setBlock w m o) :=
  ⟨h.os, h.tape, h.output, by rw [size_setBlock]; exact h.size, fun i hi hn => (heap_setBlock w m o i (by
    rintro rfl
    rcases hm with hm | hm
    · exact hn hm
    · omega)).trans (h.block i hi hn)⟩
theorem Chg.of_below (h : Below a.heap.size a b) (F : Nat → Prop) : Chg F a b := ⟨h.os, h.tape, h.output, h.size, fun i hi _ => h.block i hi⟩
theorem Chg.next_ (h : Chg F a b) (k : Below b.heap.size b c) : Chg F a c := h.trans (Chg.of_below k fun _ => False) fun _ hf => hf.elim
theorem Chg.below {B : Nat} (h : Chg F a b) (hF : ∀ i, F i → B ≤ i) (hB : B ≤ a.heap.size) : Below B a b := ⟨h.os, h.tape, h.output, h.size, fun i hi => h.block i (by omega) fun hf => by have := hF i hf; omega⟩
theorem Chg.cell (h : Chg F a b) {p : Addr} (hp : p.block < a.heap.size) (hn : ¬ F p.block) : b.cell? p = a.cell? p := World.cell?_of_block (h.block p.block hp hn)
theorem Chg.frozen (h : Chg F a b) {p : Addr} (hp : p.block < a.heap.size) (hn : ¬ F p.block) : b.frozen? p = a.frozen? p := World.frozen?_of_block (h.block p.block hp hn)
/-- What lies off F stays. -/
theorem Chg.off (h : Chg F a b) (hG : In G a) (ho : Off F G) : ∀ k, G k → b.heap[k]? = a.heap[k]? := fun k hk => h.block k (hG k hk) fun hf => ho k hf hk
theorem In.mono (h : In F a) (hs : a.heap.size ≤ b.heap.size) : In F b := fun k hk => Nat.lt_of_lt_of_le (h k hk) hs
theorem In.nw (h : In F a) (hs : a.heap.size ≤ b.heap.size) : In (nw F a b) b := fun k hk => by
  rcases hk with h1 | h1
  · exact Nat.lt_of_lt_of_le (h k h1) hs
  · exact h1.2
theorem Off.nw (h : Off F G) (hG : In G a) : Off (nw F a b) G := fun k hk hg => by
  rcases hk with h1 | h1
  · exact h k h1 hg
  · have := hG k hg
    omega
end

theorem Blk.keep {w w' : World} {g : Nat} {t : TypeId} {cs : Array Value} (h : Blk w g t cs) (hk : w'.heap[g]? = w.heap[g]?) : Blk w' g t cs := hk.trans h
theorem Blk.eq_cs {w : World} {g : Nat} {t : TypeId} {cs cs' : Array Value} (h : Blk w g t cs) (e : cs = cs') : Blk w g t cs' := e ▸ h
theorem Blk.setb {w : World} {g : Nat} {t : TypeId} {cs : Array Value} (h : Blk w g t cs) {m : Nat} (hm : g ≠ m) (o : Obj) : Blk (setBlock w m o) g t cs := (heap_setBlock w m o g hm).trans h
theorem MapIs.ne_blk {w : World} {m g : Nat} {l : List (Int × Value)} {t : TypeId} {cs : Array Value} (h : MapIs w m l) (hb : Blk w g t cs) : m ≠ g := by
  rintro rfl
  obtain ⟨es, c, h1, _⟩ := h.some_
  unfold Blk at hb
  rw [h1] at hb
  cases hb
end Go.Proofs.YtmlnhjfdhjachaaGreat

/-
  Frames, slot by slot. No condition.
-/
namespace Go.Proofs.YtmlnhjfdhjachaaGreat
set_option linter.unusedVariables false
theorem act_eq {t t' : Array Value} {d : List Deferred} (h : t = t') : (Act.mk t d) = Act.mk t' d := by rw [h]
theorem slots_eq {l m : List Value} (h : l = m) : List.toArray l = List.toArray m := by rw [h]
theorem cons_eq {a b : Value} {l m : List Value} (h : a = b) (k : l = m) : a :: l = b :: m := by rw [h, k]
theorem nx {B : Nat} {a b c : World} (h : RowKit.Below B a b) (hB : B ≤ a.heap.size) (k : RowKit.Below b.heap.size b c) : RowKit.Below B a c := h.trans (k.mono (Nat.le_trans hB h.size))
end Go.Proofs.YtmlnhjfdhjachaaGreat

/-
  Configs, and where everything stands in the control block (layer 21). No condition.
-/
namespace Go.Proofs.YtmlnhjfdhjachaaGreat
set_option linter.unusedVariables false
open Go.ChangeShapes Go.WideShapes Go.ChangeAt Go.RowKit
open Go.ChangeMaps (setBlock)

structure PCfg where
  cap : Int
  pins : Int
  shelves : Int
  queue : Int
  watchers : Int
  seed : Int
def PCfg.val (c : PCfg) : Value := .agg #[.int .i64 c.cap, .int .i64 c.pins, .int .i64 c.shelves, .int .i64 c.queue, .int .i64 c.watchers, .int .u64 c.seed]
structure PCfg.Right (c : PCfg) : Prop where
  cap : 1 ≤ c.cap ∧ c.cap ≤ 32
  pins : 1 ≤ c.pins ∧ c.pins ≤ 8
  shelves : 1 ≤ c.shelves ∧ c.shelves ≤ 64
  queue : 0 ≤ c.queue ∧ c.queue ≤ 64
  watchers : 0 ≤ c.watchers ∧ c.watchers ≤ 8
def PCfg.right (c : PCfg) : Bool := decide (1 ≤ c.cap ∧ c.cap ≤ 32) && decide (1 ≤ c.pins ∧ c.pins ≤ 8) && decide (1 ≤ c.shelves ∧ c.shelves ≤ 64) && decide (0 ≤ c.queue ∧ c.queue ≤ 64) && decide (0 ≤ c.watchers ∧ c.watchers ≤ 8)
theorem PCfg.right_iff (c : PCfg) : c.right = true ↔ c.Right := by
  unfold PCfg.right
  simp only [Bool.and_eq_true, decide_eq_true_eq]
  constructor
  · rintro ⟨⟨⟨⟨h1, h2⟩, h3⟩, h4⟩, h5⟩
    exact ⟨h1, h2, h3, h4, h5⟩
  · rintro ⟨h1, h2, h3, h4, h5⟩
    exact ⟨⟨⟨⟨h1, h2⟩, h3⟩, h4⟩, h5⟩
set_option maxHeartbeats 1000000 in
theorem within_any (n l m : Int) (w : World) : Calls Tryz.prog 56 #[.int .i64 n, .int .i64 l, .int .i64 m] w fun e w' => e = .returned (.bool (decide (l ≤ n ∧ n ≤ m))) ∧ w = w' := by
  by_cases h1 : l ≤ n
  · by_cases h2 : n ≤ m
    · have d1 : decide (l ≤ n) = true := by simp [h1]
      have d2 : decide (n ≤ m) = true := by simp [h2]
      go_enter Tryz.func56, Tryz.ntmps56
      go_wp2
      go_ret
      exact ⟨by simp [h1, h2], rfl⟩
    · have d1 : decide (l ≤ n) = true := by simp [h1]
      have d2 : decide (n ≤ m) = false := by simp [h2]
      go_enter Tryz.func56, Tryz.ntmps56
      go_wp2
      go_ret
      exact ⟨by simp, rfl⟩
  · have d1 : decide (l ≤ n) = false := by simp [h1]
    go_enter Tryz.func56, Tryz.ntmps56
    go_wp2
    go_ret
    exact ⟨by simp, rfl⟩
set_option maxHeartbeats 1000000 in
theorem right_cfg (c : PCfg) (w : World) : Calls Tryz.prog 15 #[c.val] w fun e w' => e = .returned (.bool c.right) ∧ Below w.heap.size w w' := by
  obtain ⟨a, b, s, q, t, z⟩ := c
  rw [show PCfg.val ⟨a, b, s, q, t, z⟩ = .agg #[.int .i64 a, .int .i64 b, .int .i64 s, .int .i64 q, .int .i64 t, .int .u64 z] from rfl]
  have hE : PCfg.right ⟨a, b, s, q, t, z⟩ = (decide (1 ≤ a ∧ a ≤ 32) && decide (1 ≤ b ∧ b ≤ 8) && decide (1 ≤ s ∧ s ≤ 64) && decide (0 ≤ q ∧ q ≤ 64) && decide (0 ≤ t ∧ t ≤ 8)) := rfl
  rw [hE]
  clear hE
  have W1 := fun W => within_any a 1 32 W
  have W2 := fun W => within_any b 1 8 W
  have W3 := fun W => within_any s 1 64 W
  have W4 := fun W => within_any q 0 64 W
  have W5 := fun W => within_any t 0 8 W
  generalize decide (1 ≤ a ∧ a ≤ 32) = x1 at *
  generalize decide (1 ≤ b ∧ b ≤ 8) = x2 at *
  generalize decide (1 ≤ s ∧ s ≤ 64) = x3 at *
  generalize decide (0 ≤ q ∧ q ≤ 64) = x4 at *
  generalize decide (0 ≤ t ∧ t ≤ 8) = x5 at *
  replace W1 := Lib.hid W1
  replace W2 := Lib.hid W2
  replace W3 := Lib.hid W3
  replace W4 := Lib.hid W4
  replace W5 := Lib.hid W5
  cases x1
  · go_enter Tryz.func15, Tryz.ntmps15
    go_wp2_with fail
    refine (W1.out _).mono ?_; rintro e w1 ⟨rfl, rfl⟩
    go_wp2_with fail
    go_ret
    exact ⟨rfl, Below.more_ (Below.refl _ _) _⟩
  cases x2
  · go_enter Tryz.func15, Tryz.ntmps15
    go_wp2_with fail
    refine (W1.out _).mono ?_; rintro e w1 ⟨rfl, rfl⟩
    go_wp2_with fail
    refine (W2.out _).mono ?_; rintro e w1 ⟨rfl, rfl⟩
    go_wp2_with fail
    go_ret
    exact ⟨rfl, Below.more_ (Below.refl _ _) _⟩
  cases x3
  · go_enter Tryz.func15, Tryz.ntmps15
    go_wp2_with fail
    refine (W1.out _).mono ?_; rintro e w1 ⟨rfl, rfl⟩
    go_wp2_with fail
    refine (W2.out _).mono ?_; rintro e w1 ⟨rfl, rfl⟩
    go_wp2_with fail
    refine (W3.out _).mono ?_; rintro e w1 ⟨rfl, rfl⟩
    go_wp2_with fail
    go_ret
    exact ⟨rfl, Below.more_ (Below.refl _ _) _⟩
  cases x4
  · go_enter Tryz.func15, Tryz.ntmps15
    go_wp2_with fail
    refine (W1.out _).mono ?_; rintro e w1 ⟨rfl, rfl⟩
    go_wp2_with fail
    refine (W2.out _).mono ?_; rintro e w1 ⟨rfl, rfl⟩
    go_wp2_with fail
    refine (W3.out _).mono ?_; rintro e w1 ⟨rfl, rfl⟩
    go_wp2_with fail
    refine (W4.out _).mono ?_; rintro e w1 ⟨rfl, rfl⟩
    go_wp2_with fail
    go_ret
    exact ⟨rfl, Below.more_ (Below.refl _ _) _⟩
  · go_enter Tryz.func15, Tryz.ntmps15
    go_wp2_with fail
    refine (W1.out _).mono ?_; rintro e w1 ⟨rfl, rfl⟩
    go_wp2_with fail
    refine (W2.out _).mono ?_; rintro e w1 ⟨rfl, rfl⟩
    go_wp2_with fail
    refine (W3.out _).mono ?_; rintro e w1 ⟨rfl, rfl⟩
    go_wp2_with fail
    refine (W4.out _).mono ?_; rintro e w1 ⟨rfl, rfl⟩
    go_wp2_with fail
    refine (W5.out _).mono ?_; rintro e w1 ⟨rfl, rfl⟩
    go_wp2_with fail
    go_ret
    exact ⟨by simp, Below.more_ (Below.refl _ _) _⟩
theorem ring_any (c : PCfg) (h : c.Right) (w : World) : Calls Tryz.prog 107 #[c.val] w fun e w' => e = .returned (.int .i64 (3 + c.pins)) ∧ Below w.heap.size w w' := by
  obtain ⟨a, b, s, q, t, z⟩ := c
  rw [show PCfg.val ⟨a, b, s, q, t, z⟩ = .agg #[.int .i64 a, .int .i64 b, .int .i64 s, .int .i64 q, .int .i64 t, .int .u64 z] from rfl]
  have h1 : 1 ≤ b ∧ b ≤ 8 := h.pins
  go_enter Tryz.func107, Tryz.ntmps107
  go_wp2
  go_ret
  exact ⟨by simp, Below.more_ (Below.refl _ _) _⟩
set_option maxHeartbeats 1000000 in
theorem shelves_any (c : PCfg) (h : c.Right) (w : World) : Calls Tryz.prog 75 #[c.val] w fun e w' => e = .returned (.int .i64 (3 + c.pins + c.cap)) ∧ Below w.heap.size w w' := by
  have hR := fun W => ring_any c h W
  obtain ⟨a, b, s, q, t, z⟩ := c
  rw [show PCfg.val ⟨a, b, s, q, t, z⟩ = .agg #[.int .i64 a, .int .i64 b, .int .i64 s, .int .i64 q, .int .i64 t, .int .u64 z] from rfl] at *
  have h1 : 1 ≤ b ∧ b ≤ 8 := h.pins
  have h2 : 1 ≤ a ∧ a ≤ 32 := h.cap
  have hw : IntKind.i64.wrap (3 + b + a) = 3 + b + a := IntWalk.i64_in _ (by omega)
  have B1 := Blk.new w 24 #[.int .i64 a, .int .i64 b, .int .i64 s, .int .i64 q, .int .i64 t, .int .u64 z]
  have hz : Below w.heap.size w (w.alloc (.cells #[.int .i64 a, .int .i64 b, .int .i64 s, .int .i64 q, .int .i64 t, .int .u64 z] 24)) := (Below.refl _ _).alloc (Nat.le_refl _) _
  replace B1 := Lib.hid B1
  replace hz := Lib.hid hz
  replace hR := Lib.hid hR
  go_enter Tryz.func75, Tryz.ntmps75
  go_wp2_with fail
  go_region_with (go_at_call 107; refine (hR.out _).mono ?_; rintro e w1 ⟨rfl, hb⟩; have c0 := (Blk.below (w := (w.alloc (.cells #[.int .i64 a, .int .i64 b, .int .i64 s, .int .i64 q, .int .i64 t, .int .u64 z] 24)).drew) B1.out hb (by simp)).cell 0)
  all_goals
    go_wp2
    go_ret
    refine ⟨by simp [Act.put], ?_⟩
    have hb' := nx (b := (w.alloc (.cells #[.int .i64 a, .int .i64 b, .int .i64 s, .int .i64 q, .int .i64 t, .int .u64 z] 24)).drew) hz.out.drew (Nat.le_refl _) hb
    first | exact hb' | exact hb'.drew | exact below_drewN hb' _
set_option maxHeartbeats 1000000 in
theorem planSize_any (c : PCfg) (h : c.Right) (w : World) : Calls Tryz.prog 59 #[c.val] w fun e w' => e = .returned (.int .i64 (3 + c.pins + c.cap + 2 * c.shelves)) ∧ Below w.heap.size w w' := by
  have hR := fun W => right_cfg c W
  rw [(PCfg.right_iff c).2 h] at hR
  have hS := fun W => shelves_any c h W
  obtain ⟨a, b, s, q, t, z⟩ := c
  rw [show PCfg.val ⟨a, b, s, q, t, z⟩ = .agg #[.int .i64 a, .int .i64 b, .int .i64 s, .int .i64 q, .int .i64 t, .int .u64 z] from rfl] at *
  have h1 : 1 ≤ b ∧ b ≤ 8 := h.pins
  have h2 : 1 ≤ a ∧ a ≤ 32 := h.cap
  have h3 : 1 ≤ s ∧ s ≤ 64 := h.shelves
  have hw0 : IntKind.i64.wrap (2 * s) = 2 * s := IntWalk.i64_in _ (by omega)
  have hw : IntKind.i64.wrap (3 + b + a + 2 * s) = 3 + b + a + 2 * s := IntWalk.i64_in _ (by omega)
  have B1 := Blk.new w 24 #[.int .i64 a, .int .i64 b, .int .i64 s, .int .i64 q, .int .i64 t, .int .u64 z]
  have hz : Below w.heap.size w (w.alloc (.cells #[.int .i64 a, .int .i64 b, .int .i64 s, .int .i64 q, .int .i64 t, .int .u64 z] 24)) := (Below.refl _ _).alloc (Nat.le_refl _) _
  replace B1 := Lib.hid B1
  replace hz := Lib.hid hz
  replace hR := Lib.hid hR
  replace hS := Lib.hid hS
  go_enter Tryz.func59, Tryz.ntmps59
  go_wp2_with fail
  refine (hR.out _).mono ?_; rintro e w1 ⟨rfl, hb⟩
  have hz1 := nx hz.out (Nat.le_refl _) hb
  have B2 := B1.out.below hb (by simp)
  have hs1 : w.heap.size < w1.heap.size := B2.lt
  have d0 := B2.cell 0
  have d1 := B2.cell 1
  have d2 := B2.cell 2
  have d3 := B2.cell 3
  have d4 := B2.cell 4
  have d5 := B2.cell 5
  clear hb
  replace hz1 := Lib.hid hz1
  replace B2 := Lib.hid B2
  go_wp2_with fail
  go_region_with (go_at_call 75; refine (hS.out _).mono ?_; rintro e w2 ⟨rfl, hb⟩; have c2 := (Blk.below (w := w1.drew) B2.out hb hs1).cell 2)
  all_goals
    go_wp2
    go_ret
    refine ⟨by simp [Act.put], ?_⟩
    have hb' := nx (b := w1.drew) hz1.out.drew (Nat.le_refl _) hb
    first | exact hb' | exact hb'.drew | exact below_drewN hb' _
set_option maxHeartbeats 1000000 in
theorem planPin_any (c : PCfg) (h : c.Right) (i : Int) (hi : 0 ≤ i ∧ i < c.pins) (w : World) : Calls Tryz.prog 28 #[c.val, .int .i64 i] w fun e w' => e = .returned (.int .i64 (3 + i)) ∧ Below w.heap.size w w' := by
  have hR := fun W => right_cfg c W
  rw [(PCfg.right_iff c).2 h] at hR
  have hW := fun W => within_any i 0 (c.pins - 1) W
  rw [show decide (0 ≤ i ∧ i ≤ c.pins - 1) = true from by simp; omega] at hW
  obtain ⟨a, b, s, q, t, z⟩ := c
  rw [show PCfg.val ⟨a, b, s, q, t, z⟩ = .agg #[.int .i64 a, .int .i64 b, .int .i64 s, .int .i64 q, .int .i64 t, .int .u64 z] from rfl] at *
  have h1 : 1 ≤ b ∧ b ≤ 8 := h.pins
  have hi2 : i < b := hi.2
  have hw0 : IntKind.i64.wrap (b - 1) = b - 1 := IntWalk.i64_in _ (by omega)
  have hw : IntKind.i64.wrap (3 + i) = 3 + i := IntWalk.i64_in _ (by omega)
  have B1 := Blk.new w 24 #[.int .i64 a, .int .i64 b, .int .i64 s, .int .i64 q, .int .i64 t, .int .u64 z]
  have hz : Below w.heap.size w (w.alloc (.cells #[.int .i64 a, .int .i64 b, .int .i64 s, .int .i64 q, .int .i64 t, .int .u64 z] 24)) := (Below.refl _ _).alloc (Nat.le_refl _) _
  replace B1 := Lib.hid B1
  replace hz := Lib.hid hz
  replace hR := Lib.hid hR
  replace hW := Lib.hid hW
  go_enter Tryz.func28, Tryz.ntmps28
  go_wp2_with fail
  refine (hR.out _).mono ?_; rintro e w1 ⟨rfl, hb⟩
  have hz1 := nx hz.out (Nat.le_refl _) hb
  have d1 := (B1.out.below hb (by simp)).cell 1
  clear hb
  replace hz1 := Lib.hid hz1
  go_wp2_with fail
  refine (hW.out _).mono ?_; rintro e w2 ⟨rfl, rfl⟩
  go_wp2_with fail
  go_ret
  exact ⟨rfl, hz1.out⟩
set_option maxHeartbeats 1000000 in
theorem planKey_any (c : PCfg) (h : c.Right) (i : Int) (hi : 0 ≤ i ∧ i < c.shelves) (w : World) : Calls Tryz.prog 39 #[c.val, .int .i64 i] w fun e w' => e = .returned (.int .i64 (3 + c.pins + c.cap + 2 * i)) ∧ Below w.heap.size w w' := by
  have hR := fun W => right_cfg c W
  rw [(PCfg.right_iff c).2 h] at hR
  have hS := fun W => shelves_any c h W
  have hW := fun W => within_any i 0 (c.shelves - 1) W
  rw [show decide (0 ≤ i ∧ i ≤ c.shelves - 1) = true from by simp; omega] at hW
  obtain ⟨a, b, s, q, t, z⟩ := c
  rw [show PCfg.val ⟨a, b, s, q, t, z⟩ = .agg #[.int .i64 a, .int .i64 b, .int .i64 s, .int .i64 q, .int .i64 t, .int .u64 z] from rfl] at *
  have h1 : 1 ≤ b ∧ b ≤ 8 := h.pins
  have h2 : 1 ≤ a ∧ a ≤ 32 := h.cap
  have h3 : 1 ≤ s ∧ s ≤ 64 := h.shelves
  have hi2 : i < s := hi.2
  have hw0 : IntKind.i64.wrap (s - 1) = s - 1 := IntWalk.i64_in _ (by omega)
  have hw1 : IntKind.i64.wrap (2 * i) = 2 * i := IntWalk.i64_in _ (by omega)
  have hw : IntKind.i64.wrap (3 + b + a + 2 * i) = 3 + b + a + 2 * i := IntWalk.i64_in _ (by omega)
  have B1 := Blk.new w 24 #[.int .i64 a, .int .i64 b, .int .i64 s, .int .i64 q, .int .i64 t, .int .u64 z]
  have hz : Below w.heap.size w (w.alloc (.cells #[.int .i64 a, .int .i64 b, .int .i64 s, .int .i64 q, .int .i64 t, .int .u64 z] 24)) := (Below.refl _ _).alloc (Nat.le_refl _) _
  replace B1 := Lib.hid B1
  replace hz := Lib.hid hz
  replace hR := Lib.hid hR
  replace hW := Lib.hid hW
  replace hS := Lib.hid hS
  go_enter Tryz.func39, Tryz.ntmps39
  go_wp2_with fail
  refine (hR.out _).mono ?_; rintro e w1 ⟨rfl, hb⟩
  have hz1 := nx hz.out (Nat.le_refl _) hb
  have B2 := B1.out.below hb (by simp)
  have d0 := B2.cell 0
  have d1 := B2.cell 1
  have d2 := B2.cell 2
  have d3 := B2.cell 3
  have d4 := B2.cell 4
  have d5 := B2.cell 5
  clear hb
  replace B2 := Lib.hid B2
  replace hz1 := Lib.hid hz1
  go_wp2_with fail
  refine (hW.out _).mono ?_; rintro e w2 ⟨rfl, rfl⟩
  go_wp2_with fail
  refine (hS.out _).mono ?_; rintro e w2 ⟨rfl, hb⟩
  go_wp2_with fail
  go_ret
  exact ⟨rfl, nx hz1.out (Nat.le_refl _) hb⟩
set_option maxHeartbeats 1000000 in
theorem planHead_any (c : PCfg) (h : c.Right) (i : Int) (hi : 0 ≤ i ∧ i < c.shelves) (w : World) : Calls Tryz.prog 82 #[c.val, .int .i64 i] w fun e w' => e = .returned (.int .i64 (3 + c.pins + c.cap + 2 * i + 1)) ∧ Below w.heap.size w w' := by
  have hK := fun W => planKey_any c h i hi W
  obtain ⟨a, b, s, q, t, z⟩ := c
  rw [show PCfg.val ⟨a, b, s, q, t, z⟩ = .agg #[.int .i64 a, .int .i64 b, .int .i64 s, .int .i64 q, .int .i64 t, .int .u64 z] from rfl] at *
  have h1 : 1 ≤ b ∧ b ≤ 8 := h.pins
  have h2 : 1 ≤ a ∧ a ≤ 32 := h.cap
  have h3 : 1 ≤ s ∧ s ≤ 64 := h.shelves
  have hi2 : i < s := hi.2
  have d9 : decide ((0 : Int) ≤ 3 + b + a + 2 * i) = true := by simp; omega
  have hw : IntKind.i64.wrap (3 + b + a + 2 * i + 1) = 3 + b + a + 2 * i + 1 := IntWalk.i64_in _ (by omega)
  have hz : Below w.heap.size w (w.alloc (.cells #[.int .i64 a, .int .i64 b, .int .i64 s, .int .i64 q, .int .i64 t, .int .u64 z] 24)) := (Below.refl _ _).alloc (Nat.le_refl _) _
  replace hz := Lib.hid hz
  replace hK := Lib.hid hK
  go_enter Tryz.func82, Tryz.ntmps82
  go_wp2_with fail
  refine (hK.out _).mono ?_; rintro e w1 ⟨rfl, hb⟩
  have hz1 := nx hz.out (Nat.le_refl _) hb
  go_wp2_with fail
  go_ret
  exact ⟨rfl, hz1⟩
end Go.Proofs.YtmlnhjfdhjachaaGreat
