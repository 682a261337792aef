/-
  Looking for a key's shelf alone; putting a key on it (layer 23). No condition.
-/
import Derived.Test.YtpldnbdcpihjcaaFindA
import Derived.Test.YtpldnbdcpihjcaaCtlO
namespace Go.Proofs.Ytpldnbdcpihjcaa
set_option linter.unusedVariables false
open Go.ChangeShapes Go.WideShapes Go.ChangeAt Go.RowKit
open Go.ChangeMaps (setBlock)

/-- What looking alone leaves. -/
structure Looked (w0 w : World) (hb : Nat) (S : PHeap) (F : Nat → Prop) (b : Nat) (L : Int × Int × Nat) (s : PFind) (F' : Nat → Prop) (w' : World) : Prop where
  own : Own w0 hb S F' w'
  lies : FindIn w' b s
  res : s.result = ((L.1, L.2.1), true)
  off : ¬ F' b
  sub : ∀ k, F' k → F k ∨ k = b ∨ w.heap.size ≤ k
  chg : Chg (fun k => F k ∨ k = b) w w'
theorem falone {c : PCfg} (hc : c.Right) {key : ByteArray} {w0 w : World} {hb b : Nat} {S : PHeap} {F : Nat → Prop} {tx : Nat → Option ByteArray} (o : Own w0 hb S F w) (hN : FindIn w b (newFind c key)) (hnF : ¬ F b) (hb0 : w0.heap.size ≤ b) (hS : Shelved S c tx) (hf : S.faults = 0) (hl : S.last ≤ 1000) :
    Calls Try.prog 22 #[.pointer (some ⟨hb, 0, none⟩), .iface 27 (.pointer (some ⟨b, 0, none⟩)), .int .i64 1000] w fun e w' => ∃ s F', e = .returned (.tuple #[.int .i64 ((lookP key (plN c key) tx c.shelves.toNat 0).2.2 : Nat), .bool true]) ∧ Looked w0 w hb S F b (lookP key (plN c key) tx c.shelves.toNat 0) s F' w' := by
  have hsh := hc.shelves
  refine (alone_own findRout o (findR_fresh hN) (fun k h1 h2 => hnF (h2 ▸ h1)) (fun k hk => by rw [hk]; exact hb0) (by rw [hf]; decide) (by omega) 1000 (by decide)).mono fun e w' ⟨xs, S', s', F', D', hRun, hstop, _, he, o', hR', hsub, hch, hoff⟩ => ?_
  obtain ⟨hn, hS', ha, hr⟩ := find_alone hc hS hRun hstop (by omega)
  subst hS'
  refine ⟨s', F', ?_, o', hR'.2.2, hr, fun h => hoff b h hR'.2.1, fun k hk => ?_, hch⟩
  · rw [he, hn, show (!(findRout.act s').2) = true from by show (!(PFind.act s').2) = true; rw [ha]; rfl]
  · rcases hsub k (.inl hk) with h | h | h
    · exact .inl h
    · exact .inr (.inl h)
    · exact .inr (.inr h)
/-- What is asked of the places behind a look: they are as they were. -/
theorem Looked.keep {w0 w w' : World} {hb : Nat} {S : PHeap} {F F' : Nat → Prop} {b : Nat} {L : Int × Int × Nat} {s : PFind} (h : Looked w0 w hb S F b L s F' w') {k : Nat} (hk : k < w.heap.size) (hF : ¬ F k) (hb' : k ≠ b) : w'.heap[k]? = w.heap[k]? ∧ ¬ F' k :=
  ⟨h.chg.block k hk (fun h => h.elim hF hb'), fun h1 => by rcases h.sub k h1 with h2 | h2 | h2 <;> first | exact hF h2 | exact hb' h2 | omega⟩
theorem cell_of {w w' : World} {g : Nat} (h : w'.heap[g]? = w.heap[g]?) {j : Nat} {u : Value} (hc : w.cell? ⟨g, j, none⟩ = some u) : w'.cell? ⟨g, j, none⟩ = some u := (World.cell?_of_block (a := ⟨g, j, none⟩) h).trans hc
theorem make_more {w : World} {hb : Nat} {S : PHeap} {F : Nat → Prop} (h : HeapIn w hb S F) (s : ByteArray) (hl : S.last ≤ 1000) :
    Calls Try.prog 25 #[.pointer (some ⟨hb, 0, none⟩), .int .i64 0, .string s] w fun e w' => e = .returned (.int .u64 (S.last + 1)) ∧ ∃ r, Turned F hb (S.more r s) w w' :=
  make_any h 0 (by decide) s (by omega)
/-- A heap of the call's own, and some blocks that it leaves alone. -/
structure OwnK (w0 : World) (hb : Nat) (S : PHeap) (F : Nat → Prop) (K : List (Nat × Obj)) (w : World) : Prop where
  own : Own w0 hb S F w
  keep : ∀ x ∈ K, w.heap[x.1]? = some x.2 ∧ ¬ F x.1
theorem OwnK.lt {w0 w : World} {hb : Nat} {S : PHeap} {F : Nat → Prop} {K : List (Nat × Obj)} (h : OwnK w0 hb S F K w) {x : Nat × Obj} (hx : x ∈ K) : x.1 < w.heap.size := (Array.getElem?_eq_some_iff.1 (h.keep x hx).1).1
theorem OwnK.below {w0 w w' : World} {hb : Nat} {S : PHeap} {F : Nat → Prop} {K : List (Nat × Obj)} (h : OwnK w0 hb S F K w) (hb' : Below w.heap.size w w') : OwnK w0 hb S F K w' :=
  ⟨h.own.keep hb', fun x hx => ⟨(hb'.block _ (h.lt hx)).trans (h.keep x hx).1, (h.keep x hx).2⟩⟩
theorem OwnK.turned {w0 w w' : World} {hb : Nat} {S S' : PHeap} {F : Nat → Prop} {K : List (Nat × Obj)} (h : OwnK w0 hb S F K w) (t : Turned F hb S' w w') : OwnK w0 hb S' (nw F w w') K w' :=
  ⟨h.own.turned t, fun x hx => ⟨(t.2.block _ (h.lt hx) (h.keep x hx).2).trans (h.keep x hx).1, fun hn => by
    rcases hn with hn | hn
    · exact (h.keep x hx).2 hn
    · have := h.lt hx; omega⟩⟩
theorem OwnK.looked {w0 w w' : World} {hb b : Nat} {S : PHeap} {F F' : Nat → Prop} {K : List (Nat × Obj)} {L : Int × Int × Nat} {s : PFind} (h : OwnK w0 hb S F K w) (hl : Looked w0 w hb S F b L s F' w') (hK : ∀ x ∈ K, x.1 ≠ b) : OwnK w0 hb S F' K w' :=
  ⟨hl.own, fun x hx => by
    have := hl.keep (h.lt hx) (h.keep x hx).2 (hK x hx)
    exact ⟨this.1.trans (h.keep x hx).1, this.2⟩⟩
/-- One block more that it leaves alone. -/
theorem OwnK.add {w0 w : World} {hb : Nat} {S : PHeap} {F : Nat → Prop} {K : List (Nat × Obj)} (h : OwnK w0 hb S F K w) (o : Obj) : OwnK w0 hb S F ((w.heap.size, o) :: K) (w.alloc o) := by
  have h1 := h.below (Below.more_ (Below.refl _ _) o)
  refine ⟨h1.own, fun x hx => ?_⟩
  rcases List.mem_cons.1 hx with rfl | hx
  · refine ⟨heap_alloc_new w o, fun hF => ?_⟩
    have := h.own.heap.own _ hF
    omega
  · exact h1.keep x hx
/-- One block less. -/
theorem OwnK.less {w0 w : World} {hb : Nat} {S : PHeap} {F : Nat → Prop} {K : List (Nat × Obj)} {x : Nat × Obj} (h : OwnK w0 hb S F (x :: K) w) : OwnK w0 hb S F K w := ⟨h.own, fun y hy => h.keep y (List.mem_cons_of_mem _ hy)⟩
theorem OwnK.drewN {w0 w : World} {hb : Nat} {S : PHeap} {F : Nat → Prop} {K : List (Nat × Obj)} (h : OwnK w0 hb S F K w) (n : Nat) : OwnK w0 hb S F K (w.drewN n) := h.below (below_drewN (Below.refl _ _) n)
theorem OwnK.drew {w0 w : World} {hb : Nat} {S : PHeap} {F : Nat → Prop} {K : List (Nat × Obj)} (h : OwnK w0 hb S F K w) : OwnK w0 hb S F K w.drew := h.below (Below.refl _ _).drew
theorem OwnK.blk {w0 w : World} {hb : Nat} {S : PHeap} {F : Nat → Prop} {K : List (Nat × Obj)} (h : OwnK w0 hb S F K w) {b : Nat} {t : TypeId} {cs : Array Value} (hx : (b, Obj.cells cs t) ∈ K) : Blk w b t cs := (h.keep _ hx).1
end Go.Proofs.Ytpldnbdcpihjcaa
