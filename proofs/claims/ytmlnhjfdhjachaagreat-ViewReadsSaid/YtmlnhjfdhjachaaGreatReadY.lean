/-
  Laying a change on a field (layer 26's law): what is told of the pairs. No condition.
-/
import Derived.Test.YtmlnhjfdhjachaaGreatLay
import Derived.Test.YtmlnhjfdhjachaaGreatReadX
namespace Go.Proofs.YtmlnhjfdhjachaaGreat
set_option linter.unusedVariables false
open Go.ChangeShapes Go.WideShapes Go.ChangeAt Go.RowKit
open Go.ChangeMaps (setBlock)

/-- What laying leaves where it went well. -/
structure LayOk (c : PCfg) (key value : ByteArray) (has : Bool) (ep e : Int) (pn : Nat → Int) (S : PHeap) (tx : Nat → Option ByteArray) (st : Nat → List PVersion) (S' : PHeap) (tx' : Nat → Option ByteArray) (st' : Nat → List PVersion) : Prop where
  laid : Laid S' c tx' st' pn e
  last : S'.last ≤ S.last + 2
  len : ∀ j, (st' j).length ≤ (st j).length + 1
  know : ∀ e' m m', Know c tx st e' m → (∀ t, getP m' t = if t = key ∧ ep ≤ e' then (has, if has then value else ByteArray.empty) else getP m t) → Know c tx' st' e' m'
theorem putS_len (st : Nat → List PVersion) (p : Nat) (v : PVersion) (j : Nat) : (putS st p v j).length ≤ (st j).length + 1 := by
  unfold putS
  split
  · exact Nat.le_refl _
  · omega
theorem lay_any {w0 w : World} {hb : Nat} {S : PHeap} {F : Nat → Prop} {K : List (Nat × Obj)} {c : PCfg} {tx : Nat → Option ByteArray} {st : Nat → List PVersion} {pn : Nat → Int} {e ep : Int} {key value : ByteArray} {has : Bool} (hc : c.Right) (o : OwnK w0 hb S F K w) (hL : Laid S c tx st pn e) (hl : S.last ≤ 900)
    (hkey : key.size ≤ 9223372036854775807) (hval : value.size ≤ 1000) (hep : 0 ≤ ep ∧ ep ≤ 18446744073709551615) :
    Calls Tryz.prog 17 #[.pointer (some ⟨hb, 0, none⟩), .agg #[.int .i64 c.cap, .int .i64 c.pins, .int .i64 c.shelves, .int .i64 c.queue, .int .i64 c.watchers, .int .u64 c.seed], .int .u64 ep, .agg #[.string key, .bool has, .string value]] w fun x w' => ∃ S' F' ok tx' st', x = .returned (.bool ok) ∧ OwnK w0 hb S' F' K w' ∧ (ok = true → LayOk c key value has ep e pn S tx st S' tx' st') := by
  rcases look_kind (key := key) (pl := plN c key) (tx := tx) c.shelves.toNat 0 with ⟨h1, p, h2, h3, i, hi⟩ | h1 | ⟨h1, _⟩
  · have hp : (p : Int) < c.shelves := by rw [hi]; exact (plN_eq hc key i).2
    refine (layHere_any (value := value) (has := has) hc o hL hl hkey hval hep p hp h1 h2).mono ?_
    rintro x w' ⟨S', F', bk, rfl, h4, h5, h6, _⟩
    exact ⟨S', F', true, _, _, rfl, h4, fun _ => ⟨h5, h6, putS_len _ _ _, fun e' m m' hk hm => hk.push h3 bk ep has hm⟩⟩
  · obtain ⟨p, h2, h3, ⟨i, hi⟩, _⟩ := look_put (key := key) (pl := plN c key) (tx := tx) c.shelves.toNat 0 h1
    have hp : (p : Int) < c.shelves := by rw [hi]; exact (plN_eq hc key i).2
    refine (layFree_any (value := value) (has := has) hc o hL hl hkey hval hep p hp h1 h2 h3).mono ?_
    rintro x w' ⟨S', F', bk, rfl, h4, h5, h6⟩
    exact ⟨S', F', true, _, _, rfl, h4, fun _ => ⟨h5, h6, putS_len _ _ _, fun e' m m' hk hm => (hk.put h1 h2 h3).push (by unfold putT; rw [if_pos rfl]) bk ep has hm⟩⟩
  · refine (layNo_any (value := value) (has := has) hc o hL hl hkey hval hep h1).mono ?_
    rintro x w' ⟨F', rfl, h4⟩
    exact ⟨S, F', false, tx, st, rfl, h4, fun h => by cases h⟩
end Go.Proofs.YtmlnhjfdhjachaaGreat
